/- Proved: the tied card of CareAgree (Rows.CareAgreeCardSaid): for every list of records and every two numbers below 256 that the row lets in, the law CareAgree answers true, ends, and changes nothing that it was given. Conditions: those of the given statement, no others. -/
import Derived.Test.YtenfndlbldffgaaGreatDoorHh
import Derived.Test.YtenfndlbldffgaaGreatDoorHd
import Derived.Test.YtenfndlbldffgaaGreatDoorCards
import Derived.Test.YtenfndlbldffgaaGreatDoorTie
import Derived.ProofKit
import Derived.LaidMore
import Derived.OpenShut
import Derived.Stop.Joined
import Derived.SevenTiedAt
import Derived.Lay
set_option autoImplicit false
set_option maxRecDepth 100000
namespace Go.Proofs.YtenfndlbldffgaaGreatDoor
open Go.ChangeShapes Go.WideShapes Go.ChangeAt Go.RowKit
theorem Tryz.own : ownKnob Tryz.prog.godebug = none := by kernel_rfl
theorem Tryz.laidOut : laidOutB Tryz.prog = true := by kernel_rfl
theorem plain7 : ∀ t ∈ Tryz.f7.params.toList, ∀ f, 8 ≤ f → Vi.plainT Tryz.prog f t = true := by
  rw [Tryz.params7]
  simp only [List.mem_cons, List.not_mem_nil, or_false]
  rintro t (rfl | rfl) <;> exact Vi.plainT_le (by kernel_rfl)
theorem read7 : ∀ t ∈ Tryz.f7.params.toList, Tryz.prog.readableRec t = true ∧ t < Tryz.prog.types.size := by
  rw [Tryz.params7]
  simp only [List.mem_cons, List.not_mem_nil, or_false]
  rintro t (rfl | rfl) <;> exact ⟨by kernel_rfl, of_decide_eq_true (by kernel_rfl)⟩
theorem retv_bool {H : Vi.Hp} {r : Vi.AV} {b : Bool} (h : Vi.retv H r = some (.bool b)) : r = .bool b := by
  cases r <;> simp only [Vi.retv, Vi.ret1, Vi.ret0, Vi.retD] at h
  all_goals try (split at h <;> simp_all)
  all_goals try (simp_all [Option.map_eq_some_iff])
theorem xs_law (a0 a1 : Vi.AV) (h0 : Vi.ArgIs Tryz.prog 8 43 a0) (h1 : Vi.ArgIs Tryz.prog 8 57 a1) : Vi.XS Tryz.prog (fun _ => none) 7 [a0, a1] [] (fun r _ => r = .bool true) := by
  obtain ⟨l, hx⟩ := Vi.Lay.recs_of h0
  obtain ⟨b0, b1, rfl, hb0, hb1⟩ := Vi.Lay.pair_of h1
  refine Vi.XS.mono (Vi.Lay.lawAgree (fun _ => none) _ l hx b0 b1 hb0 hb1) ?_
  intro r H h
  exact retv_bool h
theorem door_met (os : Os) (args : Array Value) : laidMetH Tryz.prog Rows.careAgreeRow.laid ((World.laidAll Tryz.prog os Rows.careAgreeRow.laid).forCall (fun _ _ => 0) ⟨#[], args, []⟩).memory := by
  rw [MakeChecks.laidMetH_plain _ _ _ (by kernel_rfl)]
  exact laidMet_laidAll _ (by kernel_rfl) (by kernel_rfl)
set_option maxRecDepth 100000 in
theorem careAgree_lifted (os : Os) (started : os.Started) (H : Type) (enc : TypeId × Value → H) :
    ReturnsInHanded {} Tryz.checked os 7 .any (fun w args => (Rows.careAgreeSpec.pre enc Tryz.prog Tryz.f7 [] false w args ∧ laidMetH Tryz.prog Rows.careAgreeRow.laid w) ∧ sizedMet enc Tryz.prog Tryz.f7 (OpenSpec.ofChange Rows.careAgreeSpec) false w args)
      (Rows.careAgreeSpec.post enc Tryz.prog Tryz.f7 false true false false) := by
  refine returnsInHanded_of_change_and (C := Tryz.checked) (X := fun w _ => laidMetH Tryz.prog Rows.careAgreeRow.laid w) (fun _ _ _ hh h => h.of_heap hh) Tryz.own started (by kernel_rfl) Tryz.func7
    (ChangeSpec.witness_shaped (enc := enc) (C := Tryz.checked) (os := os) (X := fun w _ => laidMetH Tryz.prog Rows.careAgreeRow.laid w) false (World.laidAll Tryz.prog os Rows.careAgreeRow.laid) #[.slice none 0 0, .agg #[.int .u8 0, .int .u8 0]] 8 (World.laidAll_os _ _ _)
      (World.shaped_of_ZipB (by kernel_rfl) (by kernel_rfl)) (by kernel_rfl) (by kernel_rfl) (by kernel_rfl) (door_met os _)) ?_
  intro W base args ds gs before hval0 hW _ _ hL _
  have hval : ∀ (j : Nat) t v, Tryz.f7.params[j]? = some t → args[j]? = some v → Value.okWide Tryz.prog W .any base t v := hval0
  have hW' := hW
  obtain ⟨p, q, hA0, hV, rfl, hfz, hnd⟩ := hW
  have hA : DataW.TrodAll enc Tryz.prog W 0 (fun _ => true) true Tryz.f7.params.toList args.toList ds p := hA0
  rw [Tryz.params7] at hA hval
  obtain ⟨v0, ds0, d0, dr0, p0, q0, e0, rfl, rfl, h0, hA⟩ := trodAll_cons hA
  obtain ⟨v1, ds1, d1, dr1, p1, q1, rfl, rfl, rfl, h1, hA⟩ := trodAll_cons hA
  obtain ⟨rfl, rfl, rfl⟩ := trodAll_nil hA
  obtain ⟨rfl, rfl⟩ := trodVars_none hV
  have eargs : args = #[v0, v1] := by apply Array.ext'; simpa using e0
  subst eargs
  have pl := plain7
  rw [Tryz.params7] at pl
  obtain ⟨a0, b0, r0⟩ := Vi.arg_bridge (F := 8) (pl 43 (by simp)) (hval 0 43 v0 rfl rfl) h0
  obtain ⟨a1, b1, r1⟩ := Vi.arg_bridge (F := 8) (pl 57 (by simp)) (hval 1 57 v1 rfl rfl) h1
  refine (Vi.law_calls (W := W) (xs_law a0 a1 b0 b1) (Vs := [v0, v1]) rfl (fun j x V hx hV => by
    match j with
    | 0 => simp at hx hV; subst hx; subst hV; exact r0
    | 1 => simp at hx hV; subst hx; subst hV; exact r1
    | j + 2 => simp at hx)).mono fun e W' ⟨he, hb⟩ => ?_
  subst he
  exact ⟨_, rfl, Vi.post_law hW' rfl rfl Tryz.laidOut read7 (by kernel_rfl) (show Tryz.prog.underlying 4 = some .bool by kernel_rfl) hb⟩
theorem careAgree_holds : Rows.CareAgreeSaid :=
  OpenClaim.holds_of_wide 7 Tryz.f7 rfl rfl rfl rfl rfl rfl rfl ⟨rfl, rfl, rfl, rfl, rfl⟩ rfl rfl rfl rfl rfl (by kernel_rfl) Tryz.func7 (by kernel_rfl)
    (of_decide_eq_true (by kernel_rfl)) (by unfold Func.isWrapper; first | (rw [if_pos (by decide +kernel)]; kernel_rfl) | (rw [if_neg (by decide +kernel)]; exact ⟨rfl, rfl⟩))
    (fun os started H enc _ => careAgree_lifted os started H enc)
/-- The tied card of CareAgree. -/
theorem card_holds : Rows.CareAgreeCardSaid :=
  Claim7.holds_tied_plain_at .later [] [.data, .data, .data] true (true, "aab043e679cebf1a7cd0e92de037bf74bde2b1c8de19ceabe12898062505750c") false
    careAgree_holds (fun _ h => by cases h) (by kernel_rfl) (fun _ h => by cases h) careAgree_row_tie rfl ⟨rfl, rfl⟩ (by kernel_rfl) rfl
    (fun f fn hf hfn => by
      obtain rfl : f = 7 := Option.some.inj ((show Tryz.prog.funcNamed "progeny/progenylaw29.CareAgree" = some 7 by kernel_rfl).symm.trans hf) |>.symm
      obtain rfl : fn = Tryz.f7 := (Option.some.inj (Tryz.func7.symm.trans hfn)).symm
      exact ⟨by kernel_rfl, fun j t ht => by
        rw [Tryz.params7] at ht
        have hm : t ∈ [43, 57] := by simpa using Array.mem_of_getElem? ht
        have hall : ([43, 57].all fun u => !Tryz.prog.wantsStandIn u) = true := by kernel_rfl
        exact (show Tryz.prog.wantsStandIn t = false by simpa using List.all_eq_true.1 hall t hm)⟩)
    (by kernel_rfl)
#print axioms card_holds
end Go.Proofs.YtenfndlbldffgaaGreatDoor
