/- Proved: the tied card of CareLays (Rows.CareLaysCardSaid): for every copy, list of pieces and stamps that the row lets in, the law CareLays answers true, ends, and changes nothing that it was given. Conditions: those of the given statement, no others. -/
import Derived.Test.YtenfndlbldffgaaDoorCwI
import Derived.Test.YtenfndlbldffgaaDoorCwS
import Derived.Test.YtenfndlbldffgaaDoorViV
import Derived.Test.YtenfndlbldffgaaDoorCards
import Derived.Test.YtenfndlbldffgaaDoorTie
import Derived.ProofKit
import Derived.LaidMore
import Derived.OpenShut
import Derived.Stop.Joined
import Derived.SevenTiedAt
set_option autoImplicit false
set_option maxRecDepth 100000
namespace Go.Proofs.YtenfndlbldffgaaDoor
open Go.ChangeShapes Go.WideShapes Go.ChangeAt Go.RowKit
theorem Tryd.own : ownKnob Tryd.prog.godebug = none := by kernel_rfl
theorem Tryd.laidOut : laidOutB Tryd.prog = true := by kernel_rfl
theorem plain3 : ∀ t ∈ Tryd.f3.params.toList, ∀ f, 6 ≤ f → Vi.plainT Tryd.prog f t = true := by
  rw [Tryd.params3]
  simp only [List.mem_cons, List.not_mem_nil, or_false]
  rintro t (rfl | rfl | rfl) <;> exact Vi.plainT_le (by kernel_rfl)
theorem read3 : ∀ t ∈ Tryd.f3.params.toList, Tryd.prog.readableRec t = true ∧ t < Tryd.prog.types.size := by
  rw [Tryd.params3]
  simp only [List.mem_cons, List.not_mem_nil, or_false]
  rintro t (rfl | rfl | rfl) <;> exact ⟨by kernel_rfl, of_decide_eq_true (by kernel_rfl)⟩
theorem xs_law (a0 a1 a2 : Vi.AV) (h0 : Vi.ArgIs Tryd.prog 6 24 a0) (h1 : Vi.ArgIs Tryd.prog 6 25 a1) (h2 : Vi.ArgIs Tryd.prog 6 28 a2) : Vi.XS Tryd.prog (fun _ => none) 3 [a0, a1, a2] [] (fun r _ => r = .bool true) := by
  obtain ⟨last0, pages, rfl, b1, b2, b3, b4⟩ := Vi.image_of h0
  obtain ⟨c1, c2, c3, c4⟩ := Vi.pieces_of h1
  obtain ⟨st, last, rfl, d1, d2, d3⟩ := Vi.stamps_of h2
  exact Vi.t3 last0 last pages a1 st b1 b2 c1 c2 d1 b3 c3 d2 b4 c4 d3
theorem door_met (os : Os) (args : Array Value) : laidMetH Tryd.prog Rows.careLaysRow.laid ((World.doorLaid Tryd.prog 400 os).forCall (fun _ _ => 0) ⟨#[], args, []⟩).memory :=
  laidMetH_of_parts3 (fuel := 8) (laidMet_of_run' 8 (by kernel_rfl) (by kernel_rfl)) (by kernel_rfl) (by kernel_rfl)
set_option maxRecDepth 100000 in
theorem careLays_lifted (os : Os) (started : os.Started) (H : Type) (enc : TypeId × Value → H) :
    ReturnsInHanded {} Tryd.checked os 3 .any (fun w args => (Rows.careLaysSpec.pre enc Tryd.prog Tryd.f3 [] false w args ∧ laidMetH Tryd.prog Rows.careLaysRow.laid w) ∧ sizedMet enc Tryd.prog Tryd.f3 (OpenSpec.ofChange Rows.careLaysSpec) false w args)
      (Rows.careLaysSpec.post enc Tryd.prog Tryd.f3 false true false false) := by
  refine returnsInHanded_of_change_and (C := Tryd.checked) (X := fun w _ => laidMetH Tryd.prog Rows.careLaysRow.laid w) (fun _ _ _ hh h => h.of_heap hh) Tryd.own started (by kernel_rfl) Tryd.func3
    (ChangeSpec.witness_shaped (enc := enc) (C := Tryd.checked) (os := os) (X := fun w _ => laidMetH Tryd.prog Rows.careLaysRow.laid w) false (World.doorLaid Tryd.prog 400 os) #[.agg #[.int .i64 0, .slice none 0 0], .slice none 0 0, .agg #[.slice none 0 0, .int .i64 0]] 8 rfl (World.shaped_of_RefB (by kernel_rfl) (by kernel_rfl)) (by kernel_rfl) (by kernel_rfl) (by kernel_rfl) (door_met os _)) ?_
  intro W base args ds gs before hval0 hW _ _ hL _
  have hval : ∀ (j : Nat) t v, Tryd.f3.params[j]? = some t → args[j]? = some v → Value.okWide Tryd.prog W .any base t v := hval0
  have hW' := hW
  obtain ⟨p, q, hA0, hV, rfl, hfz, hnd⟩ := hW
  have hA : DataW.TrodAll enc Tryd.prog W 0 (fun _ => true) true Tryd.f3.params.toList args.toList ds p := hA0
  rw [Tryd.params3] at hA hval
  obtain ⟨v0, ds0, d0, dr0, p0, q0, e0, rfl, rfl, h0, hA⟩ := trodAll_cons hA
  obtain ⟨v1, ds1, d1, dr1, p1, q1, rfl, rfl, rfl, h1, hA⟩ := trodAll_cons hA
  obtain ⟨v2, ds2, d2, dr2, p2, q2, rfl, rfl, rfl, h2, hA⟩ := trodAll_cons hA
  obtain ⟨rfl, rfl, rfl⟩ := trodAll_nil hA
  obtain ⟨rfl, rfl⟩ := trodVars_none hV
  have eargs : args = #[v0, v1, v2] := by apply Array.ext'; simpa using e0
  subst eargs
  have pl := plain3
  rw [Tryd.params3] at pl
  obtain ⟨a0, b0, r0⟩ := Vi.arg_bridge (F := 6) (pl 24 (by simp)) (hval 0 24 v0 rfl rfl) h0
  obtain ⟨a1, b1, r1⟩ := Vi.arg_bridge (F := 6) (pl 25 (by simp)) (hval 1 25 v1 rfl rfl) h1
  obtain ⟨a2, b2, r2⟩ := Vi.arg_bridge (F := 6) (pl 28 (by simp)) (hval 2 28 v2 rfl rfl) h2
  refine (Vi.law_calls (W := W) (xs_law a0 a1 a2 b0 b1 b2) (Vs := [v0, v1, v2]) rfl (fun j x V hx hV => by
    match j with
    | 0 => simp at hx hV; subst hx; subst hV; exact r0
    | 1 => simp at hx hV; subst hx; subst hV; exact r1
    | 2 => simp at hx hV; subst hx; subst hV; exact r2
    | j + 3 => simp at hx)).mono fun e W' ⟨he, hb⟩ => ?_
  subst he
  exact ⟨_, rfl, Vi.post_law hW' rfl rfl Tryd.laidOut read3 (by kernel_rfl) (show Tryd.prog.underlying 4 = some .bool by kernel_rfl) hb⟩
theorem careLays_holds : Rows.CareLaysSaid :=
  OpenClaim.holds_of_wide 3 Tryd.f3 rfl rfl rfl rfl rfl rfl rfl ⟨rfl, rfl, rfl, rfl, rfl⟩ rfl rfl rfl rfl rfl (by kernel_rfl) Tryd.func3 (by kernel_rfl)
    (of_decide_eq_true (by kernel_rfl)) (by unfold Func.isWrapper; first | (rw [if_pos (by decide +kernel)]; kernel_rfl) | (rw [if_neg (by decide +kernel)]; exact ⟨rfl, rfl⟩))
    (fun os started H enc _ => careLays_lifted os started H enc)
/-- The tied card of CareLays. -/
theorem card_holds : Rows.CareLaysCardSaid :=
  Claim7.holds_tied_plain_at .later [] [.data, .data, .data] true (true, "ee372b2c8cb2da9301056f43693c725bed289fbeb7bd38a6e19b27b9c7726c2d") false
    careLays_holds (fun _ h => by cases h) (by kernel_rfl) (fun _ h => by cases h) careLays_row_tie rfl ⟨rfl, rfl⟩ (by kernel_rfl) rfl
    (fun f fn hf hfn => by
      obtain rfl : f = 3 := Option.some.inj ((show Tryd.prog.funcNamed "progeny/progenylaw29.CareLays" = some 3 by kernel_rfl).symm.trans hf) |>.symm
      obtain rfl : fn = Tryd.f3 := (Option.some.inj (Tryd.func3.symm.trans hfn)).symm
      exact ⟨by kernel_rfl, fun j t ht => by
        rw [Tryd.params3] at ht
        have h3 : t = 24 ∨ t = 25 ∨ t = 28 := by
          rcases j with _ | _ | _ | j
          · simp at ht; exact .inl ht.symm
          · simp at ht; exact .inr (.inl ht.symm)
          · simp at ht; exact .inr (.inr ht.symm)
          · simp at ht
        rcases h3 with rfl | rfl | rfl
        · exact (show Tryd.prog.wantsStandIn 24 = false by kernel_rfl)
        · exact (show Tryd.prog.wantsStandIn 25 = false by kernel_rfl)
        · exact (show Tryd.prog.wantsStandIn 28 = false by kernel_rfl)⟩)
    (by kernel_rfl)
#print axioms card_holds
end Go.Proofs.YtenfndlbldffgaaDoor
