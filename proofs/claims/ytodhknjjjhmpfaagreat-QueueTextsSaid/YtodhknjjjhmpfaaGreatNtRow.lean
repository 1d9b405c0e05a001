/- Proved: QueueTexts (Rows.QueueTextsSaid): for every value that the row lets in, the law QueueTexts answers true, ends, and changes nothing that it was given. Conditions: those of the given statement, no others. -/
import Derived.Test.YtodhknjjjhmpfaaGreatNtLw
import Derived.Test.YtodhknjjjhmpfaaGreatNtRj
import Derived.Test.YtodhknjjjhmpfaaGreatViV
import Derived.Test.YtodhknjjjhmpfaaGreatRows
import Derived.ProofKit
import Derived.LaidMore
import Derived.OpenShut
import Derived.Stop.Joined
import Derived.SevenTiedAt
import Derived.Lay
set_option autoImplicit false
set_option maxRecDepth 100000
namespace Go.Proofs.YtodhknjjjhmpfaaGreat
open Go.ChangeShapes Go.WideShapes Go.ChangeAt Go.RowKit
theorem Tryz.own : ownKnob Tryz.prog.godebug = none := by kernel_rfl
theorem Tryz.laidOut : laidOutB Tryz.prog = true := by kernel_rfl
theorem plain3 : ∀ t ∈ Tryz.f3.params.toList, ∀ f, 8 ≤ f → Vi.plainT Tryz.prog f t = true := by
  rw [Tryz.params3]
  simp only [List.mem_cons, List.not_mem_nil, or_false]
  rintro t rfl <;> exact Vi.plainT_le (by kernel_rfl)
theorem read3 : ∀ t ∈ Tryz.f3.params.toList, Tryz.prog.readableRec t = true ∧ t < Tryz.prog.types.size := by
  rw [Tryz.params3]
  simp only [List.mem_cons, List.not_mem_nil, or_false]
  rintro t rfl <;> exact ⟨by kernel_rfl, of_decide_eq_true (by kernel_rfl)⟩
theorem lifted (os : Os) (started : os.Started) (H : Type) (enc : TypeId × Value → H) :
    ReturnsInHanded {} Tryz.checked os 3 .any (Rows.queueTextsSpec.pre6 enc Tryz.prog Tryz.f3 [] false) (Rows.queueTextsSpec.post enc Tryz.prog Tryz.f3 false true false false) := by
  refine returnsInHanded_of_change (C := Tryz.checked) Tryz.own started (by kernel_rfl) Tryz.func3
    (ChangeSpec.witness6 (enc := enc) (C := Tryz.checked) (os := os) false ⟨#[], #[.slice none 0 0], []⟩ 8 (by kernel_rfl) (by kernel_rfl) (by kernel_rfl) (by kernel_rfl)) ?_
  intro W base args ds gs before hval0 hW _ hL
  have hval : ∀ (j : Nat) t v, Tryz.f3.params[j]? = some t → args[j]? = some v → Value.okWide Tryz.prog W .any base t v := hval0
  have hW' := hW
  obtain ⟨p, q, hA0, hV, rfl, hfz, hnd⟩ := hW
  have hA : DataW.TrodAll enc Tryz.prog W 0 (fun _ => true) true Tryz.f3.params.toList args.toList ds p := hA0
  rw [Tryz.params3] at hA hval
  obtain ⟨v0, ds0, d0, dr0, p0, q0, e0, rfl, rfl, h0, hA⟩ := trodAll_cons hA
  obtain ⟨rfl, rfl, rfl⟩ := trodAll_nil hA
  obtain ⟨rfl, rfl⟩ := trodVars_none hV
  have eargs : args = #[v0] := by apply Array.ext'; rw [e0]
  subst eargs
  have pl := plain3
  rw [Tryz.params3] at pl
  obtain ⟨a0, b0, r0⟩ := Vi.arg_bridge (F := 8) (pl 22 (by simp)) (hval 0 22 v0 rfl rfl) h0
  refine (Vi.law_calls (W := W) (Vi.f3_xs a0 (Vi.texts_of b0)) (Vs := [v0]) rfl (fun j x V hx hV => by
    match j with
    | 0 => simp at hx hV; subst hx; subst hV; exact r0
    | j + 1 => simp at hx)).mono fun e W' ⟨he, hb⟩ => ?_
  subst he
  exact ⟨_, rfl, Vi.post_law hW' rfl rfl Tryz.laidOut read3 (by kernel_rfl) (show Tryz.prog.underlying 4 = some .bool by kernel_rfl) hb⟩
theorem queueTexts_holds : Rows.QueueTextsSaid :=
  OpenClaim.holds_of_wide 3 Tryz.f3 rfl rfl rfl rfl rfl rfl rfl ⟨rfl, rfl, rfl, rfl, rfl⟩ rfl rfl rfl rfl rfl named3 Tryz.func3 joined3 inst3 wrap3
    (fun os started H enc _ => lifted os started H enc)
#print axioms queueTexts_holds
end Go.Proofs.YtodhknjjjhmpfaaGreat
