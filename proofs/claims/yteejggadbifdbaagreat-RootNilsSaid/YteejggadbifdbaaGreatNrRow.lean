/- Proved: RootNils (Rows.RootNilsSaid): for every value that the row lets in, the law RootNils answers true, ends, and changes nothing that it was given. Conditions: those of the given statement, no others. -/
import Derived.Test.YteejggadbifdbaaGreatNrOb
import Derived.Test.YteejggadbifdbaaGreatNrRj
import Derived.Test.YteejggadbifdbaaGreatViU
import Derived.Test.YteejggadbifdbaaGreatRows
import Derived.ProofKit
import Derived.LaidMore
import Derived.OpenShut
import Derived.Stop.Joined
import Derived.SevenTiedAt
import Derived.Lay
set_option autoImplicit false
set_option maxRecDepth 100000
namespace Go.Vi
open Go Go.Proofs
theorem shp_int {P : Program} {f : Nat} {t : TypeId} {xs : List AV} {k : IntKind} (hu : P.underlying t = some (.int k)) (h : Shp P f t xs) : ∃ n, xs = [.int k n] := by
  cases f with
  | zero => exact h.elim
  | succ f =>
    unfold Shp at h
    rw [hu] at h
    obtain ⟨n, h1, _⟩ := h
    exact ⟨n, h1⟩
/-- What the arguments are. -/
theorem key_of {a : AV} (h : ArgIs Tryz.prog 8 22 a) : a = .nils ∨ ∃ r, a = .list .loose r := by
  obtain ⟨f, xs, hf, h1, h2, h3⟩ := h
  obtain ⟨f, rfl⟩ : ∃ g, f = g + 1 := ⟨f - 1, by omega⟩
  unfold Shp at h1
  rw [Tryz.underlying22] at h1
  simp only [argOf, Tryz.underlying22] at h2
  rcases h1 with rfl | ⟨rows, rfl, _⟩
  · cases h2; exact .inl rfl
  · cases h2; exact .inr ⟨_, rfl⟩
theorem num_of {a : AV} (h : ArgIs Tryz.prog 8 3 a) : ∃ n, a = .int .i64 n := by
  obtain ⟨f, xs, hf, h1, h2, h3⟩ := h
  obtain ⟨n, rfl⟩ := shp_int Tryz.underlying3 h1
  simp only [argOf, Tryz.underlying3] at h2
  cases h2
  exact ⟨n, rfl⟩
end Go.Vi
namespace Go.Proofs.YteejggadbifdbaaGreat
open Go.ChangeShapes Go.WideShapes Go.ChangeAt Go.RowKit
theorem Tryz.own : ownKnob Tryz.prog.godebug = none := by kernel_rfl
theorem Tryz.laidOut : laidOutB Tryz.prog = true := by kernel_rfl
theorem plain3 : ∀ t ∈ Tryz.f3.params.toList, ∀ f, 8 ≤ f → Vi.plainT Tryz.prog f t = true := by
  rw [Tryz.params3]
  simp only [List.mem_cons, List.not_mem_nil, or_false]
  rintro t (rfl | rfl | rfl) <;> exact Vi.plainT_le (by kernel_rfl)
theorem read3 : ∀ t ∈ Tryz.f3.params.toList, Tryz.prog.readableRec t = true ∧ t < Tryz.prog.types.size := by
  rw [Tryz.params3]
  simp only [List.mem_cons, List.not_mem_nil, or_false]
  rintro t (rfl | rfl | rfl) <;> exact ⟨by kernel_rfl, of_decide_eq_true (by kernel_rfl)⟩
theorem lifted (os : Os) (started : os.Started) (H : Type) (enc : TypeId × Value → H) :
    ReturnsInHanded {} Tryz.checked os 3 .any (Rows.rootNilsSpec.pre6 enc Tryz.prog Tryz.f3 [] false) (Rows.rootNilsSpec.post enc Tryz.prog Tryz.f3 false true false false) := by
  refine returnsInHanded_of_change (C := Tryz.checked) Tryz.own started (by kernel_rfl) Tryz.func3
    (ChangeSpec.witness6 (enc := enc) (C := Tryz.checked) (os := os) false ⟨#[], #[.int .i64 0, .slice none 0 0, .int .i64 0], []⟩ 8 (by kernel_rfl) (by kernel_rfl) (by kernel_rfl) (by kernel_rfl)) ?_
  intro W base args ds gs before hval0 hW _ hL
  have hval : ∀ (j : Nat) t v, Tryz.f3.params[j]? = some t → args[j]? = some v → Value.okWide Tryz.prog W .any base t v := hval0
  have hW' := hW
  obtain ⟨p, q, hA0, hV, rfl, hfz, hnd⟩ := hW
  have hA : DataW.TrodAll enc Tryz.prog W 0 (fun _ => true) true Tryz.f3.params.toList args.toList ds p := hA0
  rw [Tryz.params3] at hA hval
  obtain ⟨v0, ds0, d0, dr0, p0, q0, e0, rfl, rfl, h0, hA⟩ := trodAll_cons hA
  obtain ⟨v1, ds1, d1, dr1, p1, q1, e1, rfl, rfl, h1, hA⟩ := trodAll_cons hA
  obtain ⟨v2, ds2, d2, dr2, p2, q2, e2, rfl, rfl, h2, hA⟩ := trodAll_cons hA
  obtain ⟨rfl, rfl, rfl⟩ := trodAll_nil hA
  obtain ⟨rfl, rfl⟩ := trodVars_none hV
  have eargs : args = #[v0, v1, v2] := by apply Array.ext'; rw [e0, e1, e2]
  subst eargs
  have pl := plain3
  rw [Tryz.params3] at pl
  obtain ⟨a0, b0, r0⟩ := Vi.arg_bridge (F := 8) (pl 3 (by simp)) (hval 0 3 v0 rfl rfl) h0
  obtain ⟨a1, b1, r1⟩ := Vi.arg_bridge (F := 8) (pl 22 (by simp)) (hval 1 22 v1 rfl rfl) h1
  obtain ⟨a2, b2, r2⟩ := Vi.arg_bridge (F := 8) (pl 3 (by simp)) (hval 2 3 v2 rfl rfl) h2
  obtain ⟨k, rfl⟩ := Vi.num_of b0
  have k1 := Vi.key_of b1
  obtain ⟨n, rfl⟩ := Vi.num_of b2
  refine (Vi.law_calls (W := W) (Vi.f3_xs k a1 k1 n) (Vs := [v0, v1, v2]) rfl (fun j x V hx hV => by
    match j with
    | 0 => simp at hx hV; subst hx; subst hV; exact r0
    | 1 => simp at hx hV; subst hx; subst hV; exact r1
    | 2 => simp at hx hV; subst hx; subst hV; exact r2
    | j + 3 => simp at hx)).mono fun e W' ⟨he, hb⟩ => ?_
  subst he
  exact ⟨_, rfl, Vi.post_law hW' rfl rfl Tryz.laidOut read3 (by kernel_rfl) (show Tryz.prog.underlying 4 = some .bool by kernel_rfl) hb⟩
theorem rootNils_holds : Rows.RootNilsSaid :=
  OpenClaim.holds_of_wide 3 Tryz.f3 rfl rfl rfl rfl rfl rfl rfl ⟨rfl, rfl, rfl, rfl, rfl⟩ rfl rfl rfl rfl rfl named3 Tryz.func3 joined3 inst3 wrap3
    (fun os started H enc _ => lifted os started H enc)
#print axioms rootNils_holds
end Go.Proofs.YteejggadbifdbaaGreat
