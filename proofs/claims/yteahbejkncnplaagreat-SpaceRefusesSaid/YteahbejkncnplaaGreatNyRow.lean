/- Proved: SpaceRefuses (Rows.SpaceRefusesSaid): for every value that the row lets in, the law SpaceRefuses answers true, ends, and changes nothing that it was given. Conditions: those of the given statement, no others. -/
import Derived.Test.YteahbejkncnplaaGreatNyZ
import Derived.Test.YteahbejkncnplaaGreatViV
import Derived.Test.YteahbejkncnplaaGreatRows
import Derived.ProofKit
import Derived.LaidMore
import Derived.OpenShut
import Derived.Stop.Joined
import Derived.SevenTiedAt
import Derived.Lay
set_option autoImplicit false
set_option maxRecDepth 100000
namespace Go.Vi
open Go Go.Proofs
theorem Rel.noStr {c : Cx} {a0 a1 a2 x : AV} {V : Value} (h : Rel c (.agg [a0, a1, a2, x]) V) : Rel c (.agg [.undef, .undef, .undef, x]) V := by
  cases h with
  | agg _ Vs hl h1 h2 =>
    refine .agg _ _ (by simpa using hl) h1 fun j y W hy hW => ?_
    match j, hy with
    | 0, hy => cases hy; exact .undef W
    | 1, hy => cases hy; exact .undef W
    | 2, hy => cases hy; exact .undef W
    | 3, hy => cases hy; exact h2 3 x W rfl hW
    | j + 4, hy => simp at hy
section
variable {P : Program} {f : Nat} {t : TypeId} {xs : List AV}
theorem shp_int {k : IntKind} (hu : P.underlying t = some (.int k)) (h : Shp P f t xs) : ∃ n, xs = [.int k n] := by
  cases f with
  | zero => exact h.elim
  | succ f =>
    unfold Shp at h
    rw [hu] at h
    obtain ⟨n, h1, _⟩ := h
    exact ⟨n, h1⟩
theorem shp_str (hu : P.underlying t = some .string) (h : Shp P f t xs) : ∃ s : ByteArray, xs = [.str s] ∧ s.size < 9223372036854775808 := by
  cases f with
  | zero => exact h.elim
  | succ f =>
    unfold Shp at h
    rw [hu] at h
    obtain ⟨s, h1, h2⟩ := h
    exact ⟨s, h1, by simp only [maxLen] at h2; omega⟩
theorem shp_struct {fs : Array Field} (hu : P.underlying t = some (.struct fs)) (h : Shp P (f + 1) t xs) : fieldsS P (Shp P f) fs.toList xs := by
  unfold Shp at h
  rw [hu] at h
  exact h
end
theorem fs_cons {P : Program} {R : TypeId → List AV → Prop} {x : Field} {r : List Field} {xs : List AV} (h : fieldsS P R (x :: r) xs) : ∃ p q, xs = p ++ q ∧ R x.type p ∧ fieldsS P R r q := by
  obtain ⟨p, q, h1, _, h2, h3⟩ := h
  exact ⟨p, q, h1, h2, h3⟩
theorem fs_nil {P : Program} {R : TypeId → List AV → Prop} {xs : List AV} (h : fieldsS P R [] xs) : xs = [] := h
/-- What the argument is. -/
theorem arg_of {a : AV} (h : ArgIs Tryz.prog 8 23 a) : ∃ a0 a1 a2 s, a = .agg [a0, a1, a2, .str s] := by
  obtain ⟨f, xs, hf, h1, h2, h3⟩ := h
  obtain ⟨f, rfl⟩ : ∃ g, f = g + 2 := ⟨f - 2, by omega⟩
  obtain ⟨p0, q0, rfl, s0, h⟩ := fs_cons (shp_struct (f := f + 1) Tryz.underlying23 h1)
  obtain ⟨p1, q1, rfl, s1, h⟩ := fs_cons h
  obtain ⟨p2, q2, rfl, s2, h⟩ := fs_cons h
  obtain ⟨p3, q3, rfl, s3, h⟩ := fs_cons h
  obtain rfl := fs_nil h
  obtain ⟨n0, rfl⟩ := shp_int Tryz.underlying5 s0
  obtain ⟨n1, rfl⟩ := shp_int Tryz.underlying3 s1
  obtain ⟨n2, rfl⟩ := shp_int Tryz.underlying3 s2
  obtain ⟨t, rfl, _⟩ := shp_str Tryz.underlying9 s3
  simp only [argOf, Tryz.underlying23] at h2
  cases h2
  exact ⟨_, _, _, t, rfl⟩
end Go.Vi
namespace Go.Proofs.YteahbejkncnplaaGreat
open Go.ChangeShapes Go.WideShapes Go.ChangeAt Go.RowKit
theorem Tryz.own : ownKnob Tryz.prog.godebug = none := by kernel_rfl
theorem Tryz.laidOut : laidOutB Tryz.prog = true := by kernel_rfl
theorem plain3 : ∀ t ∈ Tryz.f3.params.toList, ∀ f, 8 ≤ f → Vi.plainT Tryz.prog f t = true := by
  rw [Tryz.params3]
  simp only [List.mem_cons, List.not_mem_nil, or_false]
  rintro t rfl
  exact Vi.plainT_le (by kernel_rfl)
theorem read3 : ∀ t ∈ Tryz.f3.params.toList, Tryz.prog.readableRec t = true ∧ t < Tryz.prog.types.size := by
  rw [Tryz.params3]
  simp only [List.mem_cons, List.not_mem_nil, or_false]
  rintro t rfl
  exact ⟨by kernel_rfl, of_decide_eq_true (by kernel_rfl)⟩
theorem lifted (os : Os) (started : os.Started) (H : Type) (enc : TypeId × Value → H) :
    ReturnsInHanded {} Tryz.checked os 3 .any (Rows.spaceRefusesSpec.pre6 enc Tryz.prog Tryz.f3 [] false) (Rows.spaceRefusesSpec.post enc Tryz.prog Tryz.f3 false true false false) := by
  refine returnsInHanded_of_change (C := Tryz.checked) Tryz.own started (by kernel_rfl) Tryz.func3
    (ChangeSpec.witness6 (enc := enc) (C := Tryz.checked) (os := os) false ⟨#[], #[.agg #[.int .u8 0, .int .i64 0, .int .i64 0, .string ⟨#[]⟩]], []⟩ 8 (by kernel_rfl) (by kernel_rfl) (by kernel_rfl) (by kernel_rfl)) ?_
  intro W base args ds gs before hval0 hW _ hL
  have hval : ∀ (j : Nat) t v, Tryz.f3.params[j]? = some t → args[j]? = some v → Value.okWide Tryz.prog W .any base t v := hval0
  have hW' := hW
  obtain ⟨p, q, hA0, hV, rfl, hfz, hnd⟩ := hW
  have hA : DataW.TrodAll enc Tryz.prog W 0 (fun _ => true) true Tryz.f3.params.toList args.toList ds p := hA0
  rw [Tryz.params3] at hA hval
  obtain ⟨v0, ds0, d0, dr0, p0, q0, e0, rfl, rfl, h0, hA⟩ := trodAll_cons hA
  obtain ⟨rfl, rfl, rfl⟩ := trodAll_nil hA
  obtain ⟨rfl, rfl⟩ := trodVars_none hV
  have eargs : args = #[v0] := by apply Array.ext'; simpa using e0
  subst eargs
  have pl := plain3
  rw [Tryz.params3] at pl
  obtain ⟨a0, b0, r0⟩ := Vi.arg_bridge (F := 8) (pl 23 (by simp)) (hval 0 23 v0 rfl rfl) h0
  obtain ⟨_, _, _, s, rfl⟩ := Vi.arg_of b0
  refine (Vi.law_calls (W := W) (Vi.f3_xs s) (Vs := [v0]) rfl (fun j x V hx hV => by
    match j with
    | 0 => simp [Vi.aS] at hx hV; subst hx; subst hV; exact r0.noStr
    | j + 1 => simp [Vi.aS] at hx)).mono fun e W' ⟨he, hb⟩ => ?_
  subst he
  exact ⟨_, rfl, Vi.post_law hW' rfl rfl Tryz.laidOut read3 (by kernel_rfl) (show Tryz.prog.underlying 4 = some .bool by kernel_rfl) hb⟩
theorem spaceRefuses_holds : Rows.SpaceRefusesSaid :=
  OpenClaim.holds_of_wide 3 Tryz.f3 rfl rfl rfl rfl rfl rfl rfl ⟨rfl, rfl, rfl, rfl, rfl⟩ rfl rfl rfl rfl rfl (by kernel_rfl) Tryz.func3 (by kernel_rfl)
    (of_decide_eq_true (by kernel_rfl)) (by unfold Func.isWrapper; first | (rw [if_pos (by decide +kernel)]; kernel_rfl) | (rw [if_neg (by decide +kernel)]; exact ⟨rfl, rfl⟩))
    (fun os started H enc _ => lifted os started H enc)
#print axioms spaceRefuses_holds
end Go.Proofs.YteahbejkncnplaaGreat
