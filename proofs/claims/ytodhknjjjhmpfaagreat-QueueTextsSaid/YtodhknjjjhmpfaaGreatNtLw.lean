/- QueueTexts: true for every list. -/
import Derived.Test.YtodhknjjjhmpfaaGreatNtAw
import Derived.Test.YtodhknjjjhmpfaaGreatNtNa
import Derived.Test.YtodhknjjjhmpfaaGreatViV
set_option autoImplicit false
set_option linter.unusedVariables false
set_option maxRecDepth 1000000
namespace Go.Vi
open Go Go.Proofs Go.RowKit
/-- What a call without arguments gives, over whatever lies. -/
theorem closed_xs {P : Program} {f : Nat} {b : Bool} (hx : XS P (fun _ => none) f [] [] fun r1 H1 => r1 = .bool b) (G : Glob) (H : Hp) : XS P G f [] H fun r1 H1 => r1 = .bool b ∧ H1 = H := by
  intro c Vs s hg hl hr
  match Vs, hl with
  | [], _ =>
    have s0 : Sim { w := c.w, I := fun _ => False, B := fun _ => False, ρ := fun _ => none } [] := ⟨fun _ h => h.elim, fun _ h => h.elim, fun l o h => by simp at h, fun l l' cl cl' h => by obtain ⟨o, h, _⟩ := h; simp at h, fun _ _ => rfl⟩
    refine (hx _ [] s0 (fun g cs h => by cases h) rfl (fun j x V h => by simp at h)).mono ?_
    rintro e w' ⟨r1, H1, c', V, rfl, rfl, t, hV, rfl⟩
    have hB : Below c.w.heap.size c.w c'.w := ⟨t.ext.os, t.ext.tape, t.ext.output, t.ext.size, fun b hb => t.ext.frame b hb fun ⟨l, cl, ⟨o, h, _⟩, _⟩ => by simp at h⟩
    cases hV
    exact ⟨_, _, { c with w := c'.w }, _, rfl, rfl, To.belowS s hB, .bool _, rfl, rfl⟩
theorem awake_fn (G : Glob) : Vi.Fn Tryz.prog G 4 [] (.bool true) := (closed_xs awake_xs G []).mono fun r H h => by
  obtain ⟨rfl, rfl⟩ := h
  rfl
theorem f3_xs (x : AV) (hT : Texts x) : XS Tryz.prog (fun _ => none) 3 [x] [] fun r H => r = .bool true := by
  refine (nLaw (fun _ => none) x hT (awake_fn _)).mono fun r H h => ?_
  cases r <;> first
    | (simp_all [retv, ret1, ret0, retD, AV.isVal]; done)
    | (simp only [retv, ret1, ret0, retD] at h; (repeat' split at h) <;> simp_all; done)
/-! What the argument is. -/
section
variable {P : Program} {f : Nat} {t : TypeId} {xs : List AV}
theorem shp_str (hu : P.underlying t = some .string) (h : Shp P f t xs) : ∃ s : ByteArray, xs = [.str s] := by
  cases f with
  | zero => exact h.elim
  | succ f =>
    unfold Shp at h
    rw [hu] at h
    obtain ⟨s, h1, h2⟩ := h
    exact ⟨s, h1⟩
theorem shp_slice {e : TypeId} (hu : P.underlying t = some (.slice e)) (h : Shp P (f + 1) t xs) : ∃ x, xs = [x] ∧ IsL x ∧ x.isVal = true ∧ (lrows x).length < 9223372036854775808 ∧ ∀ r ∈ lrows x, Shp P f e r := by
  unfold Shp at h
  rw [hu] at h
  rcases h with rfl | ⟨rows, rfl, h1, h2⟩
  · exact ⟨_, rfl, .inl rfl, rfl, by simp [lrows], fun r hr => by simp [lrows] at hr⟩
  · refine ⟨_, rfl, .inr ⟨_, _, rfl⟩, rfl, ?_, fun r hr => (h2 r hr).2⟩
    show rows.length < _
    simp only [maxLen] at h1
    omega
end
theorem texts_of {a : AV} (h : ArgIs Tryz.prog 8 22 a) : Texts a := by
  obtain ⟨f, xs, hf, h1, h2, h3⟩ := h
  obtain ⟨f, rfl⟩ : ∃ g, f = g + 1 := ⟨f - 1, by omega⟩
  obtain ⟨x, rfl, c1, c2, c3, c4⟩ := shp_slice Tryz.underlying22 h1
  simp only [argOf, Tryz.underlying22] at h2
  cases h2
  exact ⟨c1, c3, fun r hr => shp_str Tryz.underlying9 (c4 r hr)⟩
end Go.Vi
