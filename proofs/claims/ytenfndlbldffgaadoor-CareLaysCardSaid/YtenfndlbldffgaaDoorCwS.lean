/- What the arguments of the laws of care are. -/
import Derived.Test.YtenfndlbldffgaaDoorCwF
import Derived.Test.YtenfndlbldffgaaDoorViV
set_option autoImplicit false
set_option linter.unusedVariables false
set_option linter.unusedSimpArgs false
set_option maxRecDepth 100000
namespace Go.Vi
open Go Go.Vi Go.Proofs
section
variable {P : Program} {f : Nat} {t : TypeId} {xs : List AV}
theorem shp_int {k : IntKind} (hu : P.underlying t = some (.int k)) (h : Shp P f t xs) : ∃ n, xs = [.int k n] := by
  cases f with
  | zero => exact h.elim
  | succ f =>
    unfold Shp at h
    rw [hu] at h
    obtain ⟨n, h1, _⟩ := h
    exact ⟨n, h1⟩
theorem shp_slice {e : TypeId} (hu : P.underlying t = some (.slice e)) (h : Shp P (f + 1) t xs) : ∃ x, xs = [x] ∧ IsL x ∧ x.isVal = true ∧ (lrows x).length < 9223372036854775808 ∧ ∀ r ∈ lrows x, Shp P f e r := by
  unfold Shp at h
  rw [hu] at h
  rcases h with rfl | ⟨rows, rfl, h1, h2⟩
  · exact ⟨_, rfl, .inl rfl, rfl, by simp [lrows], fun r hr => by simp [lrows] at hr⟩
  · refine ⟨_, rfl, .inr ⟨_, _, rfl⟩, rfl, ?_, fun r hr => (h2 r hr).2⟩
    show rows.length < _
    simp only [maxLen] at h1
    omega
theorem shp_struct {fs : Array Field} (hu : P.underlying t = some (.struct fs)) (h : Shp P (f + 1) t xs) : fieldsS P (Shp P f) fs.toList xs := by
  unfold Shp at h
  rw [hu] at h
  exact h
end
theorem shp_two {f : Nat} {t a b : TypeId} {xs : List AV} {fs : Array Field} (hu : Tryd.prog.underlying t = some (.struct fs)) (hf : fs.toList.map (·.type) = [a, b]) (h : Shp Tryd.prog (f + 1) t xs) : ∃ p q, xs = p ++ q ∧ Shp Tryd.prog f a p ∧ Shp Tryd.prog f b q := by
  have h := shp_struct hu h
  match hl : fs.toList, hf with
  | [x, y], hf =>
    rw [hl] at h
    simp at hf
    obtain ⟨p, q, h1, _, h2, p2, q2, h3, _, h4, h5⟩ := h
    cases h5
    rw [hf.1] at h2
    rw [hf.2] at h4
    exact ⟨p, p2, by rw [h1, h3]; simp, h2, h4⟩
theorem shp_three {f : Nat} {t a b c : TypeId} {xs : List AV} {fs : Array Field} (hu : Tryd.prog.underlying t = some (.struct fs)) (hf : fs.toList.map (·.type) = [a, b, c]) (h : Shp Tryd.prog (f + 1) t xs) : ∃ p q r, xs = p ++ q ++ r ∧ Shp Tryd.prog f a p ∧ Shp Tryd.prog f b q ∧ Shp Tryd.prog f c r := by
  have h := shp_struct hu h
  match hl : fs.toList, hf with
  | [x, y, z], hf =>
    rw [hl] at h
    simp at hf
    obtain ⟨p, q, h1, _, h2, p2, q2, h3, _, h4, p3, q3, h5, _, h6, h7⟩ := h
    cases h7
    rw [hf.1] at h2
    rw [hf.2.1] at h4
    rw [hf.2.2] at h6
    exact ⟨p, p2, p3, by rw [h1, h3, h5]; simp, h2, h4, h6⟩
theorem byt_of {f : Nat} {xs : List AV} (h : Shp Tryd.prog (f + 1) 29 xs) : ∃ b, xs = [b] ∧ Byt b := by
  obtain ⟨x, h1, h2, h3, h4, h5⟩ := shp_slice Tryd.underlying29 h
  exact ⟨x, h1, h2, h4, fun q hq => shp_int Tryd.underlying5 (h5 q hq)⟩
theorem page_of {f : Nat} {xs : List AV} (h : Shp Tryd.prog (f + 2) 50 xs) : PageOk xs := by
  obtain ⟨p, q, rfl, h1, h2⟩ := shp_two Tryd.underlying50 rfl h
  obtain ⟨b, rfl, hb⟩ := byt_of h1
  obtain ⟨n, rfl⟩ := shp_int Tryd.underlying3 h2
  exact ⟨b, n, rfl, hb⟩
theorem piece_of {f : Nat} {xs : List AV} (h : Shp Tryd.prog (f + 2) 31 xs) : PieceOk xs := by
  obtain ⟨p, q, r, rfl, h1, h2, h3⟩ := shp_three Tryd.underlying31 rfl h
  obtain ⟨n, rfl⟩ := shp_int Tryd.underlying3 h1
  obtain ⟨m, rfl⟩ := shp_int Tryd.underlying3 h2
  obtain ⟨b, rfl, hb⟩ := byt_of h3
  exact ⟨n, m, b, rfl, hb⟩
/-- A copy. -/
theorem image_of {a : AV} (h : ArgIs Tryd.prog 6 24 a) : ∃ last pages, a = .agg [.int .i64 last, pages] ∧ IsL pages ∧ pages.isVal = true ∧ (lrows pages).length < 9223372036854775808 ∧ ∀ r ∈ lrows pages, PageOk r := by
  obtain ⟨f, xs, hf, h1, h2, h3⟩ := h
  obtain ⟨f, rfl⟩ : ∃ g, f = g + 4 := ⟨f - 4, by omega⟩
  obtain ⟨p, q, rfl, s1, s2⟩ := shp_two (f := f + 3) Tryd.underlying24 rfl h1
  obtain ⟨n, rfl⟩ := shp_int Tryd.underlying3 s1
  obtain ⟨x, rfl, c1, c2, c3, c4⟩ := shp_slice (f := f + 2) Tryd.underlying22 s2
  simp only [argOf, Tryd.underlying24] at h2
  cases h2
  exact ⟨n, x, rfl, c1, c2, c3, fun r hr => page_of (c4 r hr)⟩
theorem pieces_of {a : AV} (h : ArgIs Tryd.prog 6 25 a) : IsL a ∧ a.isVal = true ∧ (lrows a).length < 9223372036854775808 ∧ ∀ r ∈ lrows a, PieceOk r := by
  obtain ⟨f, xs, hf, h1, h2, h3⟩ := h
  obtain ⟨f, rfl⟩ : ∃ g, f = g + 4 := ⟨f - 4, by omega⟩
  obtain ⟨x, rfl, c1, c2, c3, c4⟩ := shp_slice (f := f + 3) Tryd.underlying25 h1
  simp only [argOf, Tryd.underlying25] at h2
  cases h2
  exact ⟨c1, c2, c3, fun r hr => piece_of (f := f + 1) (c4 r hr)⟩
theorem stamps_of {a : AV} (h : ArgIs Tryd.prog 6 28 a) : ∃ st last, a = .agg [st, .int .i64 last] ∧ IsL st ∧ (lrows st).length < 9223372036854775808 ∧ ∀ r ∈ lrows st, ∃ k, r = [.int .i64 k] := by
  obtain ⟨f, xs, hf, h1, h2, h3⟩ := h
  obtain ⟨f, rfl⟩ : ∃ g, f = g + 4 := ⟨f - 4, by omega⟩
  obtain ⟨p, q, rfl, s1, s2⟩ := shp_two (f := f + 3) Tryd.underlying28 rfl h1
  obtain ⟨n, rfl⟩ := shp_int Tryd.underlying3 s2
  obtain ⟨x, rfl, c1, c2, c3, c4⟩ := shp_slice (f := f + 2) Tryd.underlying26 s1
  simp only [argOf, Tryd.underlying28] at h2
  cases h2
  exact ⟨x, n, rfl, c1, c3, fun r hr => shp_int Tryd.underlying3 (c4 r hr)⟩
end Go.Vi
