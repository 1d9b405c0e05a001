/- Vi, part I: append, copy, bytes and texts. -/
import Derived.Test.YtecjobmgphdjoaaGreatViH
set_option autoImplicit false
set_option linter.unusedVariables false
set_option linter.unusedSimpArgs false
namespace Go.Vi

/-! ### What lies in a slice, cell by cell -/
def FlatRows (c : Cx) (vs : List Value) (sz : Nat) (rows : List (List AV)) : Prop :=
  vs.length = rows.length * sz ∧ ∀ (i : Nat) (r : List AV), rows[i]? = some r → r.length = sz ∧ ∀ (j : Nat) (x : AV), r[j]? = some x → ∃ U, vs[i * sz + j]? = some U ∧ U.oneCell' = true ∧ Rel c x U

theorem FlatRows.one {c : Cx} {vs : List Value} {sz : Nat} {rows : List (List AV)} (h : FlatRows c vs sz rows) (h0 : sz ≠ 0) : ∀ v ∈ vs, v.oneCell' = true := fun v hv => by
  obtain ⟨q, hq, rfl⟩ := List.getElem_of_mem hv
  have hlen := h.1
  have hlt : q / sz < rows.length := by
    rw [Nat.div_lt_iff_lt_mul (by omega)]
    omega
  have hj : q % sz < sz := Nat.mod_lt _ (by omega)
  have hr : rows[q / sz]? = some rows[q / sz] := List.getElem?_eq_getElem hlt
  obtain ⟨h1, h2⟩ := h.2 _ _ hr
  obtain ⟨U, u1, u2, _⟩ := h2 (q % sz) (rows[q / sz])[q % sz] (List.getElem?_eq_getElem (by omega))
  have e : q / sz * sz + q % sz = q := by rw [Nat.mul_comm]; exact Nat.div_add_mod q sz
  rw [e, List.getElem?_eq_getElem hq] at u1
  cases u1
  exact u2

theorem FlatRows.mono {c c' : Cx} (m : Mono c c') {vs : List Value} {sz : Nat} {rows : List (List AV)} (h : FlatRows c vs sz rows) : FlatRows c' vs sz rows :=
  ⟨h.1, fun i r hr => ⟨(h.2 i r hr).1, fun j x hx => let ⟨U, u1, u2, u3⟩ := (h.2 i r hr).2 j x hx; ⟨U, u1, u2, u3.mono m⟩⟩⟩

theorem FlatRows.append {c : Cx} {vs us : List Value} {sz : Nat} {rows rows' : List (List AV)} (h : FlatRows c vs sz rows) (k : FlatRows c us sz rows') : FlatRows c (vs ++ us) sz (rows ++ rows') := by
  refine ⟨by rw [List.length_append, List.length_append, h.1, k.1, Nat.add_mul], fun i r hr => ?_⟩
  by_cases hi : i < rows.length
  · rw [List.getElem?_append_left hi] at hr
    obtain ⟨h1, h2⟩ := h.2 i r hr
    refine ⟨h1, fun j x hx => ?_⟩
    obtain ⟨U, u1, u2, u3⟩ := h2 j x hx
    exact ⟨U, by rw [List.getElem?_append_left (List.getElem?_eq_some_iff.1 u1).1]; exact u1, u2, u3⟩
  · rw [List.getElem?_append_right (by omega)] at hr
    obtain ⟨h1, h2⟩ := k.2 _ r hr
    refine ⟨h1, fun j x hx => ?_⟩
    obtain ⟨U, u1, u2, u3⟩ := h2 j x hx
    refine ⟨U, ?_, u2, u3⟩
    have e : i * sz + j = rows.length * sz + ((i - rows.length) * sz + j) := by
      rw [← Nat.add_assoc, ← Nat.add_mul]
      congr 2
      omega
    rw [List.getElem?_append_right (by rw [h.1]; omega), h.1, e, Nat.add_sub_cancel_left]
    exact u1

theorem FlatRows.at_ {c : Cx} {vs rest : List Value} {sz : Nat} {rows : List (List AV)} (h : FlatRows c vs sz rows) : RowsAt c (vs ++ rest).toArray 0 sz rows := fun i r hr => by
  obtain ⟨h1, h2⟩ := h.2 i r hr
  refine ⟨h1, fun j x hx => ?_⟩
  obtain ⟨U, u1, u2, u3⟩ := h2 j x hx
  refine ⟨U, ?_, u2, u3⟩
  rw [Nat.zero_add, List.getElem?_toArray, List.getElem?_append_left (List.getElem?_eq_some_iff.1 u1).1]
  exact u1

theorem FlatRows.nil (c : Cx) (sz : Nat) : FlatRows c [] sz [] := ⟨by simp, fun i r hr => by cases hr⟩

/-- A slice's first cells, read in any world whose cells are the same. -/
theorem SliceAt.flat {P : Program} {c : Cx} {V : Value} {sz : Nat} {rows : List (List AV)} (h : SliceAt c V sz rows) (h0 : sz ≠ 0) :
    ∃ vs, FlatRows c vs sz rows ∧ (∀ w, (Builtin.lenOf V).run P w = .ok rows.length w) ∧ ∀ (m : Nat) (w : World), m ≤ rows.length → (∀ a, w.cell? a = c.w.cell? a) → (Builtin.firstCells sz m V).run P w = .ok (vs.take (m * sz)).toArray w := by
  rcases h with ⟨base, cap, rfl, rfl⟩ | ⟨b, o, cap, rfl, h⟩
  · exact ⟨[], FlatRows.nil c sz, fun w => rfl, fun m w hm _ => by
      obtain rfl : m = 0 := by simpa using hm
      cases base with
      | none => simp [Builtin.firstCells]
      | some a =>
        have := run_loadCells_list (P := P) w a [] (fun j v h => by cases h)
        simpa [Builtin.firstCells] using this⟩
  · have hF : ∀ q, ∃ V, q < rows.length * sz → c.w.cell? ⟨b, o + q, none⟩ = some V ∧ V.oneCell' = true ∧ ∀ (i : Nat) (r : List AV) (j : Nat) (x : AV), rows[i]? = some r → r[j]? = some x → i * sz + j = q → Rel c x V := fun q => by
      by_cases hq : q < rows.length * sz
      · have hlt : q / sz < rows.length := by rw [Nat.div_lt_iff_lt_mul (by omega)]; exact hq
        have hj : q % sz < sz := Nat.mod_lt _ (by omega)
        have hr : rows[q / sz]? = some rows[q / sz] := List.getElem?_eq_getElem hlt
        obtain ⟨h1, h2⟩ := h _ _ hr
        obtain ⟨V, v1, v2, v3⟩ := h2 (q % sz) (rows[q / sz])[q % sz] (List.getElem?_eq_getElem (by omega))
        have e : q / sz * sz + q % sz = q := by rw [Nat.mul_comm]; exact Nat.div_add_mod q sz
        rw [Nat.add_assoc, e] at v1
        refine ⟨V, fun _ => ⟨v1, v2, fun i r j x hi hx he => ?_⟩⟩
        obtain ⟨g1, g2⟩ := h i r hi
        obtain ⟨V', w1, w2, w3⟩ := g2 j x hx
        rw [Nat.add_assoc, he, v1] at w1
        cases w1
        exact w3
      · exact ⟨undef, fun h => absurd h hq⟩
    refine ⟨(List.range (rows.length * sz)).map (fun q => (hF q).choose), ⟨by simp, fun i r hr => ?_⟩, fun w => rfl, fun m w hm hw => ?_⟩
    · obtain ⟨h1, h2⟩ := h i r hr
      refine ⟨h1, fun j x hx => ?_⟩
      have hj : j < sz := by rw [← h1]; exact (List.getElem?_eq_some_iff.1 hx).1
      have hi : i < rows.length := (List.getElem?_eq_some_iff.1 hr).1
      have hq : i * sz + j < rows.length * sz := by
        have := Nat.mul_le_mul_right sz (show i + 1 ≤ rows.length by omega)
        rw [Nat.add_mul, Nat.one_mul] at this
        omega
      exact ⟨(hF (i * sz + j)).choose, by rw [List.getElem?_map, List.getElem?_range hq]; rfl, ((hF _).choose_spec hq).2.1, ((hF _).choose_spec hq).2.2 i r j x hr hx rfl⟩
    · have hms : m * sz ≤ rows.length * sz := Nat.mul_le_mul_right sz hm
      have := run_loadCells (P := P) w ⟨b, o, none⟩ (m * sz) (fun q => (hF q).choose) (fun j hj => by rw [add_spot, hw]; exact ((hF j).choose_spec (by omega)).1)
      simp only [Builtin.firstCells]
      rw [this, ← List.map_take, List.take_range]
      congr 4
      omega

def strRows (s : ByteArray) : List (List AV) := s.data.toList.map fun b => [.int .u8 b.toNat]

theorem str_flat {P : Program} {c : Cx} (s : ByteArray) : ∃ vs, FlatRows c vs 1 (strRows s) ∧ (∀ w, (Builtin.lenOf (.string s)).run P w = .ok (strRows s).length w) ∧
    ∀ (m : Nat) (w : World), m ≤ (strRows s).length → (Builtin.firstCells 1 m (.string s)).run P w = .ok (vs.take (m * 1)).toArray w := by
  have hlen : (strRows s).length = s.size := by unfold strRows; rw [List.length_map]; rfl
  refine ⟨s.data.toList.map (fun b => .int .u8 b.toNat), ⟨by simp [strRows], fun i r hr => ?_⟩, fun w => by rw [hlen]; rfl, fun m w hm => ?_⟩
  · simp only [strRows, List.getElem?_map] at hr
    cases hb : s.data.toList[i]? with
    | none => rw [hb] at hr; cases hr
    | some b =>
      rw [hb] at hr
      cases hr
      refine ⟨rfl, fun j x hx => ?_⟩
      cases j with
      | succ j => simp at hx
      | zero =>
        simp at hx
        subst hx
        refine ⟨.int .u8 b.toNat, ?_, rfl, .int _ _⟩
        simp only [Nat.mul_one, Nat.add_zero, List.getElem?_map, hb]
        rfl
  · simp only [Builtin.firstCells, Nat.mul_one, Sem.run_pure]
    congr 1
    apply Array.ext'
    rw [Array.toList_map, List.toList_toArray, ← List.map_take]
    congr 1
    show (s.extract 0 m).data.toList = _
    rw [ByteArray.data_extract]
    simp

/-! ### Freezing what is handed on -/
def frzCell (H : Hp) (x : AV) : Option (Hp × AV) :=
  match x with
  | .row _ l i n => match H[l]? with
    | some (.arr _ sz rows) => if i + n ≤ rows.length ∧ allVal rows = true then some (H.set l (.frz sz rows), .list .loose ((rows.drop i).take n)) else none
    | some (.frz _ rows) => if i + n ≤ rows.length then some (H, .list .loose ((rows.drop i).take n)) else none
    | _ => none
  | .sub .. => none
  | x => some (H, x)

theorem frz_rel {c : Cx} {H : Hp} (s : Sim c H) {t : Bool} {l i n sz : Nat} {rows : List (List AV)} {X : Value} (hl : H[l]? = some (.frz sz rows)) (hX : Rel c (.row t l i n) X) (hle : i + n ≤ rows.length) :
    Rel c (.list .loose ((rows.drop i).take n)) X := by
  obtain ⟨e0, cl, cells, T, fr, e1, e2, e3, e4, e5, e6⟩ := s.obj l _ hl
  cases hX with
  | row _ _ _ _ cl2 o cap hρ ho hn ht hlim =>
    rw [hρ] at e1
    cases e1
    subst e2
    have hlen : ((rows.drop i).take n).length = n := by simp; omega
    have hrow : ∀ (q : Nat) (r : List AV), ((rows.drop i).take n)[q]? = some r → rows[i + q]? = some r ∧ q < n := fun q r hr => by
      have hq : q < n := by have := (List.getElem?_eq_some_iff.1 hr).1; omega
      rw [List.getElem?_take, if_pos hq, List.getElem?_drop] at hr
      exact ⟨hr, hq⟩
    have hF : ∀ q j, ∃ V, q < n → j < cl.sz → c.w.cell? ⟨cl.blk, o + q * cl.sz + j, none⟩ = some V ∧ V.oneCell' = true ∧ ∀ (r : List AV) (x : AV), rows[i + q]? = some r → r[j]? = some x → Rel c x V := fun q j => by
      by_cases h : q < n ∧ j < cl.sz
      · have hr : rows[i + q]? = some rows[i + q] := List.getElem?_eq_getElem (by omega)
        obtain ⟨g1, g2⟩ := e6 _ _ hr
        obtain ⟨V, v1, v2, v3⟩ := g2 j (rows[i + q])[j] (List.getElem?_eq_getElem (by omega))
        refine ⟨V, fun _ _ => ⟨?_, v2, fun r x hr' hx => ?_⟩⟩
        · rw [cell_at e3, ← v1, ho, Nat.add_mul]
          congr 1
          omega
        · rw [hr] at hr'
          cases hr'
          rw [List.getElem?_eq_getElem (by omega)] at hx
          cases hx
          exact v3
      · exact ⟨undef, fun a b => absurd ⟨a, b⟩ h⟩
    have := Rel.list (c := c) .loose ((rows.drop i).take n) cl.blk o cl.sz cap none (.inr rfl) (fun q j => (hF q j).choose) (.inr e5) (by omega) (fun h => by cases h)
      (fun r hr => by obtain ⟨q, hq⟩ := List.mem_iff_getElem?.1 hr; exact (e6 _ _ (hrow q r hq).1).1)
      (List.all_eq_true.2 (fun r hr => List.all_eq_true.1 e0 r (List.mem_of_mem_drop (List.mem_of_mem_take hr))))
      (fun q j hq hj => by rw [hlen] at hq; have := (hF q j).choose_spec hq hj; exact ⟨this.1, this.2.1⟩)
      (fun q r j x hr hx => by
        obtain ⟨h1, h2⟩ := hrow q r hr
        have hj : j < cl.sz := by rw [← (e6 _ _ h1).1]; exact (List.getElem?_eq_some_iff.1 hx).1
        exact ((hF q j).choose_spec h2 hj).2.2 r x h1 hx)
    rwa [hlen] at this

/-- From c to c' the world itself has not moved. -/
structure Still (c : Cx) (H : Hp) (c' : Cx) (H' : Hp) : Prop where
  to_ : To c H c' H'
  w : c'.w = c.w

theorem Still.refl {c : Cx} {H : Hp} (s : Sim c H) : Still c H c H := ⟨To.refl s, rfl⟩
theorem Still.trans {a b c : Cx} {H1 H2 H3 : Hp} (s : Sim a H1) (h : Still a H1 b H2) (k : Still b H2 c H3) : Still a H1 c H3 := ⟨h.to_.trans s k.to_, k.w.trans h.w⟩

theorem frzCell_sound {c : Cx} {H H' : Hp} (s : Sim c H) {x y : AV} {X : Value} (hX : Rel c x X) (h : frzCell H x = some (H', y)) : ∃ c', Still c H c' H' ∧ Rel c' y X := by
  unfold frzCell at h
  split at h
  · rename_i t l i n
    split at h
    · rename_i sz rows hl
      split at h
      · rename_i hc
        cases h
        obtain ⟨cl, hρ, ht⟩ := To.freeze s hl hc.2
        refine ⟨_, ⟨ht, rfl⟩, ?_⟩
        have hlen : l < H.length := (List.getElem?_eq_some_iff.1 hl).1
        exact frz_rel ht.sim (List.getElem?_set_self hlen) (hX.mono ht.ext.mono) hc.1
      · cases h
    · rename_i sz rows hl
      split at h
      · rename_i hc
        cases h
        exact ⟨c, Still.refl s, frz_rel s hl hX hc⟩
      · cases h
    · cases h
  · cases h
  · cases h
    exact ⟨c, Still.refl s, hX⟩

def frzCells (H : Hp) : List AV → Option (Hp × List AV)
  | [] => some (H, [])
  | x :: r => match frzCell H x with
    | some (H1, y) => match frzCells H1 r with
      | some (H2, ys) => some (H2, y :: ys)
      | none => none
    | none => none

def frzRows (H : Hp) : List (List AV) → Option (Hp × List (List AV))
  | [] => some (H, [])
  | x :: r => match frzCells H x with
    | some (H1, y) => match frzRows H1 r with
      | some (H2, ys) => some (H2, y :: ys)
      | none => none
    | none => none

theorem frzCells_len : ∀ {xs ys : List AV} {H H' : Hp}, frzCells H xs = some (H', ys) → ys.length = xs.length
  | [], ys, H, H', h => by cases h; rfl
  | x :: r, ys, H, H', h => by
    unfold frzCells at h
    split at h
    · split at h
      · rename_i h2
        cases h
        simp [frzCells_len h2]
      · cases h
    · cases h

theorem frzCells_sound : ∀ {xs ys : List AV} {c : Cx} {H H' : Hp}, Sim c H → frzCells H xs = some (H', ys) →
    ∀ F : Nat → Value, (∀ (j : Nat) (x : AV), xs[j]? = some x → Rel c x (F j)) → ∃ c', Still c H c' H' ∧ ∀ (j : Nat) (y : AV), ys[j]? = some y → Rel c' y (F j)
  | [], ys, c, H, H', s, h => by cases h; exact fun F _ => ⟨c, Still.refl s, fun j y hy => by cases hy⟩
  | x :: r, ys, c, H, H', s, h => by
    unfold frzCells at h
    split at h
    · rename_i H1 y h1
      split at h
      · rename_i H2 ys' h2
        cases h
        intro F hF
        obtain ⟨c1, s1, r1⟩ := frzCell_sound s (hF 0 x (by simp)) h1
        obtain ⟨c2, s2, r2⟩ := frzCells_sound s1.to_.sim h2 (fun j => F (j + 1)) (fun j z hz => (hF (j + 1) z (by simpa using hz)).mono s1.to_.ext.mono)
        refine ⟨c2, s1.trans s s2, fun j z hz => ?_⟩
        cases j with
        | zero => simp at hz; subst hz; exact r1.mono s2.to_.ext.mono
        | succ j => exact r2 j z (by simpa using hz)
      · cases h
    · cases h

theorem frzRows_len : ∀ {xs ys : List (List AV)} {H H' : Hp}, frzRows H xs = some (H', ys) → ys.map List.length = xs.map List.length
  | [], ys, H, H', h => by cases h; rfl
  | x :: r, ys, H, H', h => by
    unfold frzRows at h
    split at h
    · rename_i h1
      split at h
      · rename_i h2
        cases h
        simp [frzCells_len h1, frzRows_len h2]
      · cases h
    · cases h

theorem frzRows_sound : ∀ {xs ys : List (List AV)} {c : Cx} {H H' : Hp}, Sim c H → frzRows H xs = some (H', ys) →
    ∀ F : Nat → Nat → Value, (∀ (i : Nat) (r : List AV), xs[i]? = some r → ∀ (j : Nat) (x : AV), r[j]? = some x → Rel c x (F i j)) →
      ∃ c', Still c H c' H' ∧ ∀ (i : Nat) (r : List AV), ys[i]? = some r → ∀ (j : Nat) (y : AV), r[j]? = some y → Rel c' y (F i j)
  | [], ys, c, H, H', s, h => by cases h; exact fun F _ => ⟨c, Still.refl s, fun i r hr => by cases hr⟩
  | x :: r, ys, c, H, H', s, h => by
    unfold frzRows at h
    split at h
    · rename_i H1 y h1
      split at h
      · rename_i H2 ys' h2
        cases h
        intro F hF
        obtain ⟨c1, s1, r1⟩ := frzCells_sound s h1 (F 0) (fun j z hz => hF 0 x (by simp) j z hz)
        obtain ⟨c2, s2, r2⟩ := frzRows_sound s1.to_.sim h2 (fun i => F (i + 1)) (fun i r' hr' j z hz => (hF (i + 1) r' (by simpa using hr') j z hz).mono s1.to_.ext.mono)
        refine ⟨c2, s1.trans s s2, fun i r' hr' j z hz => ?_⟩
        cases i with
        | zero => simp at hr'; subst hr'; exact (r1 j z hz).mono s2.to_.ext.mono
        | succ i => exact r2 i r' (by simpa using hr') j z hz
      · cases h
    · cases h

/-- Frozen rows lie where they lay. -/
theorem frzFlat {c : Cx} {H H' : Hp} (s : Sim c H) {vs : List Value} {sz : Nat} {rows ys : List (List AV)} (hf : FlatRows c vs sz rows) (h : frzRows H rows = some (H', ys)) :
    ∃ c', Still c H c' H' ∧ FlatRows c' vs sz ys := by
  obtain ⟨c', s1, r1⟩ := frzRows_sound s h (fun i j => vs.getD (i * sz + j) undef) (fun i r hr j x hx => by
    obtain ⟨U, u1, u2, u3⟩ := (hf.2 i r hr).2 j x hx
    rw [List.getD_eq_getElem?_getD, u1]
    exact u3)
  have hl := frzRows_len h
  have hlen : ys.length = rows.length := by have := congrArg List.length hl; simpa using this
  refine ⟨c', s1, by rw [hlen, hf.1], fun i r hr => ?_⟩
  have hi : i < rows.length := by rw [← hlen]; exact (List.getElem?_eq_some_iff.1 hr).1
  have hr0 : rows[i]? = some rows[i] := List.getElem?_eq_getElem hi
  have hrl : r.length = sz := by
    have := congrArg (·[i]?) hl
    simp only [List.getElem?_map, hr, hr0, Option.map_some, Option.some.injEq] at this
    rw [this]
    exact (hf.2 i _ hr0).1
  refine ⟨hrl, fun j x hx => ?_⟩
  have hj : j < sz := by rw [← hrl]; exact (List.getElem?_eq_some_iff.1 hx).1
  have h0 := (hf.2 i _ hr0)
  obtain ⟨U, u1, u2, _⟩ := h0.2 j (rows[i])[j] (List.getElem?_eq_getElem (by omega))
  have := r1 i r hr j x hx
  rw [List.getD_eq_getElem?_getD, u1] at this
  exact ⟨U, u1, u2, this⟩
end Go.Vi
