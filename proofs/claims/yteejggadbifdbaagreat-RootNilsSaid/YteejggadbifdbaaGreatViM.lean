/- Vi, part M: calls. -/
import Derived.Test.YteejggadbifdbaaGreatViL
section
set_option autoImplicit false
set_option linter.unusedVariables false
set_option linter.unusedSimpArgs false
namespace Go.Vi

/-- How a call is taken: with the caller's heap; on lent values, with a heap of its own; with the caller's heap, what comes back frozen. -/
inductive Md | shr | iso | shf
  deriving DecidableEq

abbrev Sem1 := Nat → List AV → Hp → (AV → Hp → Prop) → Prop

/-! ### Lending -/
def lend0 (H : Hp) (x : AV) : Option AV :=
  match x with
  | .row t l i n => match rowsOf H (.row t l i n) with
    | some rows => if allVal rows = true then some (.list .bor rows) else none
    | none => none
  | .sub l i k es n => match rowsOf H (.sub l i k es n) with
    | some rows => if allVal rows = true ∧ lenOk es rows = true then some (.list .bor rows) else none
    | none => none
  | .ptr l i k => match H[l]? with
    | some (.arr _ _ rows) | some (.frz _ rows) => match rows[i]? with
      | some r => if (r.drop k).all AV.isVal = true then some (.iptr true (r.drop k)) else none
      | none => none
    | _ => none
  | x => if x.isLent = true then some x else none

def mapL {α β : Type} (f : α → Option β) : List α → Option (List β)
  | [] => some []
  | x :: r => match f x, mapL f r with
    | some y, some ys => some (y :: ys)
    | _, _ => none

def lend (H : Hp) (x : AV) : Option AV :=
  match x with
  | .agg cs => (mapL (lend0 H) cs).map .agg
  | .clo f cs => (mapL (lend0 H) cs).map (.clo f)
  | x => lend0 H x

theorem mapL_get {α β : Type} {f : α → Option β} : ∀ {xs : List α} {ys : List β}, mapL f xs = some ys → ys.length = xs.length ∧ ∀ (j : Nat) (y : β), ys[j]? = some y → ∃ x, xs[j]? = some x ∧ f x = some y
  | [], ys, h => by cases h; exact ⟨rfl, fun j y hy => by cases hy⟩
  | x :: r, ys, h => by
    unfold mapL at h
    split at h
    · rename_i z zs h1 h2
      cases h
      obtain ⟨i1, i2⟩ := mapL_get h2
      refine ⟨by simp [i1], fun j y hy => ?_⟩
      cases j with
      | zero => simp at hy; subst hy; exact ⟨x, by simp, h1⟩
      | succ j => simpa using i2 j y (by simpa using hy)
    · cases h

/-- The callee's side of a call on lent values. -/
def lentCx (c : Cx) : Cx := { c with B := fun b => b < c.w.heap.size, ρ := fun _ => none }

theorem lentSim {c : Cx} {H : Hp} (s : Sim c H) : Sim (lentCx c) [] :=
  ⟨s.bound, fun b h => h, fun l o h => (by simp at h), fun l l' cl cl' h => (by obtain ⟨o, h, _⟩ := h; simp at h), fun l _ => rfl⟩

theorem lentMonoI {c : Cx} : MonoI c (lentCx c) := ⟨fun _ h => h, fun _ _ => rfl⟩

theorem Rel.lent {c : Cx} {H : Hp} (s : Sim c H) {x : AV} {X : Value} (h : Rel c x X) (hx : x.isLent = true) : Rel (lentCx c) x X := by
  cases h with
  | iptr bo cs b o F hb hv h1 h2 =>
    refine .iptr bo cs b o F (hb.imp id fun h => ?_) hv h1 (fun j y hy => (h2 j y hy).val lentMonoI (hv y (List.mem_of_getElem? hy)))
    cases bo
    · exact h
    · exact s.boundB b h
  | list t rows b o sz cap sp hsp F hb hc ht hsz hv h1 h2 =>
    refine .list t rows b o sz cap sp hsp F (hb.imp id fun h => ?_) hc ht hsz hv h1 (fun i r j y hr hy => (h2 i r j y hr hy).val lentMonoI (List.all_eq_true.1 (List.all_eq_true.1 hv r (List.mem_of_getElem? hr)) y (List.mem_of_getElem? hy)))
    cases t
    · exact h
    · exact h
    · exact s.boundB b h
  | clo f cs Vs hl h2 =>
    cases cs with
    | nil => exact .clo f [] Vs hl (fun j x V hx => by cases hx)
    | cons y r => cases hx
  | undef V => cases hx
  | ptr l i k cl h => cases hx
  | row t l i n cl o cap h ho hn ht hl => cases hx
  | sub l i k es n cl o cap h ho hn => cases hx
  | agg cs Vs hl h1 h2 => cases hx
  | tup cs Vs hl h2 => cases hx
  | mapr l cl h => cases hx
  | iface t v V h => cases hx
  | meth n t v V h => cases hx
  | int k n => exact .int k n
  | bool b => exact .bool b
  | str s => exact .str s
  | nilp => exact .nilp
  | nils => exact .nils
  | nilf => exact .nilf
  | nilm => exact .nilm
  | nili => exact .nili

/-- A slice of known elements as an immutable one. -/
theorem list_of_slice {c : Cx} {t : Tg} {V : Value} {sz : Nat} {rows : List (List AV)} (h : SliceAt c V sz rows) (hv : allVal rows = true) (hn : V ≠ .slice none 0 0 → True) (c' : Cx) (m : MonoI c c') {b o n cap : Nat} (hV : V = .slice (some ⟨b, o, none⟩) n cap)
    (hb : rows = [] ∨ t.In c' b) (hw : c'.w.heap[b]? = c.w.heap[b]?) (hc : rows.length ≤ cap) (ht : t = .tight → cap = rows.length) : Rel c' (.list t rows) V := by
  subst hV
  rcases h with ⟨_, _, h, h0⟩ | ⟨b', o', cap', h, hcell⟩
  · cases h
    subst h0
    exact .list t [] b o sz cap none (.inl rfl) (fun _ _ => undef) (.inl rfl) (Nat.zero_le _) ht (fun r hr => by cases hr) rfl (fun i j hi hj => by simp at hi) (fun i r j x hr hx => by cases hr)
  · cases h
    have hF : ∀ i j, ∃ U, i < rows.length → j < sz → c'.w.cell? ⟨b, o + i * sz + j, none⟩ = some U ∧ U.oneCell' = true ∧ ∀ (r : List AV) (x : AV), rows[i]? = some r → r[j]? = some x → Rel c' x U := fun i j => by
      by_cases hij : i < rows.length ∧ j < sz
      · have hr : rows[i]? = some rows[i] := List.getElem?_eq_getElem hij.1
        obtain ⟨g1, g2⟩ := hcell i _ hr
        obtain ⟨U, u1, u2, u3⟩ := g2 j (rows[i])[j] (List.getElem?_eq_getElem (by omega))
        refine ⟨U, fun _ _ => ⟨by rw [cell_of_block hw]; exact u1, u2, fun r x hr' hx => ?_⟩⟩
        rw [hr] at hr'
        cases hr'
        rw [List.getElem?_eq_getElem (by omega)] at hx
        cases hx
        exact u3.val m (List.all_eq_true.1 (List.all_eq_true.1 hv _ (List.getElem_mem hij.1)) _ (List.getElem_mem _))
      · exact ⟨undef, fun a b => absurd ⟨a, b⟩ hij⟩
    exact .list t rows b o sz cap none (.inr rfl) (fun i j => (hF i j).choose) hb hc ht (fun r hr => by obtain ⟨i, hi⟩ := List.mem_iff_getElem?.1 hr; exact (hcell i r hi).1) hv
      (fun i j hi hj => ⟨((hF i j).choose_spec hi hj).1, ((hF i j).choose_spec hi hj).2.1⟩)
      (fun i r j x hr hx => by
        have hi := (List.getElem?_eq_some_iff.1 hr).1
        have hj : j < sz := by rw [← (hcell i r hr).1]; exact (List.getElem?_eq_some_iff.1 hx).1
        exact ((hF i j).choose_spec hi hj).2.2 r x hr hx)

/-- The block of a row's or a part's object. -/
theorem row_block {c : Cx} {H : Hp} (s : Sim c H) {l : Nat} {cl : CL} (hρ : c.ρ l = some cl) {sz : Nat} {rows : List (List AV)} (hl : (∃ T, H[l]? = some (.arr T sz rows)) ∨ H[l]? = some (.frz sz rows)) :
    cl.sz = sz ∧ cl.blk < c.w.heap.size ∧ ∀ (i : Nat) (r : List AV), rows[i]? = some r → r.length = sz := by
  rcases hl with ⟨T, hl⟩ | hl
  · obtain ⟨cl', cells, e1, e2, e3, e4, e5, e6, e7⟩ := s.obj l _ hl
    rw [hρ] at e1; cases e1
    exact ⟨e2, (Array.getElem?_eq_some_iff.1 e3).1, fun i r hr => (e7 i r hr).1⟩
  · obtain ⟨e0, cl', cells, T, fr, e1, e2, e3, e4, e5, e6⟩ := s.obj l _ hl
    rw [hρ] at e1; cases e1
    exact ⟨e2, (Array.getElem?_eq_some_iff.1 e3).1, fun i r hr => (e6 i r hr).1⟩

theorem rowsOf_row {H : Hp} {t : Bool} {l i n : Nat} {rows : List (List AV)} (h : rowsOf H (.row t l i n) = some rows) :
    ∃ sz rows0, ((∃ T, H[l]? = some (.arr T sz rows0)) ∨ H[l]? = some (.frz sz rows0)) ∧ i + n ≤ rows0.length ∧ rows = (rows0.drop i).take n := by
  simp only [rowsOf] at h
  split at h
  · rename_i T sz rows0 hl
    split at h
    · rename_i hle; cases h; exact ⟨sz, rows0, .inl ⟨_, hl⟩, hle, rfl⟩
    · cases h
  · rename_i sz rows0 hl
    split at h
    · rename_i hle; cases h; exact ⟨sz, rows0, .inr hl, hle, rfl⟩
    · cases h
  · cases h

theorem rowsOf_sub {H : Hp} {l i k es n : Nat} {rows : List (List AV)} (h : rowsOf H (.sub l i k es n) = some rows) :
    ∃ sz rows0, ((∃ T, H[l]? = some (.arr T sz rows0)) ∨ H[l]? = some (.frz sz rows0)) ∧ rows.length = n := by
  simp only [rowsOf] at h
  split at h
  · rename_i T sz rows0 hl
    split at h
    · split at h
      · cases h; exact ⟨sz, rows0, .inl ⟨_, hl⟩, chunk_length _ _ _⟩
      · cases h
    · cases h
  · rename_i sz rows0 hl
    split at h
    · split at h
      · cases h; exact ⟨sz, rows0, .inr hl, chunk_length _ _ _⟩
      · cases h
    · cases h
  · cases h

/-- Rows of an object, lent or handed over: the slice is an immutable one on the other side. -/
theorem row_list {c : Cx} {H : Hp} (s : Sim c H) {x : AV} {X : Value} {rows : List (List AV)} (hx : (∃ t l i n, x = .row t l i n) ∨ ∃ l i k es n, x = .sub l i k es n ∧ lenOk es rows = true) (hX : Rel c x X) (hr : rowsOf H x = some rows) (hv : allVal rows = true) {t : Tg} (ht : t ≠ .tight) (c' : Cx) (m : MonoI c c')
    (hb : ∀ b, b < c.w.heap.size → (∃ l cl sz rows0, c.ρ l = some cl ∧ cl.blk = b ∧ ((∃ T, H[l]? = some (.arr T sz rows0)) ∨ H[l]? = some (.frz sz rows0))) → t.In c' b) (hw : ∀ b, b < c.w.heap.size → c'.w.heap[b]? = c.w.heap[b]?) : Rel c' (.list t rows) X := by
  rcases hx with ⟨tt, l, i, n, rfl⟩ | ⟨l, i, k, es, n, rfl, hlo⟩
  · obtain ⟨sz, rows0, hl, hle, e⟩ := rowsOf_row hr
    cases hX with
    | row _ _ _ _ cl o cap hρ ho hn ht' hlim =>
      obtain ⟨b1, b2, b3⟩ := row_block s hρ hl
      have hlo : lenOk sz rows = true := by
        refine List.all_eq_true.2 (fun r hr' => ?_)
        rw [e] at hr'
        obtain ⟨q, hq⟩ := List.mem_iff_getElem?.1 (List.mem_of_mem_drop (List.mem_of_mem_take hr'))
        simpa using b3 q r hq
      have hlen : rows.length = n := by rw [e]; simp; omega
      have hs := rows_sound s (.row tt l i n cl o cap hρ ho hn ht' hlim) hr hlo
      exact list_of_slice hs hv (fun _ => trivial) c' m rfl (.inr (hb _ b2 ⟨l, cl, sz, rows0, hρ, rfl, hl⟩)) (hw _ b2) (by omega) (fun h => absurd h ht)
  · obtain ⟨sz, rows0, hl, hlen⟩ := rowsOf_sub hr
    cases hX with
    | sub _ _ _ _ _ cl o cap hρ ho hn =>
      obtain ⟨b1, b2, b3⟩ := row_block s hρ hl
      have hs := rows_sound s (.sub l i k es n cl o cap hρ ho hn) hr hlo
      exact list_of_slice hs hv (fun _ => trivial) c' m rfl (.inr (hb _ b2 ⟨l, cl, sz, rows0, hρ, rfl, hl⟩)) (hw _ b2) (by omega) (fun h => absurd h ht)

theorem lend0_sound {c : Cx} {H : Hp} (s : Sim c H) {x y : AV} {X : Value} (hX : Rel c x X) (h : lend0 H x = some y) : Rel (lentCx c) y X := by
  unfold lend0 at h
  split at h
  · rename_i t l i n
    split at h
    · rename_i rows hr
      split at h
      · rename_i hv
        cases h
        exact row_list s (.inl ⟨_, _, _, _, rfl⟩) hX hr hv (by decide) _ lentMonoI (fun b hb _ => hb) (fun _ _ => rfl)
      · cases h
    · cases h
  · rename_i l i k es n
    split at h
    · rename_i rows hr
      split at h
      · rename_i hv
        cases h
        exact row_list s (.inr ⟨_, _, _, _, _, rfl, hv.2⟩) hX hr hv.1 (by decide) _ lentMonoI (fun b hb _ => hb) (fun _ _ => rfl)
      · cases h
    · cases h
  · rename_i l i k
    have key : ∀ {sz : Nat} {rows : List (List AV)}, ((∃ T, H[l]? = some (.arr T sz rows)) ∨ H[l]? = some (.frz sz rows)) → (match rows[i]? with | some r => if (r.drop k).all AV.isVal = true then some (AV.iptr true (r.drop k)) else none | none => none) = some y → Rel (lentCx c) y X := by
      intro sz rows hl h
      split at h
      · rename_i r hr
        split at h
        · rename_i hv
          cases h
          cases hX with
          | ptr _ _ _ cl hρ =>
            obtain ⟨b1, b2, b3⟩ := row_block s hρ hl
            have hcells : CellsAt c cl.blk (cl.base + i * cl.sz + k) (r.drop k) := by
              obtain ⟨b, o, e, hc⟩ := ptr_cells s (.ptr l i k cl hρ) (hl.imp (fun ⟨T, h⟩ => ⟨T, sz, h⟩) (fun h => ⟨sz, h⟩)) hr
              cases e
              exact hc
            have hF : ∀ j, ∃ U, j < (r.drop k).length → c.w.cell? ⟨cl.blk, cl.base + i * cl.sz + k + j, none⟩ = some U ∧ U.oneCell' = true ∧ ∀ x, (r.drop k)[j]? = some x → Rel (lentCx c) x U := fun j => by
              by_cases hj : j < (r.drop k).length
              · obtain ⟨U, u1, u2, u3⟩ := hcells j _ (List.getElem?_eq_getElem hj)
                refine ⟨U, fun _ => ⟨u1, u2, fun x hx => ?_⟩⟩
                rw [List.getElem?_eq_getElem hj] at hx
                cases hx
                exact u3.val lentMonoI (List.all_eq_true.1 hv _ (List.getElem_mem hj))
              · exact ⟨undef, fun h => absurd h hj⟩
            exact .iptr true _ cl.blk _ (fun j => (hF j).choose) (.inr b2) (fun x hx => List.all_eq_true.1 hv x hx)
              (fun j hj => ⟨((hF j).choose_spec hj).1, ((hF j).choose_spec hj).2.1⟩) (fun j x hx => ((hF j).choose_spec (List.getElem?_eq_some_iff.1 hx).1).2.2 x hx)
        · cases h
      · cases h
    split at h
    · rename_i T sz rows hl; exact key (.inl ⟨T, hl⟩) h
    · rename_i sz rows hl; exact key (.inr hl) h
    · cases h
  · split at h
    · rename_i hl
      cases h
      exact hX.lent s hl
    · cases h

theorem lend_sound {c : Cx} {H : Hp} (s : Sim c H) {x y : AV} {X : Value} (hX : Rel c x X) (h : lend H x = some y) : Rel (lentCx c) y X := by
  unfold lend at h
  split at h
  · rename_i cs
    obtain ⟨ys, h1, h2⟩ := map_some h
    subst h2
    obtain ⟨m1, m2⟩ := mapL_get h1
    cases hX with
    | agg _ Vs hl g1 g2 =>
      refine .agg ys Vs (by omega) g1 (fun j y V hy hV => ?_)
      obtain ⟨x, hx, hf⟩ := m2 j y hy
      exact lend0_sound s (g2 j x V hx hV) hf
  · rename_i f cs
    obtain ⟨ys, h1, h2⟩ := map_some h
    subst h2
    obtain ⟨m1, m2⟩ := mapL_get h1
    cases hX with
    | clo _ _ Vs hl g2 =>
      refine .clo f ys Vs (by omega) (fun j y V hy hV => ?_)
      obtain ⟨x, hx, hf⟩ := m2 j y hy
      exact lend0_sound s (g2 j x V hx hV) hf
  · exact lend0_sound s hX h

/-! ### What comes back -/
def retD : Nat → Hp → AV → Option AV
  | 0, _, x => if x.isVal = true then some x else none
  | d + 1, H, x => match x with
    | .row t l i n => match rowsOf H (.row t l i n) with
      | some rows => (mapL (mapL (retD d H)) rows).map (.list .loose)
      | none => none
    | .sub l i k es n => match rowsOf H (.sub l i k es n) with
      | some rows => if lenOk es rows = true then (mapL (mapL (retD d H)) rows).map (.list .loose) else none
      | none => none
    | x => if x.isVal = true then some x else none

def ret0 (H : Hp) (x : AV) : Option AV := retD 3 H x

def ret1 (H : Hp) (x : AV) : Option AV :=
  match x with
  | .agg cs => (mapL (ret0 H) cs).map .agg
  | x => ret0 H x

def retv (H : Hp) (x : AV) : Option AV :=
  match x with
  | .tup vs => (mapL (ret1 H) vs).map .tup
  | x => ret1 H x

/-- The caller's side behind a call on lent values. -/
def backCx (c c2 : Cx) : Cx := { c with w := c2.w, I := fun b => c.I b ∨ (c.w.heap.size ≤ b ∧ b < c2.w.heap.size) }

theorem not_owned_nil {c : Cx} {b : Nat} : ¬ Owned c [] b := fun ⟨l, cl, ⟨o, h, _⟩, _⟩ => by simp at h

theorem back_to {c c2 : Cx} {H H2 : Hp} (s : Sim c H) (t : To (lentCx c) [] c2 H2) : To c H (backCx c c2) H := by
  have hfr : ∀ b, b < c.w.heap.size → c2.w.heap[b]? = c.w.heap[b]? := fun b hb => t.ext.frame b hb not_owned_nil
  have hsz : c.w.heap.size ≤ c2.w.heap.size := t.ext.size
  have m : Mono c (backCx c c2) := ⟨fun _ h => .inl h, fun _ h => h, fun _ _ h => h, fun b h => hfr b (h.elim (s.bound b) (s.boundB b))⟩
  refine ⟨⟨m, hsz, fun b hb _ => hfr b hb, fun b h => h.imp id (fun h => .inl h.1), fun _ => Iff.rfl, fun _ _ h => .inl h, t.ext.os, t.ext.tape, t.ext.output⟩, ⟨fun b h => ?_, fun b h => ?_, fun l o h => ?_, s.inj, s.fresh⟩, Nat.le_refl _, fun _ _ h => h⟩
  · show b < c2.w.heap.size
    rcases h with h | h
    · have := s.bound b h; omega
    · exact h.2
  · show b < c2.w.heap.size
    have := s.boundB b h; omega
  · refine (s.obj l o h).keep m (fun cl hr hv hi => ?_) (fun _ h => h) (fun cl hr hv => hfr _ (s.lt (live_of h hv) hr))
    rcases hi with hi | hi
    · exact hi
    · have := s.lt (live_of h hv) hr; omega

theorem back_monoI {c c2 : Cx} {H H2 : Hp} (s : Sim c H) (t : To (lentCx c) [] c2 H2) : MonoI c2 (backCx c c2) := by
  refine ⟨fun b h => ?_, fun _ _ => rfl⟩
  rcases t.ext.inew b h with h1 | h1 | h1
  · exact .inl h1
  · exact .inr ⟨h1, t.sim.bound b h⟩
  · exact absurd h1 not_owned_nil

theorem list_of_conv {c c' : Cx} {t : Tg} {sz : Nat} {rows rows' : List (List AV)} {f : AV → Option AV} {b o n cap : Nat} (h : SliceAt c (.slice (some ⟨b, o, none⟩) n cap) sz rows)
    (hf : ∀ (x y : AV) (X : Value), f x = some y → Rel c x X → Rel c' y X ∧ y.isVal = true) (hm : mapL (mapL f) rows = some rows')
    (hb : rows = [] ∨ t.In c' b) (hw : c'.w.heap[b]? = c.w.heap[b]?) (hc : rows.length ≤ cap) (ht : t ≠ .tight) : Rel c' (.list t rows') (.slice (some ⟨b, o, none⟩) n cap) ∧ (AV.list t rows').isVal = (t != .bor) := by
  refine ⟨?_, rfl⟩
  rcases h with ⟨_, _, h, h0⟩ | ⟨b', o', cap', h, hcell⟩
  · cases h
    subst h0
    cases hm
    exact .list t [] b o sz cap none (.inl rfl) (fun _ _ => undef) (.inl rfl) (Nat.zero_le _) (fun h => absurd h ht) (fun r hr => by cases hr) rfl (fun i j hi hj => by simp at hi) (fun i r j x hr hx => by cases hr)
  · cases h
    obtain ⟨m1, m2⟩ := mapL_get hm
    have hrow : ∀ (i : Nat) (r' : List AV), rows'[i]? = some r' → ∃ r, rows[i]? = some r ∧ r'.length = r.length ∧ ∀ (j : Nat) (y : AV), r'[j]? = some y → ∃ x, r[j]? = some x ∧ f x = some y := fun i r' hr' => by
      obtain ⟨r, h1, h2⟩ := m2 i r' hr'
      obtain ⟨k1, k2⟩ := mapL_get h2
      exact ⟨r, h1, k1, k2⟩
    have hF : ∀ i j, ∃ U, i < rows.length → j < sz → c'.w.cell? ⟨b, o + i * sz + j, none⟩ = some U ∧ U.oneCell' = true ∧ ∀ (r : List AV) (x : AV), rows[i]? = some r → r[j]? = some x → Rel c x U := fun i j => by
      by_cases hij : i < rows.length ∧ j < sz
      · have hr : rows[i]? = some rows[i] := List.getElem?_eq_getElem hij.1
        obtain ⟨g1, g2⟩ := hcell i _ hr
        obtain ⟨U, u1, u2, u3⟩ := g2 j (rows[i])[j] (List.getElem?_eq_getElem (by omega))
        refine ⟨U, fun _ _ => ⟨by rw [cell_of_block hw]; exact u1, u2, fun r x hr' hx => ?_⟩⟩
        rw [hr] at hr'
        have hr' := Option.some.inj hr'
        subst hr'
        rw [List.getElem?_eq_getElem (by omega)] at hx
        have hx := Option.some.inj hx
        subst hx
        exact u3
      · exact ⟨undef, fun a b => absurd ⟨a, b⟩ hij⟩
    have hval : ∀ (i j : Nat) (r' : List AV) (y : AV), rows'[i]? = some r' → r'[j]? = some y → Rel c' y (hF i j).choose ∧ y.isVal = true := fun i j r' y hr' hy => by
      obtain ⟨r, h1, h2, h3⟩ := hrow i r' hr'
      obtain ⟨x, h4, h5⟩ := h3 j y hy
      have hi := (List.getElem?_eq_some_iff.1 h1).1
      have hj : j < sz := by rw [← (hcell i r h1).1]; exact (List.getElem?_eq_some_iff.1 h4).1
      exact hf x y _ h5 (((hF i j).choose_spec hi hj).2.2 r x h1 h4)
    have := Rel.list (c := c') t rows' b o sz cap none (.inr rfl) (fun i j => (hF i j).choose) (hb.imp (fun h => by subst h; exact List.length_eq_zero_iff.1 (by simpa using m1)) id) (by omega) (fun h => absurd h ht)
      (fun r' hr' => by
        obtain ⟨i, hi⟩ := List.mem_iff_getElem?.1 hr'
        obtain ⟨r, h1, h2, _⟩ := hrow i r' hi
        rw [h2]
        exact (hcell i r h1).1)
      (List.all_eq_true.2 fun r' hr' => List.all_eq_true.2 fun y hy => by
        obtain ⟨i, hi⟩ := List.mem_iff_getElem?.1 hr'
        obtain ⟨j, hj⟩ := List.mem_iff_getElem?.1 hy
        exact (hval i j r' y hi hj).2)
      (fun i j hi hj => ⟨((hF i j).choose_spec (by omega) hj).1, ((hF i j).choose_spec (by omega) hj).2.1⟩)
      (fun i r' j y hr' hy => (hval i j r' y hr' hy).1)
    rwa [m1] at this

theorem retD_sound {c c2 : Cx} {H H2 : Hp} (s : Sim c H) (t : To (lentCx c) [] c2 H2) : ∀ (d : Nat) {x y : AV} {X : Value}, retD d H2 x = some y → Rel c2 x X → Rel (backCx c c2) y X ∧ y.isVal = true := by
  have m := back_monoI s t
  have hin : ∀ b, b < c2.w.heap.size → (∃ l cl sz rows0, c2.ρ l = some cl ∧ cl.blk = b ∧ ((∃ T, H2[l]? = some (.arr T sz rows0)) ∨ H2[l]? = some (.frz sz rows0))) → Tg.loose.In (backCx c c2) b := by
    rintro b hb ⟨l, cl, sz, rows0, hρ, rfl, hl⟩
    rcases t.ext.own l cl hρ with h1 | h1 | h1
    · cases h1
    · exact .inr ⟨h1, hb⟩
    · exact absurd h1 not_owned_nil
  intro d
  induction d with
  | zero =>
    intro x y X h hX
    simp only [retD] at h
    split at h
    · rename_i hv; cases h; exact ⟨hX.val m hv, hv⟩
    · cases h
  | succ d ih =>
    intro x y X h hX
    simp only [retD] at h
    split at h
    · rename_i tt l i n
      split at h
      · rename_i rows hr
        obtain ⟨rows', h1, h2⟩ := map_some h
        subst h2
        obtain ⟨sz, rows0, hl, hle, e⟩ := rowsOf_row hr
        cases hX with
        | row _ _ _ _ cl o cap hρ ho hn ht' hlim =>
          obtain ⟨b1, b2, b3⟩ := row_block t.sim hρ hl
          have hlo : lenOk sz rows = true := by
            refine List.all_eq_true.2 (fun r hr' => ?_)
            rw [e] at hr'
            obtain ⟨q, hq⟩ := List.mem_iff_getElem?.1 (List.mem_of_mem_drop (List.mem_of_mem_take hr'))
            simpa using b3 q r hq
          have hlen : rows.length = n := by rw [e]; simp; omega
          have hs := rows_sound t.sim (.row tt l i n cl o cap hρ ho hn ht' hlim) hr hlo
          obtain ⟨z1, z2⟩ := list_of_conv (c' := backCx c c2) (t := .loose) hs (fun x y X h1 h2 => ih h1 h2) h1 (.inr (hin _ b2 ⟨l, cl, sz, rows0, hρ, rfl, hl⟩)) rfl (by omega) (by decide)
          exact ⟨z1, z2⟩
      · cases h
    · rename_i l i k es n
      split at h
      · rename_i rows hr
        split at h
        · rename_i hlo
          obtain ⟨rows', h1, h2⟩ := map_some h
          subst h2
          obtain ⟨sz, rows0, hl, hlen⟩ := rowsOf_sub hr
          cases hX with
          | sub _ _ _ _ _ cl o cap hρ ho hn =>
            obtain ⟨b1, b2, b3⟩ := row_block t.sim hρ hl
            have hs := rows_sound t.sim (.sub l i k es n cl o cap hρ ho hn) hr hlo
            obtain ⟨z1, z2⟩ := list_of_conv (c' := backCx c c2) (t := .loose) hs (fun x y X h1 h2 => ih h1 h2) h1 (.inr (hin _ b2 ⟨l, cl, sz, rows0, hρ, rfl, hl⟩)) rfl (by omega) (by decide)
            exact ⟨z1, z2⟩
        · cases h
      · cases h
    · split at h
      · rename_i hv; cases h; exact ⟨hX.val m hv, hv⟩
      · cases h

theorem ret0_sound {c c2 : Cx} {H H2 : Hp} (s : Sim c H) (t : To (lentCx c) [] c2 H2) {x y : AV} {X : Value} (hX : Rel c2 x X) (h : ret0 H2 x = some y) : Rel (backCx c c2) y X :=
  (retD_sound s t 3 h hX).1

theorem ret1_sound {c c2 : Cx} {H H2 : Hp} (s : Sim c H) (t : To (lentCx c) [] c2 H2) {x y : AV} {X : Value} (hX : Rel c2 x X) (h : ret1 H2 x = some y) : Rel (backCx c c2) y X := by
  unfold ret1 at h
  split at h
  · rename_i cs
    obtain ⟨ys, h1, h2⟩ := map_some h
    subst h2
    obtain ⟨m1, m2⟩ := mapL_get h1
    cases hX with
    | agg _ Vs hl g1 g2 =>
      refine .agg ys Vs (by omega) g1 (fun j y V hy hV => ?_)
      obtain ⟨x, hx, hf⟩ := m2 j y hy
      exact ret0_sound s t (g2 j x V hx hV) hf
  · exact ret0_sound s t hX h

theorem retv_sound {c c2 : Cx} {H H2 : Hp} (s : Sim c H) (t : To (lentCx c) [] c2 H2) {x y : AV} {X : Value} (hX : Rel c2 x X) (h : retv H2 x = some y) : Rel (backCx c c2) y X := by
  unfold retv at h
  split at h
  · rename_i vs
    obtain ⟨ys, h1, h2⟩ := map_some h
    subst h2
    obtain ⟨m1, m2⟩ := mapL_get h1
    cases hX with
    | tup _ Vs hl g2 =>
      refine .tup ys Vs (by omega) (fun j y V hy hV => ?_)
      obtain ⟨x, hx, hf⟩ := m2 j y hy
      exact ret1_sound s t (g2 j x V hx hV) hf
  · exact ret1_sound s t hX h

/-! ### Results frozen in the caller's heap -/
def frz1 (H : Hp) (x : AV) : Option (Hp × AV) :=
  match x with
  | .agg cs => match frzCells H cs with
    | some (H', ys) => some (H', .agg ys)
    | none => none
  | x => frzCell H x

def frzL (H : Hp) : List AV → Option (Hp × List AV)
  | [] => some (H, [])
  | x :: r => match frz1 H x with
    | some (H1, y) => match frzL H1 r with
      | some (H2, ys) => some (H2, y :: ys)
      | none => none
    | none => none

def frzv (H : Hp) (x : AV) : Option (Hp × AV) :=
  match x with
  | .tup vs => match frzL H vs with
    | some (H', ys) => some (H', .tup ys)
    | none => none
  | x => frz1 H x

theorem frz1_sound {c : Cx} {H H' : Hp} (s : Sim c H) {x y : AV} {X : Value} (hX : Rel c x X) (h : frz1 H x = some (H', y)) : ∃ c', Still c H c' H' ∧ Rel c' y X := by
  unfold frz1 at h
  split at h
  · rename_i cs
    split at h
    · rename_i H1 ys hf
      cases h
      cases hX with
      | agg _ Vs hl g1 g2 =>
        obtain ⟨c', st, r⟩ := frzCells_sound s hf (fun j => Vs.getD j undef) (fun j x hx => by
          have hj : j < Vs.size := by rw [← hl]; exact (List.getElem?_eq_some_iff.1 hx).1
          have hV : Vs[j]? = some Vs[j] := Array.getElem?_eq_getElem hj
          rw [Array.getD_eq_getD_getElem?, hV]
          exact g2 j x _ hx hV)
        refine ⟨c', st, .agg ys Vs (by rw [frzCells_len hf, hl]) g1 (fun j y V hy hV => ?_)⟩
        have := r j y hy
        rwa [Array.getD_eq_getD_getElem?, hV] at this
    · cases h
  · exact frzCell_sound s hX h

theorem frzL_len : ∀ {xs ys : List AV} {H H' : Hp}, frzL H xs = some (H', ys) → ys.length = xs.length
  | [], ys, H, H', h => by cases h; rfl
  | x :: r, ys, H, H', h => by
    unfold frzL at h
    split at h
    · split at h
      · rename_i h2
        cases h
        simp [frzL_len h2]
      · cases h
    · cases h

theorem frzL_sound : ∀ {xs ys : List AV} {c : Cx} {H H' : Hp}, Sim c H → frzL H xs = some (H', ys) →
    ∀ F : Nat → Value, (∀ (j : Nat) (x : AV), xs[j]? = some x → Rel c x (F j)) → ∃ c', Still c H c' H' ∧ ∀ (j : Nat) (y : AV), ys[j]? = some y → Rel c' y (F j)
  | [], ys, c, H, H', s, h => by cases h; exact fun F _ => ⟨c, Still.refl s, fun j y hy => by cases hy⟩
  | x :: r, ys, c, H, H', s, h => by
    unfold frzL at h
    split at h
    · rename_i H1 y h1
      split at h
      · rename_i H2 ys' h2
        cases h
        intro F hF
        obtain ⟨c1, s1, r1⟩ := frz1_sound s (hF 0 x (by simp)) h1
        obtain ⟨c2, s2, r2⟩ := frzL_sound s1.to_.sim h2 (fun j => F (j + 1)) (fun j z hz => (hF (j + 1) z (by simpa using hz)).mono s1.to_.ext.mono)
        refine ⟨c2, s1.trans s s2, fun j z hz => ?_⟩
        cases j with
        | zero => simp at hz; subst hz; exact r1.mono s2.to_.ext.mono
        | succ j => exact r2 j z (by simpa using hz)
      · cases h
    · cases h

theorem frzv_sound {c : Cx} {H H' : Hp} (s : Sim c H) {x y : AV} {X : Value} (hX : Rel c x X) (h : frzv H x = some (H', y)) : ∃ c', Still c H c' H' ∧ Rel c' y X := by
  unfold frzv at h
  split at h
  · rename_i vs
    split at h
    · rename_i H1 ys hf
      cases h
      cases hX with
      | tup _ Vs hl g2 =>
        obtain ⟨c', st, r⟩ := frzL_sound s hf (fun j => Vs.getD j undef) (fun j x hx => by
          have hj : j < Vs.size := by rw [← hl]; exact (List.getElem?_eq_some_iff.1 hx).1
          have hV : Vs[j]? = some Vs[j] := Array.getElem?_eq_getElem hj
          rw [Array.getD_eq_getD_getElem?, hV]
          exact g2 j x _ hx hV)
        refine ⟨c', st, .tup ys Vs (by rw [frzL_len hf, hl]) (fun j y V hy hV => ?_)⟩
        have := r j y hy
        rwa [Array.getD_eq_getD_getElem?, hV] at this
    · cases h
  · exact frz1_sound s hX h
end Go.Vi
end
section
set_option autoImplicit false
set_option linter.unusedVariables false
set_option linter.unusedSimpArgs false
namespace Go.Vi

def vbuildList (P : Program) (t : TypeId) (len : Nat) (ps : List (Nat × AV)) : Option AV :=
  match elemAt P t with
  | some (none, e, sz) => match zcOf P e with
    | some zc => if zc.length = sz ∧ sz ≠ 0 ∧ len * sz ≤ 2 ^ 24 then match vfillRows sz (List.replicate len zc) ps with
        | some rows => if allVal rows = true ∧ rows.length = len then some (.list .tight rows) else none
        | none => none
      else none
    | none => none
  | _ => none

theorem buildList_sound {P : Program} {c : Cx} {H : Hp} (s : Sim c H) {t : TypeId} {len : Nat} {ps : List (Nat × AV)} {PS : Array (Nat × Value)} {v : AV} (hp : PartsR c ps PS.toList) (h : vbuildList P t len ps = some v) :
    Yields P c H (Instr.buildSlice t len PS) v H := by
  unfold vbuildList at h
  split at h
  · rename_i e sz he
    obtain ⟨hsz, hu⟩ := elemAt_of he
    have hu := (hu.resolve_right (fun h => by obtain ⟨_, h, _⟩ := h; cases h)).2
    split at h
    · rename_i zc hzc
      split at h
      · rename_i hc
        obtain ⟨c1, c2, c3⟩ := hc
        split at h
        · rename_i rows hf
          split at h
          · rename_i hv
            obtain ⟨hv, hlen⟩ := hv
            cases h
            obtain ⟨Z, z1, z2, z3⟩ := run_zc hzc c.w
            have hR := zero_cells (c := c) (n := len) (m := len) z2 c1 c2 (Nat.le_refl _) (z3 c)
            obtain ⟨cells, f1, f2, f3, f4⟩ := fillRows_sound c2 hp hf hR (by simp)
            have T := To.newI s (w' := c.w.alloc (.cells cells e)) (by rw [← World.alloc_eq]; simp) (fun b hb => by rw [← World.alloc_eq]; simp only []; rw [Array.getElem?_push, if_neg (by omega)]) rfl rfl rfl
            refine ⟨.slice (some ⟨c.w.heap.size, 0, none⟩) len len, _, ?_, T, ?_⟩
            · show (Instr.buildSlice t len PS).run P c.w = .ok _ (c.w.alloc (.cells cells e))
              simp only [Instr.buildSlice, Sem.run_bind, run_un hu, Result.andThen_ok, run_sz hsz]
              rw [if_neg (by omega)]
              by_cases h0 : len * sz = 0
              · rw [if_pos h0]
                have e0 : (Array.map (fun x => (#[] : Array Value)[x % (#[] : Array Value).size]!) (Array.range (len * sz))) = (Array.range (len * sz)).map (fun j => Z.cells[j % Z.cells.size]!) := by rw [h0]; simp [range0]
                simp only [pure_bind, e0, f1]
                simp [newRow]
              · rw [if_neg h0]
                simp only [bind_assoc, pure_bind, Sem.run_bind, z1, Result.andThen_ok, f1]
                simp [newRow]
            · have hnew : (c.w.alloc (.cells cells e)).heap[c.w.heap.size]? = some (.cells cells e (0, 0)) := by rw [← World.alloc_eq]; simp
              have mI : MonoI c { c with w := c.w.alloc (.cells cells e), I := fun b => c.I b ∨ b = c.w.heap.size } := ⟨fun _ h => .inl h, fun b h => by
                show (c.w.alloc (.cells cells e)).heap[b]? = c.w.heap[b]?
                have := s.bound b h
                rw [← World.alloc_eq]
                simp only []
                rw [Array.getElem?_push, if_neg (by omega)]⟩
              have hrel := Rel.list (c := { c with w := c.w.alloc (.cells cells e), I := fun b => c.I b ∨ b = c.w.heap.size }) .tight rows c.w.heap.size 0 sz len none (.inr rfl) (fun i j => cells.getD (i * sz + j) undef) (.inr (.inr rfl)) (by omega) (fun _ => hlen.symm)
                (fun r hr => by obtain ⟨i, hi⟩ := List.mem_iff_getElem?.1 hr; exact (f2 i r hi).1) hv
                (fun i j hi hj => by
                  have hr : rows[i]? = some rows[i] := List.getElem?_eq_getElem hi
                  obtain ⟨g1, g2⟩ := f2 i _ hr
                  obtain ⟨V, v1, v2, v3⟩ := g2 j (rows[i])[j] (List.getElem?_eq_getElem (by omega))
                  rw [cell_at hnew]
                  simp only [Nat.zero_add] at v1 ⊢
                  rw [Array.getD_eq_getD_getElem?, v1]
                  exact ⟨rfl, v2⟩)
                (fun i r j x hr hx => by
                  obtain ⟨g1, g2⟩ := f2 i r hr
                  obtain ⟨V, v1, v2, v3⟩ := g2 j x hx
                  simp only [Nat.zero_add] at v1
                  rw [Array.getD_eq_getD_getElem?, v1]
                  exact v3.val mI (List.all_eq_true.1 (List.all_eq_true.1 hv r (List.mem_of_getElem? hr)) x (List.mem_of_getElem? hx)))
              rwa [hlen] at hrel
          · cases h
        · cases h
      · cases h
    · cases h
  · cases h
end Go.Vi
end
