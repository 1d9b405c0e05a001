/- Part of the proofs of the tied cards of Care: the texts ViM ViX ViMa ViN. Conditions: none of its own. -/
import Derived.Test.YtenfndlbldffgaaGreatDoorHa
import Derived.MapKept
import Derived.Laws.IdiomRangeMap
import Derived.KernelRfl
import Derived.Lib.Bytealg
set_option autoImplicit false
set_option linter.unusedVariables false
set_option linter.unusedSimpArgs false
namespace Go.Vi
inductive Md | shr | iso | shf
 deriving DecidableEq
abbrev Sem1 := Nat → List AV → Hp → (AV → Hp → Prop) → Prop
def lend0 (H : Hp) (x : AV) : Option AV :=
 match x with
 | .row t l i n => match rowsOf H (.row t l i n) with
   | some rows => if allVal rows = true then some (.list .bor rows) else none
   | none => none
 | .sub l i k es n => match rowsOf H (.sub l i k es n) with
   | some rows => if allVal rows = true ∧ lenOk es rows = true then some (.list .bor rows) else none
   | none => none
 | .ptr l i k => match H[l]? with
   | some (.arr _ _ rows) | some (.frz _ rows) => match rows[i]? with
     | some r => if (r.drop k).all AV.isVal = true then some (.iptr true (r.drop k)) else none
     | none => none
   | _ => none
 | x => if x.isLent = true then some x else none
def mapL {α β : Type} (f : α → Option β) : List α → Option (List β)
 | [] => some []
 | x :: r => match f x, mapL f r with
   | some y, some ys => some (y :: ys)
   | _, _ => none
def lend (H : Hp) (x : AV) : Option AV :=
 match x with
 | .agg cs => (mapL (lend0 H) cs).map .agg
 | .clo f cs => (mapL (lend0 H) cs).map (.clo f)
 | x => lend0 H x
theorem mapL_get {α β : Type} {f : α → Option β} : ∀ {xs : List α} {ys : List β}, mapL f xs = some ys → ys.length = xs.length ∧ ∀ (j : Nat) (y : β), ys[j]? = some y → ∃ x, xs[j]? = some x ∧ f x = some y
 | [], ys, h => by cases h; exact ⟨rfl, fun j y hy => by cases hy⟩
 | x :: r, ys, h => by
   unfold mapL at h
   split at h
   · rename_i z zs h1 h2
     cases h
     obtain ⟨i1, i2⟩ := mapL_get h2
     refine ⟨by simp [i1], fun j y hy => ?_⟩
     cases j with
     | zero => simp at hy; subst hy; exact ⟨x, by simp, h1⟩
     | succ j => simpa using i2 j y (by simpa using hy)
   cases h
def lentCx (c : Cx) : Cx := { c with B := fun b => b < c.w.heap.size, ρ := fun _ => none }
theorem lentSim {c : Cx} {H : Hp} (s : Sim c H) : Sim (lentCx c) [] :=
 ⟨s.bound, fun b h => h, fun l o h => (by simp at h), fun l l' cl cl' h => (by obtain ⟨o, h, _⟩ := h; simp at h), fun l _ => rfl⟩
theorem lentMonoI {c : Cx} : MonoI c (lentCx c) := ⟨fun _ h => h, fun _ _ => rfl⟩
theorem Rel.lent {c : Cx} {H : Hp} (s : Sim c H) {x : AV} {X : Value} (h : Rel c x X) (hx : x.isLent = true) : Rel (lentCx c) x X := by
 cases h with
 | iptr bo cs b o F hb hv h1 h2 =>
   refine .iptr bo cs b o F (hb.imp id fun h => ?_) hv h1 (fun j y hy => (h2 j y hy).val lentMonoI (hv y (List.mem_of_getElem? hy)))
   cases bo
   · exact h
   exact s.boundB b h
 | list t rows b o sz cap sp hsp F hb hc ht hsz hv h1 h2 =>
   refine .list t rows b o sz cap sp hsp F (hb.imp id fun h => ?_) hc ht hsz hv h1 (fun i r j y hr hy => (h2 i r j y hr hy).val lentMonoI (List.all_eq_true.1 (List.all_eq_true.1 hv r (List.mem_of_getElem? hr)) y (List.mem_of_getElem? hy)))
   cases t
   · exact h
   · exact h
   exact s.boundB b h
 | clo f cs Vs hl h2 =>
   cases cs with
   | nil => exact .clo f [] Vs hl (fun j x V hx => by cases hx)
   | cons y r => cases hx
 | undef V => cases hx
 | ptr l i k cl h => cases hx
 | row t l i n cl o cap h ho hn ht hl => cases hx
 | sub l i k es n cl o cap h ho hn => cases hx
 | agg cs Vs hl h1 h2 => cases hx
 | tup cs Vs hl h2 => cases hx
 | mapr l cl h => cases hx
 | iface t v V h => cases hx
 | int k n => exact .int k n
 | bool b => exact .bool b
 | str s => exact .str s
 | nilp => exact .nilp
 | nils => exact .nils
 | nilf => exact .nilf
 | nilm => exact .nilm
 | nili => exact .nili
theorem list_of_slice {c : Cx} {t : Tg} {V : Value} {sz : Nat} {rows : List (List AV)} (h : SliceAt c V sz rows) (hv : allVal rows = true) (hn : V ≠ .slice none 0 0 → True) (c' : Cx) (m : MonoI c c') {b o n cap : Nat} (hV : V = .slice (some ⟨b, o, none⟩) n cap)
 (hb : rows = [] ∨ t.In c' b) (hw : c'.w.heap[b]? = c.w.heap[b]?) (hc : rows.length ≤ cap) (ht : t = .tight → cap = rows.length) : Rel c' (.list t rows) V := by
 subst hV
 rcases h with ⟨_, _, h, h0⟩ | ⟨b', o', cap', h, hcell⟩
 · cases h
   subst h0
   exact .list t [] b o sz cap none (.inl rfl) (fun _ _ => undef) (.inl rfl) (Nat.zero_le _) ht (fun r hr => by cases hr) rfl (fun i j hi hj => by simp at hi) (fun i r j x hr hx => by cases hr)
 cases h
 have hF : ∀ i j, ∃ U, i < rows.length → j < sz → c'.w.cell? ⟨b, o + i * sz + j, none⟩ = some U ∧ U.oneCell' = true ∧ ∀ (r : List AV) (x : AV), rows[i]? = some r → r[j]? = some x → Rel c' x U := fun i j => by
  by_cases hij : i < rows.length ∧ j < sz
  · have hr : rows[i]? = some rows[i] := List.getElem?_eq_getElem hij.1
    obtain ⟨g1, g2⟩ := hcell i _ hr
    obtain ⟨U, u1, u2, u3⟩ := g2 j (rows[i])[j] (List.getElem?_eq_getElem (by omega))
    refine ⟨U, fun _ _ => ⟨by rw [cell_of_block hw]; exact u1, u2, fun r x hr' hx => ?_⟩⟩
    rw [hr] at hr'
    cases hr'
    rw [List.getElem?_eq_getElem (by omega)] at hx
    cases hx
    exact u3.val m (List.all_eq_true.1 (List.all_eq_true.1 hv _ (List.getElem_mem hij.1)) _ (List.getElem_mem _))
  exact ⟨undef, fun a b => absurd ⟨a, b⟩ hij⟩
 exact .list t rows b o sz cap none (.inr rfl) (fun i j => (hF i j).choose) hb hc ht (fun r hr => by obtain ⟨i, hi⟩ := List.mem_iff_getElem?.1 hr; exact (hcell i r hi).1) hv
  (fun i j hi hj => ⟨((hF i j).choose_spec hi hj).1, ((hF i j).choose_spec hi hj).2.1⟩)
  (fun i r j x hr hx => by
   have hi := (List.getElem?_eq_some_iff.1 hr).1
   have hj : j < sz := by rw [← (hcell i r hr).1]; exact (List.getElem?_eq_some_iff.1 hx).1
   exact ((hF i j).choose_spec hi hj).2.2 r x hr hx)
theorem row_block {c : Cx} {H : Hp} (s : Sim c H) {l : Nat} {cl : CL} (hρ : c.ρ l = some cl) {sz : Nat} {rows : List (List AV)} (hl : (∃ T, H[l]? = some (.arr T sz rows)) ∨ H[l]? = some (.frz sz rows)) :
 cl.sz = sz ∧ cl.blk < c.w.heap.size ∧ ∀ (i : Nat) (r : List AV), rows[i]? = some r → r.length = sz := by
 rcases hl with ⟨T, hl⟩ | hl
 · obtain ⟨cl', cells, e1, e2, e3, e4, e5, e6, e7⟩ := s.obj l _ hl
   rw [hρ] at e1; cases e1
   exact ⟨e2, (Array.getElem?_eq_some_iff.1 e3).1, fun i r hr => (e7 i r hr).1⟩
 obtain ⟨e0, cl', cells, T, fr, e1, e2, e3, e4, e5, e6⟩ := s.obj l _ hl
 rw [hρ] at e1; cases e1
 exact ⟨e2, (Array.getElem?_eq_some_iff.1 e3).1, fun i r hr => (e6 i r hr).1⟩
theorem rowsOf_row {H : Hp} {t : Bool} {l i n : Nat} {rows : List (List AV)} (h : rowsOf H (.row t l i n) = some rows) :
 ∃ sz rows0, ((∃ T, H[l]? = some (.arr T sz rows0)) ∨ H[l]? = some (.frz sz rows0)) ∧ i + n ≤ rows0.length ∧ rows = (rows0.drop i).take n := by
 simp only [rowsOf] at h
 split at h
 · rename_i T sz rows0 hl
   split at h
   · rename_i hle; cases h; exact ⟨sz, rows0, .inl ⟨_, hl⟩, hle, rfl⟩
   cases h
 · rename_i sz rows0 hl
   split at h
   · rename_i hle; cases h; exact ⟨sz, rows0, .inr hl, hle, rfl⟩
   cases h
 cases h
theorem rowsOf_sub {H : Hp} {l i k es n : Nat} {rows : List (List AV)} (h : rowsOf H (.sub l i k es n) = some rows) :
 ∃ sz rows0, ((∃ T, H[l]? = some (.arr T sz rows0)) ∨ H[l]? = some (.frz sz rows0)) ∧ rows.length = n := by
 simp only [rowsOf] at h
 split at h
 · rename_i T sz rows0 hl
   split at h
   · split at h
     · cases h; exact ⟨sz, rows0, .inl ⟨_, hl⟩, chunk_length _ _ _⟩
     cases h
   cases h
 · rename_i sz rows0 hl
   split at h
   · split at h
     · cases h; exact ⟨sz, rows0, .inr hl, chunk_length _ _ _⟩
     cases h
   cases h
 cases h
theorem row_list {c : Cx} {H : Hp} (s : Sim c H) {x : AV} {X : Value} {rows : List (List AV)} (hx : (∃ t l i n, x = .row t l i n) ∨ ∃ l i k es n, x = .sub l i k es n ∧ lenOk es rows = true) (hX : Rel c x X) (hr : rowsOf H x = some rows) (hv : allVal rows = true) {t : Tg} (ht : t ≠ .tight) (c' : Cx) (m : MonoI c c')
 (hb : ∀ b, b < c.w.heap.size → (∃ l cl sz rows0, c.ρ l = some cl ∧ cl.blk = b ∧ ((∃ T, H[l]? = some (.arr T sz rows0)) ∨ H[l]? = some (.frz sz rows0))) → t.In c' b) (hw : ∀ b, b < c.w.heap.size → c'.w.heap[b]? = c.w.heap[b]?) : Rel c' (.list t rows) X := by
 rcases hx with ⟨tt, l, i, n, rfl⟩ | ⟨l, i, k, es, n, rfl, hlo⟩
 · obtain ⟨sz, rows0, hl, hle, e⟩ := rowsOf_row hr
   cases hX with
   | row _ _ _ _ cl o cap hρ ho hn ht' hlim =>
     obtain ⟨b1, b2, b3⟩ := row_block s hρ hl
     have hlo : lenOk sz rows = true := by
      refine List.all_eq_true.2 (fun r hr' => ?_)
      rw [e] at hr'
      obtain ⟨q, hq⟩ := List.mem_iff_getElem?.1 (List.mem_of_mem_drop (List.mem_of_mem_take hr'))
      simpa using b3 q r hq
     have hlen : rows.length = n := by rw [e]; simp; omega
     have hs := rows_sound s (.row tt l i n cl o cap hρ ho hn ht' hlim) hr hlo
     exact list_of_slice hs hv (fun _ => trivial) c' m rfl (.inr (hb _ b2 ⟨l, cl, sz, rows0, hρ, rfl, hl⟩)) (hw _ b2) (by omega) (fun h => absurd h ht)
 obtain ⟨sz, rows0, hl, hlen⟩ := rowsOf_sub hr
 cases hX with
 | sub _ _ _ _ _ cl o cap hρ ho hn =>
   obtain ⟨b1, b2, b3⟩ := row_block s hρ hl
   have hs := rows_sound s (.sub l i k es n cl o cap hρ ho hn) hr hlo
   exact list_of_slice hs hv (fun _ => trivial) c' m rfl (.inr (hb _ b2 ⟨l, cl, sz, rows0, hρ, rfl, hl⟩)) (hw _ b2) (by omega) (fun h => absurd h ht)
theorem lend0_sound {c : Cx} {H : Hp} (s : Sim c H) {x y : AV} {X : Value} (hX : Rel c x X) (h : lend0 H x = some y) : Rel (lentCx c) y X := by
 unfold lend0 at h
 split at h
 · rename_i t l i n
   split at h
   · rename_i rows hr
     split at h
     · rename_i hv
       cases h
       exact row_list s (.inl ⟨_, _, _, _, rfl⟩) hX hr hv (by decide) _ lentMonoI (fun b hb _ => hb) (fun _ _ => rfl)
     cases h
   cases h
 · rename_i l i k es n
   split at h
   · rename_i rows hr
     split at h
     · rename_i hv
       cases h
       exact row_list s (.inr ⟨_, _, _, _, _, rfl, hv.2⟩) hX hr hv.1 (by decide) _ lentMonoI (fun b hb _ => hb) (fun _ _ => rfl)
     cases h
   cases h
 · rename_i l i k
   have key : ∀ {sz : Nat} {rows : List (List AV)}, ((∃ T, H[l]? = some (.arr T sz rows)) ∨ H[l]? = some (.frz sz rows)) → (match rows[i]? with | some r => if (r.drop k).all AV.isVal = true then some (AV.iptr true (r.drop k)) else none | none => none) = some y → Rel (lentCx c) y X := by
    intro sz rows hl h
    split at h
    · rename_i r hr
      split at h
      · rename_i hv
        cases h
        cases hX with
        | ptr _ _ _ cl hρ =>
          obtain ⟨b1, b2, b3⟩ := row_block s hρ hl
          have hcells : CellsAt c cl.blk (cl.base + i * cl.sz + k) (r.drop k) := by
           obtain ⟨b, o, e, hc⟩ := ptr_cells s (.ptr l i k cl hρ) (hl.imp (fun ⟨T, h⟩ => ⟨T, sz, h⟩) (fun h => ⟨sz, h⟩)) hr
           cases e
           exact hc
          have hF : ∀ j, ∃ U, j < (r.drop k).length → c.w.cell? ⟨cl.blk, cl.base + i * cl.sz + k + j, none⟩ = some U ∧ U.oneCell' = true ∧ ∀ x, (r.drop k)[j]? = some x → Rel (lentCx c) x U := fun j => by
           by_cases hj : j < (r.drop k).length
           · obtain ⟨U, u1, u2, u3⟩ := hcells j _ (List.getElem?_eq_getElem hj)
             refine ⟨U, fun _ => ⟨u1, u2, fun x hx => ?_⟩⟩
             rw [List.getElem?_eq_getElem hj] at hx
             cases hx
             exact u3.val lentMonoI (List.all_eq_true.1 hv _ (List.getElem_mem hj))
           exact ⟨undef, fun h => absurd h hj⟩
          exact .iptr true _ cl.blk _ (fun j => (hF j).choose) (.inr b2) (fun x hx => List.all_eq_true.1 hv x hx)
           (fun j hj => ⟨((hF j).choose_spec hj).1, ((hF j).choose_spec hj).2.1⟩) (fun j x hx => ((hF j).choose_spec (List.getElem?_eq_some_iff.1 hx).1).2.2 x hx)
      cases h
    cases h
   split at h
   · rename_i T sz rows hl; exact key (.inl ⟨T, hl⟩) h
   · rename_i sz rows hl; exact key (.inr hl) h
   cases h
 split at h
 · rename_i hl
   cases h
   exact hX.lent s hl
 cases h
theorem lend_sound {c : Cx} {H : Hp} (s : Sim c H) {x y : AV} {X : Value} (hX : Rel c x X) (h : lend H x = some y) : Rel (lentCx c) y X := by
 unfold lend at h
 split at h
 · rename_i cs
   obtain ⟨ys, h1, h2⟩ := map_some h
   subst h2
   obtain ⟨m1, m2⟩ := mapL_get h1
   cases hX with
   | agg _ Vs hl g1 g2 =>
     refine .agg ys Vs (by omega) g1 (fun j y V hy hV => ?_)
     obtain ⟨x, hx, hf⟩ := m2 j y hy
     exact lend0_sound s (g2 j x V hx hV) hf
 · rename_i f cs
   obtain ⟨ys, h1, h2⟩ := map_some h
   subst h2
   obtain ⟨m1, m2⟩ := mapL_get h1
   cases hX with
   | clo _ _ Vs hl g2 =>
     refine .clo f ys Vs (by omega) (fun j y V hy hV => ?_)
     obtain ⟨x, hx, hf⟩ := m2 j y hy
     exact lend0_sound s (g2 j x V hx hV) hf
 exact lend0_sound s hX h
def retD : Nat → Hp → AV → Option AV
 | 0, _, x => if x.isVal = true then some x else none
 | d + 1, H, x => match x with
   | .row t l i n => match rowsOf H (.row t l i n) with
     | some rows => (mapL (mapL (retD d H)) rows).map (.list .loose)
     | none => none
   | .sub l i k es n => match rowsOf H (.sub l i k es n) with
     | some rows => if lenOk es rows = true then (mapL (mapL (retD d H)) rows).map (.list .loose) else none
     | none => none
   | x => if x.isVal = true then some x else none
def ret0 (H : Hp) (x : AV) : Option AV := retD 3 H x
def ret1 (H : Hp) (x : AV) : Option AV :=
 match x with
 | .agg cs => (mapL (ret0 H) cs).map .agg
 | x => ret0 H x
def retv (H : Hp) (x : AV) : Option AV :=
 match x with
 | .tup vs => (mapL (ret1 H) vs).map .tup
 | x => ret1 H x
def backCx (c c2 : Cx) : Cx := { c with w := c2.w, I := fun b => c.I b ∨ (c.w.heap.size ≤ b ∧ b < c2.w.heap.size) }
theorem not_owned_nil {c : Cx} {b : Nat} : ¬ Owned c [] b := fun ⟨l, cl, ⟨o, h, _⟩, _⟩ => by simp at h
theorem back_to {c c2 : Cx} {H H2 : Hp} (s : Sim c H) (t : To (lentCx c) [] c2 H2) : To c H (backCx c c2) H := by
 have hfr : ∀ b, b < c.w.heap.size → c2.w.heap[b]? = c.w.heap[b]? := fun b hb => t.ext.frame b hb not_owned_nil
 have hsz : c.w.heap.size ≤ c2.w.heap.size := t.ext.size
 have m : Mono c (backCx c c2) := ⟨fun _ h => .inl h, fun _ h => h, fun _ _ h => h, fun b h => hfr b (h.elim (s.bound b) (s.boundB b))⟩
 refine ⟨⟨m, hsz, fun b hb _ => hfr b hb, fun b h => h.imp id (fun h => .inl h.1), fun _ => Iff.rfl, fun _ _ h => .inl h, t.ext.os, t.ext.tape, t.ext.output⟩, ⟨fun b h => ?_, fun b h => ?_, fun l o h => ?_, s.inj, s.fresh⟩, Nat.le_refl _, fun _ _ h => h⟩
 · show b < c2.w.heap.size
   rcases h with h | h
   · have := s.bound b h; omega
   exact h.2
 · show b < c2.w.heap.size
   have := s.boundB b h; omega
 refine (s.obj l o h).keep m (fun cl hr hv hi => ?_) (fun _ h => h) (fun cl hr hv => hfr _ (s.lt (live_of h hv) hr))
 rcases hi with hi | hi
 · exact hi
 have := s.lt (live_of h hv) hr; omega
theorem back_monoI {c c2 : Cx} {H H2 : Hp} (s : Sim c H) (t : To (lentCx c) [] c2 H2) : MonoI c2 (backCx c c2) := by
 refine ⟨fun b h => ?_, fun _ _ => rfl⟩
 rcases t.ext.inew b h with h1 | h1 | h1
 · exact .inl h1
 · exact .inr ⟨h1, t.sim.bound b h⟩
 exact absurd h1 not_owned_nil
theorem list_of_conv {c c' : Cx} {t : Tg} {sz : Nat} {rows rows' : List (List AV)} {f : AV → Option AV} {b o n cap : Nat} (h : SliceAt c (.slice (some ⟨b, o, none⟩) n cap) sz rows)
 (hf : ∀ (x y : AV) (X : Value), f x = some y → Rel c x X → Rel c' y X ∧ y.isVal = true) (hm : mapL (mapL f) rows = some rows')
 (hb : rows = [] ∨ t.In c' b) (hw : c'.w.heap[b]? = c.w.heap[b]?) (hc : rows.length ≤ cap) (ht : t ≠ .tight) : Rel c' (.list t rows') (.slice (some ⟨b, o, none⟩) n cap) ∧ (AV.list t rows').isVal = (t != .bor) := by
 refine ⟨?_, rfl⟩
 rcases h with ⟨_, _, h, h0⟩ | ⟨b', o', cap', h, hcell⟩
 · cases h
   subst h0
   cases hm
   exact .list t [] b o sz cap none (.inl rfl) (fun _ _ => undef) (.inl rfl) (Nat.zero_le _) (fun h => absurd h ht) (fun r hr => by cases hr) rfl (fun i j hi hj => by simp at hi) (fun i r j x hr hx => by cases hr)
 cases h
 obtain ⟨m1, m2⟩ := mapL_get hm
 have hrow : ∀ (i : Nat) (r' : List AV), rows'[i]? = some r' → ∃ r, rows[i]? = some r ∧ r'.length = r.length ∧ ∀ (j : Nat) (y : AV), r'[j]? = some y → ∃ x, r[j]? = some x ∧ f x = some y := fun i r' hr' => by
  obtain ⟨r, h1, h2⟩ := m2 i r' hr'
  obtain ⟨k1, k2⟩ := mapL_get h2
  exact ⟨r, h1, k1, k2⟩
 have hF : ∀ i j, ∃ U, i < rows.length → j < sz → c'.w.cell? ⟨b, o + i * sz + j, none⟩ = some U ∧ U.oneCell' = true ∧ ∀ (r : List AV) (x : AV), rows[i]? = some r → r[j]? = some x → Rel c x U := fun i j => by
  by_cases hij : i < rows.length ∧ j < sz
  · have hr : rows[i]? = some rows[i] := List.getElem?_eq_getElem hij.1
    obtain ⟨g1, g2⟩ := hcell i _ hr
    obtain ⟨U, u1, u2, u3⟩ := g2 j (rows[i])[j] (List.getElem?_eq_getElem (by omega))
    refine ⟨U, fun _ _ => ⟨by rw [cell_of_block hw]; exact u1, u2, fun r x hr' hx => ?_⟩⟩
    rw [hr] at hr'
    have hr' := Option.some.inj hr'
    subst hr'
    rw [List.getElem?_eq_getElem (by omega)] at hx
    have hx := Option.some.inj hx
    subst hx
    exact u3
  exact ⟨undef, fun a b => absurd ⟨a, b⟩ hij⟩
 have hval : ∀ (i j : Nat) (r' : List AV) (y : AV), rows'[i]? = some r' → r'[j]? = some y → Rel c' y (hF i j).choose ∧ y.isVal = true := fun i j r' y hr' hy => by
  obtain ⟨r, h1, h2, h3⟩ := hrow i r' hr'
  obtain ⟨x, h4, h5⟩ := h3 j y hy
  have hi := (List.getElem?_eq_some_iff.1 h1).1
  have hj : j < sz := by rw [← (hcell i r h1).1]; exact (List.getElem?_eq_some_iff.1 h4).1
  exact hf x y _ h5 (((hF i j).choose_spec hi hj).2.2 r x h1 h4)
 have := Rel.list (c := c') t rows' b o sz cap none (.inr rfl) (fun i j => (hF i j).choose) (hb.imp (fun h => by subst h; exact List.length_eq_zero_iff.1 (by simpa using m1)) id) (by omega) (fun h => absurd h ht)
  (fun r' hr' => by
   obtain ⟨i, hi⟩ := List.mem_iff_getElem?.1 hr'
   obtain ⟨r, h1, h2, _⟩ := hrow i r' hi
   rw [h2]
   exact (hcell i r h1).1)
  (List.all_eq_true.2 fun r' hr' => List.all_eq_true.2 fun y hy => by
   obtain ⟨i, hi⟩ := List.mem_iff_getElem?.1 hr'
   obtain ⟨j, hj⟩ := List.mem_iff_getElem?.1 hy
   exact (hval i j r' y hi hj).2)
  (fun i j hi hj => ⟨((hF i j).choose_spec (by omega) hj).1, ((hF i j).choose_spec (by omega) hj).2.1⟩)
  (fun i r' j y hr' hy => (hval i j r' y hr' hy).1)
 rwa [m1] at this
theorem retD_sound {c c2 : Cx} {H H2 : Hp} (s : Sim c H) (t : To (lentCx c) [] c2 H2) : ∀ (d : Nat) {x y : AV} {X : Value}, retD d H2 x = some y → Rel c2 x X → Rel (backCx c c2) y X ∧ y.isVal = true := by
 have m := back_monoI s t
 have hin : ∀ b, b < c2.w.heap.size → (∃ l cl sz rows0, c2.ρ l = some cl ∧ cl.blk = b ∧ ((∃ T, H2[l]? = some (.arr T sz rows0)) ∨ H2[l]? = some (.frz sz rows0))) → Tg.loose.In (backCx c c2) b := by
  rintro b hb ⟨l, cl, sz, rows0, hρ, rfl, hl⟩
  rcases t.ext.own l cl hρ with h1 | h1 | h1
  · cases h1
  · exact .inr ⟨h1, hb⟩
  exact absurd h1 not_owned_nil
 intro d
 induction d with
 | zero =>
   intro x y X h hX
   simp only [retD] at h
   split at h
   · rename_i hv; cases h; exact ⟨hX.val m hv, hv⟩
   cases h
 | succ d ih =>
   intro x y X h hX
   simp only [retD] at h
   split at h
   · rename_i tt l i n
     split at h
     · rename_i rows hr
       obtain ⟨rows', h1, h2⟩ := map_some h
       subst h2
       obtain ⟨sz, rows0, hl, hle, e⟩ := rowsOf_row hr
       cases hX with
       | row _ _ _ _ cl o cap hρ ho hn ht' hlim =>
         obtain ⟨b1, b2, b3⟩ := row_block t.sim hρ hl
         have hlo : lenOk sz rows = true := by
          refine List.all_eq_true.2 (fun r hr' => ?_)
          rw [e] at hr'
          obtain ⟨q, hq⟩ := List.mem_iff_getElem?.1 (List.mem_of_mem_drop (List.mem_of_mem_take hr'))
          simpa using b3 q r hq
         have hlen : rows.length = n := by rw [e]; simp; omega
         have hs := rows_sound t.sim (.row tt l i n cl o cap hρ ho hn ht' hlim) hr hlo
         obtain ⟨z1, z2⟩ := list_of_conv (c' := backCx c c2) (t := .loose) hs (fun x y X h1 h2 => ih h1 h2) h1 (.inr (hin _ b2 ⟨l, cl, sz, rows0, hρ, rfl, hl⟩)) rfl (by omega) (by decide)
         exact ⟨z1, z2⟩
     cases h
   · rename_i l i k es n
     split at h
     · rename_i rows hr
       split at h
       · rename_i hlo
         obtain ⟨rows', h1, h2⟩ := map_some h
         subst h2
         obtain ⟨sz, rows0, hl, hlen⟩ := rowsOf_sub hr
         cases hX with
         | sub _ _ _ _ _ cl o cap hρ ho hn =>
           obtain ⟨b1, b2, b3⟩ := row_block t.sim hρ hl
           have hs := rows_sound t.sim (.sub l i k es n cl o cap hρ ho hn) hr hlo
           obtain ⟨z1, z2⟩ := list_of_conv (c' := backCx c c2) (t := .loose) hs (fun x y X h1 h2 => ih h1 h2) h1 (.inr (hin _ b2 ⟨l, cl, sz, rows0, hρ, rfl, hl⟩)) rfl (by omega) (by decide)
           exact ⟨z1, z2⟩
       cases h
     cases h
   split at h
   · rename_i hv; cases h; exact ⟨hX.val m hv, hv⟩
   cases h
theorem ret0_sound {c c2 : Cx} {H H2 : Hp} (s : Sim c H) (t : To (lentCx c) [] c2 H2) {x y : AV} {X : Value} (hX : Rel c2 x X) (h : ret0 H2 x = some y) : Rel (backCx c c2) y X :=
 (retD_sound s t 3 h hX).1
theorem ret1_sound {c c2 : Cx} {H H2 : Hp} (s : Sim c H) (t : To (lentCx c) [] c2 H2) {x y : AV} {X : Value} (hX : Rel c2 x X) (h : ret1 H2 x = some y) : Rel (backCx c c2) y X := by
 unfold ret1 at h
 split at h
 · rename_i cs
   obtain ⟨ys, h1, h2⟩ := map_some h
   subst h2
   obtain ⟨m1, m2⟩ := mapL_get h1
   cases hX with
   | agg _ Vs hl g1 g2 =>
     refine .agg ys Vs (by omega) g1 (fun j y V hy hV => ?_)
     obtain ⟨x, hx, hf⟩ := m2 j y hy
     exact ret0_sound s t (g2 j x V hx hV) hf
 exact ret0_sound s t hX h
theorem retv_sound {c c2 : Cx} {H H2 : Hp} (s : Sim c H) (t : To (lentCx c) [] c2 H2) {x y : AV} {X : Value} (hX : Rel c2 x X) (h : retv H2 x = some y) : Rel (backCx c c2) y X := by
 unfold retv at h
 split at h
 · rename_i vs
   obtain ⟨ys, h1, h2⟩ := map_some h
   subst h2
   obtain ⟨m1, m2⟩ := mapL_get h1
   cases hX with
   | tup _ Vs hl g2 =>
     refine .tup ys Vs (by omega) (fun j y V hy hV => ?_)
     obtain ⟨x, hx, hf⟩ := m2 j y hy
     exact ret1_sound s t (g2 j x V hx hV) hf
 exact ret1_sound s t hX h
def frz1 (H : Hp) (x : AV) : Option (Hp × AV) :=
 match x with
 | .agg cs => match frzCells H cs with
   | some (H', ys) => some (H', .agg ys)
   | none => none
 | x => frzCell H x
def frzL (H : Hp) : List AV → Option (Hp × List AV)
 | [] => some (H, [])
 | x :: r => match frz1 H x with
   | some (H1, y) => match frzL H1 r with
     | some (H2, ys) => some (H2, y :: ys)
     | none => none
   | none => none
def frzv (H : Hp) (x : AV) : Option (Hp × AV) :=
 match x with
 | .tup vs => match frzL H vs with
   | some (H', ys) => some (H', .tup ys)
   | none => none
 | x => frz1 H x
theorem frz1_sound {c : Cx} {H H' : Hp} (s : Sim c H) {x y : AV} {X : Value} (hX : Rel c x X) (h : frz1 H x = some (H', y)) : ∃ c', Still c H c' H' ∧ Rel c' y X := by
 unfold frz1 at h
 split at h
 · rename_i cs
   split at h
   · rename_i H1 ys hf
     cases h
     cases hX with
     | agg _ Vs hl g1 g2 =>
       obtain ⟨c', st, r⟩ := frzCells_sound s hf (fun j => Vs.getD j undef) (fun j x hx => by
        have hj : j < Vs.size := by rw [← hl]; exact (List.getElem?_eq_some_iff.1 hx).1
        have hV : Vs[j]? = some Vs[j] := Array.getElem?_eq_getElem hj
        rw [Array.getD_eq_getD_getElem?, hV]
        exact g2 j x _ hx hV)
       refine ⟨c', st, .agg ys Vs (by rw [frzCells_len hf, hl]) g1 (fun j y V hy hV => ?_)⟩
       have := r j y hy
       rwa [Array.getD_eq_getD_getElem?, hV] at this
   cases h
 exact frzCell_sound s hX h
theorem frzL_len : ∀ {xs ys : List AV} {H H' : Hp}, frzL H xs = some (H', ys) → ys.length = xs.length
 | [], ys, H, H', h => by cases h; rfl
 | x :: r, ys, H, H', h => by
   unfold frzL at h
   split at h
   · split at h
     · rename_i h2
       cases h
       simp [frzL_len h2]
     cases h
   cases h
theorem frzL_sound : ∀ {xs ys : List AV} {c : Cx} {H H' : Hp}, Sim c H → frzL H xs = some (H', ys) →
 ∀ F : Nat → Value, (∀ (j : Nat) (x : AV), xs[j]? = some x → Rel c x (F j)) → ∃ c', Still c H c' H' ∧ ∀ (j : Nat) (y : AV), ys[j]? = some y → Rel c' y (F j)
 | [], ys, c, H, H', s, h => by cases h; exact fun F _ => ⟨c, Still.refl s, fun j y hy => by cases hy⟩
 | x :: r, ys, c, H, H', s, h => by
   unfold frzL at h
   split at h
   · rename_i H1 y h1
     split at h
     · rename_i H2 ys' h2
       cases h
       intro F hF
       obtain ⟨c1, s1, r1⟩ := frz1_sound s (hF 0 x (by simp)) h1
       obtain ⟨c2, s2, r2⟩ := frzL_sound s1.to_.sim h2 (fun j => F (j + 1)) (fun j z hz => (hF (j + 1) z (by simpa using hz)).mono s1.to_.ext.mono)
       refine ⟨c2, s1.trans s s2, fun j z hz => ?_⟩
       cases j with
       | zero => simp at hz; subst hz; exact r1.mono s2.to_.ext.mono
       | succ j => exact r2 j z (by simpa using hz)
     cases h
   cases h
theorem frzv_sound {c : Cx} {H H' : Hp} (s : Sim c H) {x y : AV} {X : Value} (hX : Rel c x X) (h : frzv H x = some (H', y)) : ∃ c', Still c H c' H' ∧ Rel c' y X := by
 unfold frzv at h
 split at h
 · rename_i vs
   split at h
   · rename_i H1 ys hf
     cases h
     cases hX with
     | tup _ Vs hl g2 =>
       obtain ⟨c', st, r⟩ := frzL_sound s hf (fun j => Vs.getD j undef) (fun j x hx => by
        have hj : j < Vs.size := by rw [← hl]; exact (List.getElem?_eq_some_iff.1 hx).1
        have hV : Vs[j]? = some Vs[j] := Array.getElem?_eq_getElem hj
        rw [Array.getD_eq_getD_getElem?, hV]
        exact g2 j x _ hx hV)
       refine ⟨c', st, .tup ys Vs (by rw [frzL_len hf, hl]) (fun j y V hy hV => ?_)⟩
       have := r j y hy
       rwa [Array.getD_eq_getD_getElem?, hV] at this
   cases h
 exact frz1_sound s hX h
end Go.Vi
namespace Go.Vi
def vbuildList (P : Program) (t : TypeId) (len : Nat) (ps : List (Nat × AV)) : Option AV :=
 match elemAt P t with
 | some (none, e, sz) => match zcOf P e with
   | some zc => if zc.length = sz ∧ sz ≠ 0 ∧ len * sz ≤ 2 ^ 24 then match vfillRows sz (List.replicate len zc) ps with
    | some rows => if allVal rows = true ∧ rows.length = len then some (.list .tight rows) else none
    | none => none
     else none
   | none => none
 | _ => none
theorem buildList_sound {P : Program} {c : Cx} {H : Hp} (s : Sim c H) {t : TypeId} {len : Nat} {ps : List (Nat × AV)} {PS : Array (Nat × Value)} {v : AV} (hp : PartsR c ps PS.toList) (h : vbuildList P t len ps = some v) :
 Yields P c H (Instr.buildSlice t len PS) v H := by
 unfold vbuildList at h
 split at h
 · rename_i e sz he
   obtain ⟨hsz, hu⟩ := elemAt_of he
   have hu := (hu.resolve_right (fun h => by obtain ⟨_, h, _⟩ := h; cases h)).2
   split at h
   · rename_i zc hzc
     split at h
     · rename_i hc
       obtain ⟨c1, c2, c3⟩ := hc
       split at h
       · rename_i rows hf
         split at h
         · rename_i hv
           obtain ⟨hv, hlen⟩ := hv
           cases h
           obtain ⟨Z, z1, z2, z3⟩ := run_zc hzc c.w
           have hR := zero_cells (c := c) (n := len) (m := len) z2 c1 c2 (Nat.le_refl _) (z3 c)
           obtain ⟨cells, f1, f2, f3, f4⟩ := fillRows_sound c2 hp hf hR (by simp)
           have T := To.newI s (w' := c.w.alloc (.cells cells e)) (by rw [← World.alloc_eq]; simp) (fun b hb => by rw [← World.alloc_eq]; simp only []; rw [Array.getElem?_push, if_neg (by omega)]) rfl rfl rfl
           refine ⟨.slice (some ⟨c.w.heap.size, 0, none⟩) len len, _, ?_, T, ?_⟩
           · show (Instr.buildSlice t len PS).run P c.w = .ok _ (c.w.alloc (.cells cells e))
             simp only [Instr.buildSlice, Sem.run_bind, run_un hu, Result.andThen_ok, run_sz hsz]
             rw [if_neg (by omega)]
             by_cases h0 : len * sz = 0
             · rw [if_pos h0]
               have e0 : (Array.map (fun x => (#[] : Array Value)[x % (#[] : Array Value).size]!) (Array.range (len * sz))) = (Array.range (len * sz)).map (fun j => Z.cells[j % Z.cells.size]!) := by rw [h0]; simp [range0]
               simp only [pure_bind, e0, f1]
               simp [newRow]
             rw [if_neg h0]
             simp only [bind_assoc, pure_bind, Sem.run_bind, z1, Result.andThen_ok, f1]
             simp [newRow]
           have hnew : (c.w.alloc (.cells cells e)).heap[c.w.heap.size]? = some (.cells cells e (0, 0)) := by rw [← World.alloc_eq]; simp
           have mI : MonoI c { c with w := c.w.alloc (.cells cells e), I := fun b => c.I b ∨ b = c.w.heap.size } := ⟨fun _ h => .inl h, fun b h => by
            show (c.w.alloc (.cells cells e)).heap[b]? = c.w.heap[b]?
            have := s.bound b h
            rw [← World.alloc_eq]
            simp only []
            rw [Array.getElem?_push, if_neg (by omega)]⟩
           have hrel := Rel.list (c := { c with w := c.w.alloc (.cells cells e), I := fun b => c.I b ∨ b = c.w.heap.size }) .tight rows c.w.heap.size 0 sz len none (.inr rfl) (fun i j => cells.getD (i * sz + j) undef) (.inr (.inr rfl)) (by omega) (fun _ => hlen.symm)
            (fun r hr => by obtain ⟨i, hi⟩ := List.mem_iff_getElem?.1 hr; exact (f2 i r hi).1) hv
            (fun i j hi hj => by
             have hr : rows[i]? = some rows[i] := List.getElem?_eq_getElem hi
             obtain ⟨g1, g2⟩ := f2 i _ hr
             obtain ⟨V, v1, v2, v3⟩ := g2 j (rows[i])[j] (List.getElem?_eq_getElem (by omega))
             rw [cell_at hnew]
             simp only [Nat.zero_add] at v1 ⊢
             rw [Array.getD_eq_getD_getElem?, v1]
             exact ⟨rfl, v2⟩)
            (fun i r j x hr hx => by
             obtain ⟨g1, g2⟩ := f2 i r hr
             obtain ⟨V, v1, v2, v3⟩ := g2 j x hx
             simp only [Nat.zero_add] at v1
             rw [Array.getD_eq_getD_getElem?, v1]
             exact v3.val mI (List.all_eq_true.1 (List.all_eq_true.1 hv r (List.mem_of_getElem? hr)) x (List.mem_of_getElem? hx)))
           rwa [hlen] at hrel
         cases h
       cases h
     cases h
   cases h
 cases h
end Go.Vi
namespace Go.Vi
def mfind (k : Int) : List (Int × AV) → Nat → Option (Nat × AV)
 | [], _ => none
 | e :: r, i => if e.1 = k then some (i, e.2) else mfind k r (i + 1)
def mset (k : Int) (v : AV) : List (Int × AV) → List (Int × AV)
 | [] => [(k, v)]
 | e :: r => if e.1 = k then (k, v) :: r else e :: mset k v r
def intMap (P : Program) (t : TypeId) : Option TypeId :=
 match P.underlying t with
 | some (.map kt et) => match P.underlying kt with
   | some (.int .i64) => some et
   | _ => none
 | _ => none
theorem intMap_un {P : Program} {t et : TypeId} (h : intMap P t = some et) : ∃ kt, P.underlying t = some (.map kt et) ∧ P.underlying kt = some (.int .i64) := by
 unfold intMap at h
 split at h
 · rename_i kt e h1
   split at h
   · rename_i h2; cases h; exact ⟨kt, h1, h2⟩
   cases h
 cases h
def vmakeMap (H : Hp) (r : Option Operand) : Option (AV × Hp) := if r.isNone = true then some (.mapr H.length, H ++ [.map []]) else none
def vlookup (P : Program) (H : Hp) (t : TypeId) (x k : AV) (ok : Bool) : Option AV :=
 match intMap P t, x, k with
 | some et, .mapr l, .int .i64 n => match H[l]? with
   | some (.map es) => match mfind n es 0 with
     | some (_, v) => some (if ok = true then .tup [v, .bool true] else v)
     | none => (zrOf P et).map fun v => if ok = true then .tup [v, .bool false] else v
   | _ => none
 | _, _, _ => none
def vmapUpdate (P : Program) (H : Hp) (t : TypeId) (x k v : AV) : Option Hp :=
 match intMap P t, x, k with
 | some _, .mapr l, .int .i64 n => match H[l]? with
   | some (.map es) => some (H.set l (.map (mset n v es)))
   | _ => none
 | _, _, _ => none
def vrange (P : Program) (H : Hp) (t : TypeId) (x : AV) : Option (AV × Hp) :=
 match intMap P t, x with
 | some _, .mapr l => match H[l]? with
   | some (.map es) => some (.ptr H.length 0 0, H ++ [.iter l es.length []])
   | _ => none
 | _, _ => none
def ventry (H : Hp) (x : AV) : Option AV :=
 match x with
 | .ptr li 0 0 => match H[li]? with
   | some (.iter l n seen) => match seen.getLast?, H[l]? with
     | some j, some (.map es) => if es.length = n then (es[j]?).map fun e => .tup [.int .i64 e.1, e.2] else none
     | _, _ => none
   | _ => none
 | _ => none
def vnext (H : Hp) (x : AV) (k : AV → Hp → Prop) : Prop :=
 match x with
 | .ptr li 0 0 => match H[li]? with
   | some (.iter l n seen) => match H[l]? with
     | some (.map es) => es.length = n ∧ ((∀ j, j < n → j ∈ seen) → k (.tup [.bool false]) H) ∧
      ∀ j e, es[j]? = some e → j ∉ seen → k (.tup [.bool true, .int .i64 e.1, e.2]) (H.set li (.iter l n (seen ++ [j])))
     | _ => False
   | _ => False
 | _ => False
theorem new_map {c : Cx} {H : Hp} (s : Sim c H) : To c H { c with w := c.w.alloc (.map #[] 0), ρ := updρ c.ρ H.length ⟨c.w.heap.size, 0, 0, 0⟩ } (H ++ [.map []]) :=
 To.new s _ _ _ rfl fun c' m hρ hh hI hB => ⟨_, #[], hρ, hh, hI, hB, rfl, fun j e he => by cases he⟩
theorem makeMap_sound {P : Program} {c : Cx} {H H' : Hp} (s : Sim c H) {t : TypeId} {r : Option Operand} {ρ : Operand → Value} {v : AV} (h : vmakeMap H r = some (v, H')) : Yields P c H (Instr.makeMap t (r.map ρ)) v H' := by
 unfold vmakeMap at h
 split at h
 · rename_i hr
   cases h
   cases r with
   | some x => cases hr
   | none => exact ⟨.map (some c.w.heap.size), _, rfl, new_map s, Rel.mapr _ (⟨c.w.heap.size, 0, 0, 0⟩ : CL) (updρ_self _ _ _)⟩
 cases h
theorem mfind_get {k : Int} : ∀ {es : List (Int × AV)} {i j : Nat} {v : AV}, mfind k es i = some (j, v) → i ≤ j ∧ ∃ n, es[j - i]? = some (n, v) ∧ n = k
 | [], _, _, _, h => by cases h
 | e :: r, i, j, v, h => by
   unfold mfind at h
   split at h
   · rename_i hk
     cases h
     exact ⟨Nat.le_refl _, e.1, by simp, hk⟩
   obtain ⟨h1, n, h2, h3⟩ := mfind_get h
   refine ⟨by omega, n, ?_, h3⟩
   rw [show j - i = (j - (i + 1)) + 1 by omega]
   simpa using h2
def MapAt (c : Cx) (ms : List MapEntry) (i : Nat) (es : List (Int × AV)) : Prop :=
 ms.length = es.length ∧ ∀ (j : Nat) (e : Int × AV), es[j]? = some e → ∃ V, ms[j]? = some ⟨.int .i64 e.1, V, i + j⟩ ∧ Rel c e.2 V
theorem MapAt.tail {c : Cx} {m : MapEntry} {ms : List MapEntry} {i : Nat} {e : Int × AV} {es : List (Int × AV)} (h : MapAt c (m :: ms) i (e :: es)) : MapAt c ms (i + 1) es := by
 refine ⟨by simpa using h.1, fun j e' he => ?_⟩
 obtain ⟨V, h1, h2⟩ := h.2 (j + 1) e' (by simpa using he)
 exact ⟨V, by simpa [Nat.add_assoc, Nat.add_comm 1] using h1, h2⟩
theorem find_now {c : Cx} {k : Int} : ∀ {es : List (Int × AV)} {ms : List MapEntry} (i : Nat), MapAt c ms i es →
 (mfind k es i = none → Instr.findNow (.int .i64) (.int .i64 k) ms i = some none) ∧
 ∀ j v, mfind k es i = some (j, v) → ∃ V, Instr.findNow (.int .i64) (.int .i64 k) ms i = some (some (j, V)) ∧ Rel c v V ∧ ∃ n, ms[j - i]? = some ⟨.int .i64 k, V, n⟩
 | [], ms, i, h => by
   have := List.length_eq_zero_iff.1 h.1
   subst this
   exact ⟨fun _ => rfl, fun j v h => by cases h⟩
 | e :: r, ms, i, h => by
   cases ms with
   | nil => cases h.1
   | cons m ms =>
     obtain ⟨V, h1, h2⟩ := h.2 0 e rfl
     simp at h1
     subst h1
     have ih := find_now (k := k) (i + 1) h.tail
     simp only [mfind, Instr.findNow, Instr.sameNow, if_true]
     by_cases hk : e.1 = k
     · rw [if_pos hk]
       have hb : (k == e.1) = true := beq_iff_eq.2 hk.symm
       rw [hb]
       refine ⟨(by intro h; cases h), fun j v hv => ?_⟩
       cases hv
       exact ⟨V, rfl, h2, i, by simp [hk]⟩
     rw [if_neg hk]
     have hb : (k == e.1) = false := beq_eq_false_iff_ne.2 (fun h => hk h.symm)
     rw [hb]
     refine ⟨ih.1, fun j v hv => ?_⟩
     obtain ⟨V', a, b, n, d⟩ := ih.2 j v hv
     have hj := (mfind_get hv).1
     refine ⟨V', a, b, n, ?_⟩
     rw [show j - i = (j - (i + 1)) + 1 by omega]
     simpa using d
theorem checkKey_int {P : Program} {kt : TypeId} (h : P.underlying kt = some (.int .i64)) (em : Bool) (n : Int) (w : World) : (Instr.checkKey em 10000 kt (.int .i64 n)).run P w = .ok () w := by
 rw [show (10000 : Nat) = 9999 + 1 from rfl]
 unfold Instr.checkKey
 rw [Sem.run_bind, run_un h]
 rfl
theorem lookup_sound {P : Program} {c : Cx} {H : Hp} (s : Sim c H) {t : TypeId} {x k v : AV} {X K : Value} {ok : Bool} (hX : Rel c x X) (hK : Rel c k K) (h : vlookup P H t x k ok = some v) :
 ∃ V, (Instr.lookup t X K ok).run P c.w = .ok V c.w ∧ Rel c v V := by
 unfold vlookup at h
 split at h
 · rename_i et l n hi
   obtain ⟨kt, u1, u2⟩ := intMap_un hi
   cases hK
   cases hX with
   | mapr _ cl hρ =>
     split at h
     · rename_i es hl
       obtain ⟨cl', ms, e1, e2, e3, e4, e5, e6⟩ := s.obj l _ hl
       rw [hρ] at e1
       cases e1
       have hm : MapAt c ms.toList 0 es := ⟨by simpa using e5, fun j e he => by obtain ⟨V, a, b⟩ := e6 j e he; exact ⟨V, by simpa using a, b⟩⟩
       obtain ⟨f1, f2⟩ := find_now (k := n) 0 hm
       have hrun : ∀ j V, Instr.findNow (.int .i64) (.int .i64 n) ms.toList 0 = some (some (j, V)) → (Instr.lookup t (.map (some cl.blk)) (.int .i64 n) ok).run P c.w = .ok (if ok then .tuple #[V, .bool true] else V) c.w := fun j V ha => by
        unfold Instr.lookup
        simp only [Sem.run_bind, run_un u1, Result.andThen, run_getObj_map e2, Sem.run_pure, checkKey_int u2, MapKept.run_findKey u2 ha]
       have hrun0 : ∀ Z, (zeroValue et).run P c.w = .ok Z c.w → Instr.findNow (.int .i64) (.int .i64 n) ms.toList 0 = some none → (Instr.lookup t (.map (some cl.blk)) (.int .i64 n) ok).run P c.w = .ok (if ok then .tuple #[Z, .bool false] else Z) c.w := fun Z hz ha => by
        unfold Instr.lookup
        simp only [Sem.run_bind, run_un u1, Result.andThen, run_getObj_map e2, Sem.run_pure, checkKey_int u2, MapKept.run_findKey u2 ha, hz]
       split at h
       · rename_i j v' hf
         cases h
         obtain ⟨V, a, b, _⟩ := f2 j v' hf
         cases ok with
         | true => exact ⟨.tuple #[V, .bool true], by rw [hrun _ _ a]; rfl, .tup _ _ rfl (fun j y Y hy hY => by
          match j, hy, hY with
          | 0, hy, hY => cases hy; cases hY; exact b
          | 1, hy, hY => cases hy; cases hY; exact .bool _
          | j + 2, hy, hY => cases hy)⟩
         | false => exact ⟨V, by rw [hrun _ _ a]; rfl, b⟩
       rename_i hf
       obtain ⟨z, hz, hv⟩ := map_some h
       obtain ⟨Z, z1, z2⟩ := run_zr hz c.w
       have hr := hrun0 Z z1 (f1 hf)
       cases ok with
       | true =>
         subst hv
         exact ⟨.tuple #[Z, .bool false], hr, .tup _ _ rfl (fun j y Y hy hY => by
          match j, hy, hY with
          | 0, hy, hY => cases hy; cases hY; exact z2 c
          | 1, hy, hY => cases hy; cases hY; exact .bool _
          | j + 2, hy, hY => cases hy)⟩
       | false => subst hv; exact ⟨Z, hr, z2 c⟩
     cases h
 cases h
theorem mset_none {k : Int} {v : AV} : ∀ {es : List (Int × AV)} {i : Nat}, mfind k es i = none → mset k v es = es ++ [(k, v)]
 | [], _, _ => rfl
 | e :: r, i, h => by
   unfold mfind at h
   split at h
   · cases h
   rename_i hk
   simp only [mset, if_neg hk, mset_none h, List.cons_append]
theorem mset_some {k : Int} {v u : AV} : ∀ {es : List (Int × AV)} {i j : Nat}, mfind k es i = some (j, u) → mset k v es = es.set (j - i) (k, v)
 | [], _, _, h => by cases h
 | e :: r, i, j, h => by
   have hj := (mfind_get h).1
   unfold mfind at h
   split at h
   · rename_i hk
     cases h
     simp [mset, hk]
   rename_i hk
   have h2 := (mfind_get h).1
   rw [show j - i = (j - (i + 1)) + 1 by omega]
   simp only [mset, if_neg hk, mset_some h, List.set_cons_succ]
theorem setObj_map {P : Program} {w : World} {r : Nat} {ms : Array MapEntry} {k : Nat} {o' : Obj} (h : w.heap[r]? = some (.map ms k)) : (setObj r o').run P w = .ok () { w with heap := w.heap.setIfInBounds r o' } := by
 simp [setObj, Sem.run, h]
theorem setObj_iter {P : Program} {w : World} {r n k : Nat} {m : Option Nat} {s : Array Nat} {o' : Obj} (h : w.heap[r]? = some (.mapIter m n s k)) : (setObj r o').run P w = .ok () { w with heap := w.heap.setIfInBounds r o' } := by
 simp [setObj, Sem.run, h]
theorem set_other {w : World} {r b : Nat} {o : Obj} (h : b ≠ r) : (w.heap.setIfInBounds r o)[b]? = w.heap[b]? := Array.getElem?_setIfInBounds_ne (Ne.symm h)
theorem mapUpdate_sound {P : Program} {c : Cx} {H H' : Hp} (s : Sim c H) {t : TypeId} {x k v : AV} {X K V : Value} (hX : Rel c x X) (hK : Rel c k K) (hV : Rel c v V) (h : vmapUpdate P H t x k v = some H') :
 ∃ c', (Instr.mapUpdate t X K V).run P c.w = .ok () c'.w ∧ To c H c' H' := by
 unfold vmapUpdate at h
 split at h
 · rename_i et l n hi
   obtain ⟨kt, u1, u2⟩ := intMap_un hi
   cases hK
   cases hX with
   | mapr _ cl hρ =>
     split at h
     · rename_i es hl
       cases h
       obtain ⟨cl', ms, e1, e2, e3, e4, e5, e6⟩ := s.obj l _ hl
       rw [hρ] at e1
       cases e1
       have hlt : cl.blk < c.w.heap.size := (Array.getElem?_eq_some_iff.1 e2).1
       have hm : MapAt c ms.toList 0 es := ⟨by simpa using e5, fun j e he => by obtain ⟨V, a, b⟩ := e6 j e he; exact ⟨V, by simpa using a, b⟩⟩
       obtain ⟨f1, f2⟩ := find_now (k := n) 0 hm
       have wr : ∀ (ob : Obj) (o' : VO), (Mono c { c with w := { c.w with heap := c.w.heap.setIfInBounds cl.blk ob } } → (({ c.w with heap := c.w.heap.setIfInBounds cl.blk ob } : World).heap[cl.blk]? = some ob) → ObjAt { c with w := { c.w with heap := c.w.heap.setIfInBounds cl.blk ob } } l o') →
        To c H { c with w := { c.w with heap := c.w.heap.setIfInBounds cl.blk ob } } (H.set l o') := fun ob o' ho =>
        To.write s ⟨_, hl, rfl⟩ hρ o' (by simp) (fun b hb => set_other hb) rfl rfl rfl (fun m => ho m (Array.getElem?_setIfInBounds_self_of_lt hlt))
       cases hf : mfind n es 0 with
       | none =>
         have hr : (Instr.mapUpdate t (.map (some cl.blk)) (.int .i64 n) V).run P c.w = .ok () { c.w with heap := c.w.heap.setIfInBounds cl.blk (.map (ms.push ⟨.int .i64 n, V, es.length⟩) (es.length + 1)) } := by
          unfold Instr.mapUpdate
          simp only [Sem.run_bind, run_un u1, Result.andThen, run_getObj_map e2, checkKey_int u2, MapKept.run_findKey u2 (f1 hf), setObj_map e2]
         refine ⟨_, hr, wr _ _ fun m hh => ⟨cl, _, hρ, by rw [mset_none hf]; simpa using hh, e3, e4, by rw [mset_none hf]; simp [e5], fun j e he => ?_⟩⟩
         rw [mset_none hf] at he
         by_cases hj : j < es.length
         · rw [List.getElem?_append_left hj] at he
           obtain ⟨U, a, b⟩ := e6 j e he
           exact ⟨U, by rw [Array.getElem?_push_lt (by omega)]; rw [Array.getElem?_eq_getElem (by omega)] at a; exact a, b.mono m⟩
         have : j = es.length := by
          have := (List.getElem?_eq_some_iff.1 he).1
          simp at this
          omega
         subst this
         simp at he
         subst he
         exact ⟨V, by rw [Array.getElem?_push, if_pos e5.symm], hV.mono m⟩
       | some p =>
         obtain ⟨j, u⟩ := p
         obtain ⟨U, a, b, q, d⟩ := f2 j u hf
         have hj := mfind_get hf
         simp only [Nat.sub_zero] at d
         have hjl : j < ms.size := by have := (List.getElem?_eq_some_iff.1 d).1; simpa using this
         have hd : ms[j]? = some ⟨.int .i64 n, U, q⟩ := by simpa using d
         have hr : (Instr.mapUpdate t (.map (some cl.blk)) (.int .i64 n) V).run P c.w = .ok () { c.w with heap := c.w.heap.setIfInBounds cl.blk (.map (ms.modify j fun e => { e with key := .int .i64 n, val := V }) es.length) } := by
          unfold Instr.mapUpdate
          simp only [Sem.run_bind, run_un u1, Result.andThen, run_getObj_map e2, checkKey_int u2, MapKept.run_findKey u2 a]
          have hk : (Instr.keyThatStays (((ms[j]?).map (·.key)).getD (.int .i64 n)) (.int .i64 n)).run P c.w = .ok (.int .i64 n) c.w := by
           rw [hd]
           have hs : ∀ m, Instr.sameBits m (.int .i64 n) (.int .i64 n) = true := fun m => by cases m <;> simp [Instr.sameBits]
           simp only [Option.map_some, Option.getD_some, Instr.keyThatStays, hs, if_true]
           rfl
          simp only [hk, Result.andThen, setObj_map e2]
         refine ⟨_, hr, wr _ _ fun m hh => ⟨cl, _, hρ, by rw [mset_some hf]; simpa using hh, e3, e4, by rw [mset_some hf]; simp [e5], fun i e he => ?_⟩⟩
         rw [mset_some hf, Nat.sub_zero] at he
         by_cases hi : i = j
         · subst hi
           rw [List.getElem?_set_self (by omega)] at he
           cases he
           obtain ⟨n', g1, g2⟩ := hj.2
           rw [Nat.sub_zero] at g1
           obtain ⟨U', a', b'⟩ := e6 i _ g1
           refine ⟨V, ?_, hV.mono m⟩
           rw [hd] at a'
           rw [Array.getElem?_modify, if_pos rfl, hd]
           simp at a' ⊢
           exact a'.2.2
         rw [List.getElem?_set_ne (Ne.symm hi)] at he
         obtain ⟨U', a', b'⟩ := e6 i e he
         exact ⟨U', by rw [Array.getElem?_modify, if_neg (Ne.symm hi)]; exact a', b'.mono m⟩
     cases h
 cases h
theorem range_sound {P : Program} {c : Cx} {H H' : Hp} (s : Sim c H) {t : TypeId} {x v : AV} {X : Value} (hX : Rel c x X) (h : vrange P H t x = some (v, H')) : Yields P c H (Instr.range t X) v H' := by
 unfold vrange at h
 split at h
 · rename_i et l hi
   obtain ⟨kt, u1, u2⟩ := intMap_un hi
   cases hX with
   | mapr _ cl hρ =>
     split at h
     · rename_i es hl
       cases h
       obtain ⟨cl', ms, e1, e2, e3, e4, e5, e6⟩ := s.obj l _ hl
       rw [hρ] at e1
       cases e1
       refine ⟨.pointer (some ⟨c.w.heap.size, 0, none⟩), _, run_range_map c.w t kt et cl.blk ms _ u1 e2, To.new s (.iter l es.length []) _ ⟨c.w.heap.size, 0, 0, 0⟩ rfl fun c' m hρ' hh hI hB => ⟨_, cl, hρ', rfl, m.ρ _ _ hρ, hh, hI, hB⟩, ?_⟩
       have := Rel.ptr (c := { c with w := c.w.alloc (.mapIter (some cl.blk) es.length #[] es.length), ρ := updρ c.ρ H.length ⟨c.w.heap.size, 0, 0, 0⟩ }) H.length 0 0 _ (updρ_self _ _ _)
       simpa using this
     cases h
 cases h
theorem iter_at {c : Cx} {H : Hp} (s : Sim c H) {li l n : Nat} {seen : List Nat} {es : List (Int × AV)} {X : Value} (hX : Rel c (.ptr li 0 0) X) (hli : H[li]? = some (.iter l n seen)) (hl : H[l]? = some (.map es)) :
 ∃ cl cm ms, c.ρ li = some cl ∧ c.ρ l = some cm ∧ X = .pointer (some ⟨cl.blk, 0, none⟩) ∧ c.w.heap[cl.blk]? = some (.mapIter (some cm.blk) n seen.toArray n) ∧ c.w.heap[cm.blk]? = some (.map ms es.length) ∧ MapAt c ms.toList 0 es := by
 cases hX with
 | ptr _ _ _ cl hρ =>
   obtain ⟨cl', cm, e1, e2, e3, e4, e5, e6⟩ := s.obj li _ hli
   rw [hρ] at e1
   cases e1
   obtain ⟨cm', ms, g1, g2, g3, g4, g5, g6⟩ := s.obj l _ hl
   rw [e3] at g1
   cases g1
   exact ⟨cl, cm, ms, hρ, e3, by simp [e2], e4, g2, by simpa using g5, fun j e he => by obtain ⟨V, a, b⟩ := g6 j e he; exact ⟨V, by simpa using a, b⟩⟩
theorem born_get {c : Cx} {ms : List MapEntry} {es : List (Int × AV)} (h : MapAt c ms 0 es) {j : Nat} {m : MapEntry} (hm : ms[j]? = some m) : m.born = j ∧ ∃ e V, es[j]? = some e ∧ m = ⟨.int .i64 e.1, V, j⟩ ∧ Rel c e.2 V := by
 have hj : j < es.length := by rw [← h.1]; exact (List.getElem?_eq_some_iff.1 hm).1
 obtain ⟨V, a, b⟩ := h.2 j es[j] (List.getElem?_eq_getElem hj)
 rw [hm] at a
 cases a
 exact ⟨by simp, es[j], V, List.getElem?_eq_getElem hj, by simp, b⟩
theorem entry_sound {P : Program} {c : Cx} {H : Hp} (s : Sim c H) {x v : AV} {X : Value} (hX : Rel c x X) (h : ventry H x = some v) : ∃ V, (Instr.entry X).run P c.w = .ok V c.w ∧ Rel c v V := by
 unfold ventry at h
 split at h
 · rename_i li
   split at h
   · rename_i l n seen hli
     split at h
     · rename_i j es hlast hl
       split at h
       · rename_i hn
         subst hn
         obtain ⟨e, he, hv⟩ := map_some h
         subst hv
         obtain ⟨cl, cm, ms, r1, r2, rfl, h1, h2, hm⟩ := iter_at s hX hli hl
         obtain ⟨V, a, b⟩ := hm.2 j e he
         rw [Nat.zero_add] at a
         have hback : seen.toArray.back? = some j := by simpa using hlast
         have hfind : ms.find? (·.born == j) = some ⟨.int .i64 e.1, V, j⟩ := by
          rw [← Array.find?_toList, List.find?_eq_some_iff_getElem]
          obtain ⟨hj, hje⟩ := List.getElem?_eq_some_iff.1 a
          refine ⟨by simp, j, hj, hje, fun i hi => ?_⟩
          have := (born_get hm (List.getElem?_eq_getElem (show i < ms.toList.length by omega))).1
          simp only [Bool.not_eq_eq_eq_not, Bool.not_true, beq_eq_false_iff_ne]
          omega
         refine ⟨.tuple #[.int .i64 e.1, V], ?_, .tup _ _ rfl (fun i y Y hy hY => by
          match i, hy, hY with
          | 0, hy, hY => cases hy; cases hY; exact .int _ _
          | 1, hy, hY => cases hy; cases hY; exact b
          | i + 2, hy, hY => cases hy)⟩
         have g1 : (getObj cl.blk).run P c.w = .ok (.mapIter (some cm.blk) es.length seen.toArray es.length) c.w := by simp [getObj, Sem.run, h1]
         simp only [Instr.entry, Sem.run_bind, g1, Result.andThen, hback, run_getObj_map h2, bne_self_eq_false, Bool.false_eq_true, if_false, hfind, Sem.run_pure]
       cases h
     cases h
   cases h
 cases h
theorem next_sound {P : Program} {c : Cx} {H : Hp} (s : Sim c H) {ty : TypeId} {x : AV} {X : Value} {k : AV → Hp → Prop} (hX : Rel c x X) (h : vnext H x k) :
 ∃ V v c' H', (Instr.next X false ty).run P c.w = .ok V c'.w ∧ To c H c' H' ∧ Rel c' v V ∧ k v H' := by
 unfold vnext at h
 split at h
 · rename_i li
   split at h
   · rename_i l n seen hli
     split at h
     · rename_i es hl
       obtain ⟨hn, hk0, hk1⟩ := h
       subst hn
       obtain ⟨cl, cm, ms, r1, r2, rfl, h1, h2, hm⟩ := iter_at s hX hli hl
       have hlt : cl.blk < c.w.heap.size := (Array.getElem?_eq_some_iff.1 h1).1
       have hold : ∀ x ∈ ms.toList, x.born < es.length := fun x hx => by
        obtain ⟨j, hj⟩ := List.mem_iff_getElem?.1 hx
        have := (born_get hm hj).1
        have hj2 := (List.getElem?_eq_some_iff.1 hj).1
        rw [hm.1] at hj2
        omega
       have g1 : (getObj cl.blk).run P c.w = .ok (.mapIter (some cm.blk) es.length seen.toArray es.length) c.w := by simp [getObj, Sem.run, h1]
       have e1 : (ms.filter fun e => !seen.toArray.contains e.born).filter (fun x => decide (x.born < es.length)) = ms.filter fun e => !seen.toArray.contains e.born := Array.filter_eq_self.2 (fun x hx => by
        have := hold x (by simp at hx ⊢; exact hx.1)
        simpa using this)
       have e2 : (ms.filter fun e => !seen.toArray.contains e.born).filter (fun x => decide (x.born ≥ es.length)) = #[] := by
        rw [Array.filter_eq_empty_iff]
        intro x hx
        have := hold x (by simp at hx ⊢; exact hx.1)
        simp
        omega
       simp only [Instr.next, Sem.run_bind, g1, Result.andThen, run_getObj_map h2, next_test_false seen.toArray ms es.length es.length hold (Nat.le_refl _), Bool.false_eq_true, if_false, e1, e2, Array.append_empty]
       have hmem : ∀ x ∈ (ms.filter fun e => !seen.toArray.contains e.born).toList, ∃ j e V, es[j]? = some e ∧ x = ⟨.int .i64 e.1, V, j⟩ ∧ Rel c e.2 V ∧ j ∉ seen := fun x hx => by
        simp only [Array.toList_filter, List.mem_filter] at hx
        obtain ⟨hx1, hx2⟩ := hx
        obtain ⟨j, hj⟩ := List.mem_iff_getElem?.1 hx1
        obtain ⟨b1, e, V, b2, b3, b4⟩ := born_get hm hj
        refine ⟨j, e, V, b2, b3, b4, fun hc => ?_⟩
        rw [b1] at hx2
        simp [hc] at hx2
       by_cases h0 : (ms.filter fun e => !seen.toArray.contains e.born).size = 0
       · have hE : (ms.filter fun e => !seen.toArray.contains e.born) = #[] := Array.eq_empty_of_size_eq_zero h0
         refine ⟨.tuple #[.bool false], .tup [.bool false], c, H, ?_, To.refl s, .tup _ _ rfl (fun i y Y hy hY => by
          match i, hy, hY with
          | 0, hy, hY => cases hy; cases hY; exact .bool _
          | i + 1, hy, hY => cases hy), hk0 fun j hj => ?_⟩
         · rw [hE]
           simp [choose, Sem.run, Question.forced]
         rw [Array.filter_eq_empty_iff] at hE
         have hj2 : j < ms.toList.length := by rw [hm.1]; exact hj
         have := hE ms.toList[j] (by simp)
         rw [(born_get hm (List.getElem?_eq_getElem hj2)).1] at this
         simpa using this
       have hne : (ms.filter fun e => !seen.toArray.contains e.born).isEmpty = false := by
        generalize (ms.filter fun e => !seen.toArray.contains e.born) = L at h0 ⊢
        simp [Array.isEmpty, h0]
       generalize hL : (ms.filter fun e => !seen.toArray.contains e.born) = L at h0 hne hmem
       simp only [hne, Bool.false_eq_true, if_false, Array.empty_append, Array.size_map]
       have hch : ∃ (j : Nat) (w1 : World), j < L.size ∧ w1.heap = c.w.heap ∧ w1.os = c.w.os ∧ w1.tape = c.w.tape ∧ w1.output = c.w.output ∧ (choose (Question.mapNext L.size)).run P c.w = .ok j w1 := by
        by_cases hf : L.size ≤ 1
        · exact ⟨0, c.w, by omega, rfl, rfl, rfl, rfl, by simp [choose, Sem.run, Question.forced, hf]⟩
        exact ⟨_, c.w.drew, Nat.mod_lt _ (by omega), rfl, rfl, rfl, rfl, by
         simp only [choose, Sem.run, Question.forced, decide_eq_true_eq, hf, if_false, Question.cut]
         rfl⟩
       obtain ⟨j, w1, hj, q1, q2, q3, q4, hrun⟩ := hch
       obtain ⟨i, e, V, b1, b2, b3, b4⟩ := hmem L[j] (by simp)
       have hob : w1.heap[cl.blk]? = some (.mapIter (some cm.blk) es.length seen.toArray es.length) := by rw [q1]; exact h1
       have t : To c H { c with w := { w1 with heap := w1.heap.setIfInBounds cl.blk (.mapIter (some cm.blk) es.length (seen.toArray.push i) es.length) } } (H.set li (.iter l es.length (seen ++ [i]))) :=
        To.write s ⟨_, hli, rfl⟩ r1 _ (by simp [q1]) (fun b hb => by rw [← q1]; exact set_other hb) q2 q3 q4 (fun m => by
         obtain ⟨cl', cm', x1, x2, x3, x4, x5, x6⟩ := s.obj li _ hli
         rw [r1] at x1
         cases x1
         rw [r2] at x3
         cases x3
         refine ⟨cl, cm, r1, x2, r2, ?_, x5, x6⟩
         have := Array.getElem?_setIfInBounds_self_of_lt (xs := w1.heap) (i := cl.blk) (a := Obj.mapIter (some cm.blk) es.length (seen.toArray.push i) es.length) (by rw [q1]; exact hlt)
         simpa using this)
       refine ⟨.tuple #[.bool true, .int .i64 e.1, V], .tup [.bool true, .int .i64 e.1, e.2], _, _, ?_, t, .tup _ _ rfl (fun i y Y hy hY => by
        match i, hy, hY with
        | 0, hy, hY => cases hy; cases hY; exact .bool _
        | 1, hy, hY => cases hy; cases hY; exact .int _ _
        | 2, hy, hY => cases hy; cases hY; exact b3.mono t.ext.mono
        | i + 3, hy, hY => cases hy), hk1 i e b1 b4⟩
       simp only [hrun, Array.getElem?_map, Array.getElem?_eq_getElem hj, Option.map_some, b2, Sem.run_bind, setObj_iter hob, Result.andThen, Sem.run_pure]
     exact h.elim
   exact h.elim
 exact h.elim
end Go.Vi
namespace Go.Vi
theorem evL_congr {e e' : Operand → Option AV} : ∀ {l : List Operand}, (∀ x ∈ l, e x = e' x) → evL e l = evL e' l
 | [], _ => rfl
 | o :: r, h => by
   have h1 := h o (by simp)
   have h2 := evL_congr (l := r) (fun x hx => h x (by simp [hx]))
   simp only [evL, h1, h2]
theorem evP_congr {e e' : Operand → Option AV} : ∀ {l : List (Nat × Operand)}, (∀ x ∈ l.map (·.2), e x = e' x) → evP e l = evP e' l
 | [], _ => rfl
 | (i, o) :: r, h => by
   have h1 := h o (by simp)
   have h2 := evP_congr (l := r) (fun x hx => h x (by simp at hx ⊢; exact .inr hx))
   simp only [evP, h1, h2]
theorem evO_congr {e e' : Operand → Option AV} {o : Option Operand} (h : ∀ x, o = some x → e x = e' x) : evO e o = evO e' o := by
 cases o with
 | none => rfl
 | some x => simp only [evO, h x rfl]
theorem vexec_congr {P : Program} {e e' : Operand → Option AV} {H : Hp} {o : Oper} (h : ∀ x ∈ o.op.operands, e x = e' x) : vexec P e H o = vexec P e' H o := by
 obtain ⟨dst, op, type, pos, after, guard⟩ := o
 simp only at h
 cases op with
 | move x | assign x | box _ x | load _ x | nilCheck x | unOp _ _ x | convert _ _ x | fieldAddr _ x _ | field _ x _ | extract x _ =>
   simp only [vexec, h x (by simp [Op.operands])]
 | pick c a b => simp only [vexec, h c (by simp [Op.operands]), h a (by simp [Op.operands]), h b (by simp [Op.operands])]
 | alloc t => rfl
 | build t ps =>
   have := evP_congr (e := e) (e' := e') (l := ps.toList) (fun x hx => h x (by simpa [Op.operands] using hx))
   simp only [vexec, this]
 | buildSlice t n ps =>
   have := evP_congr (e := e) (e' := e') (l := ps.toList) (fun x hx => h x (by simpa [Op.operands] using hx))
   simp only [vexec, this]
 | store _ a v | binOp _ _ a v _ | makeSlice _ a v | indexAddr _ a v | index _ a v =>
   simp only [vexec, h a (by simp [Op.operands]), h v (by simp [Op.operands])]
 | makeFunc fn first captured =>
   have := evL_congr (e := e) (e' := e') (l := captured.toList) (fun x hx => h x (by simp [Op.operands]; exact .inr (by simpa using hx)))
   cases fn <;> simp only [vexec, this]
 | slice t x l hh m =>
   have h1 := evO_congr (e := e) (e' := e') (o := l) (fun y hy => h y (by subst hy; simp [Op.operands]))
   have h2 := evO_congr (e := e) (e' := e') (o := hh) (fun y hy => h y (by subst hy; simp [Op.operands]))
   have h3 := evO_congr (e := e) (e' := e') (o := m) (fun y hy => h y (by subst hy; simp [Op.operands]))
   simp only [vexec, h x (by simp [Op.operands]), h1, h2, h3]
 | call c =>
   obtain ⟨callee, args, ts⟩ := c
   cases callee with
   | builtin b =>
     have := evL_congr (e := e) (e' := e') (l := args.toList) (fun x hx => h x (by simp [Op.operands, Call.operands]; simpa using hx))
     simp only [vexec, this]
   | _ => rfl
 | _ => rfl
def vexec2 (P : Program) (md : Oper → Md) (e : Operand → Option AV) (H : Hp) (o : Oper) : Option (AV × Hp) :=
 match o.op with
 | .alloc t => if md o = .shf then valloc1 P H t else valloc P H t
 | .buildSlice t len parts => match evP e parts.toList with
   | some ps => if md o = .iso then (vbuildList P t len ps).map (·, H) else vbuildSlice P H t len ps
   | none => none
 | .call { callee := .builtin .append, args, argTypes } => if md o = .shr then match evL e args.toList, argTypes.toList with
  | some [s, x], [t, t2] => vappendR P H t t2 s x
  | _, _ => none
   else vexec P e H o
 | .makeMap _ r => vmakeMap H r
 | .lookup t x k ok => match e x, e k with
   | some a, some b => (vlookup P H t a b ok).map (·, H)
   | _, _ => none
 | .mapUpdate t m k x => match e m, e k, e x with
   | some a, some b, some v => (vmapUpdate P H t a b v).map (.tup [], ·)
   | _, _, _ => none
 | .range t x => match e x with
   | some a => vrange P H t a
   | none => none
 | .entry x => match e x with
   | some a => (ventry H a).map (·, H)
   | none => none
 | _ => vexec P e H o
theorem vexec2_congr {P : Program} {md : Oper → Md} {e e' : Operand → Option AV} {H : Hp} {o : Oper} (h : ∀ x ∈ o.op.operands, e x = e' x) : vexec2 P md e H o = vexec2 P md e' H o := by
 have hc := vexec_congr (P := P) (H := H) h
 unfold vexec2
 split
 · rfl
 · rename_i t len ps ho
   rw [ho] at h
   have := evP_congr (e := e) (e' := e') (l := ps.toList) (fun x hx => h x (by simpa [Op.operands] using hx))
   simp only [this]
 · rename_i args ts ho
   rw [ho] at h
   have := evL_congr (e := e) (e' := e') (l := args.toList) (fun x hx => h x (by simpa [Op.operands, Call.operands] using hx))
   simp only [this, hc]
 · rfl
 · rename_i t x k ok ho
   rw [ho] at h
   simp only [h x (by simp [Op.operands]), h k (by simp [Op.operands])]
 · rename_i t m k x ho
   rw [ho] at h
   simp only [h x (by simp [Op.operands]), h k (by simp [Op.operands]), h m (by simp [Op.operands])]
 · rename_i t x ho
   rw [ho] at h
   simp only [h x (by simp [Op.operands])]
 · rename_i x ho
   rw [ho] at h
   simp only [h x (by simp [Op.operands])]
 exact hc
theorem exec2_sound {P : Program} {c : Cx} {H H' : Hp} (s : Sim c H) {md : Oper → Md} {e : Operand → Option AV} {ρ : Operand → Value} (he : OpR c e ρ) {o : Oper} {v : AV} (h : vexec2 P md e H o = some (v, H')) : Ran P c H ρ o v H' := by
 unfold vexec2 at h
 split at h
 · rename_i t ho
   split at h
   · exact Ran.of_yields (alloc1_sound s h) (by simp only [execOp, ho])
   exact exec_sound s he (by simp only [vexec, ho]; exact h)
 · rename_i t len parts ho
   cases hp : evP e parts.toList with
   | none => rw [hp] at h; cases h
   | some ps =>
     rw [hp] at h
     simp only at h
     split at h
     · obtain ⟨z, h1, h2⟩ := map_some h
       cases h2
       refine Ran.of_yields (buildList_sound (PS := parts.map fun p => (p.1, ρ p.2)) s ?_ h1) (by simp only [execOp, ho])
       have := evP_sound he hp
       simpa using this
     refine exec_sound s he ?_
     simp only [vexec, ho, hp]
     exact h
 · rename_i args ts ho
   split at h
   · split at h
     · rename_i a x t t2 hx ht
       obtain ⟨l1, l2⟩ := evL_sound he hx
       have hts : ts = #[t, t2] := by apply Array.ext'; simpa using ht
       subst hts
       obtain ⟨A, X, hAX⟩ : ∃ A X, args.toList = [A, X] := by
        match hl : args.toList, l1 with
        | [A, X], _ => exact ⟨A, X, rfl⟩
       have hargs : args = #[A, X] := by apply Array.ext'; simpa using hAX
       subst hargs
       refine Ran.of_yields (appendR_sound (ty := o.type) s (l2 0 a (ρ A) rfl rfl) (l2 1 x (ρ X) rfl rfl) h) ?_
       have hm : Array.map ρ #[A, X] = #[ρ A, ρ X] := by simp
       simp only [execOp, ho, resolve, pure_bind, invoke, hm]
       rfl
     cases h
   exact exec_sound s he h
 · rename_i t r ho
   exact Ran.of_yields (makeMap_sound (ρ := ρ) (t := t) s h) (by simp only [execOp, ho])
 · rename_i t x k ok ho
   split at h
   · rename_i a b ha hb
     obtain ⟨y, h1, h2⟩ := map_some h
     cases h2
     exact Ran.of_same s (lookup_sound s (he x a ha) (he k b hb) h1) (by simp only [execOp, ho])
   cases h
 · rename_i t m k x ho
   split at h
   · rename_i a b y ha hb hy
     obtain ⟨H2, h1, h2⟩ := map_some h
     cases h2
     obtain ⟨c', r1, r2⟩ := mapUpdate_sound (P := P) s (he m a ha) (he k b hb) (he x y hy) h1
     refine ⟨undef, c', .inr ⟨?_, rfl⟩, r2, .tup [] #[] rfl (fun j x V hx => by cases hx)⟩
     simp only [execOp, ho]
     rw [Sem.run_bind, r1]
     rfl
   cases h
 · rename_i t x ho
   split at h
   · rename_i a ha
     exact Ran.of_yields (range_sound s (he x a ha) h) (by simp only [execOp, ho])
   cases h
 · rename_i x ho
   split at h
   · rename_i a ha
     obtain ⟨y, h1, h2⟩ := map_some h
     cases h2
     exact Ran.of_same s (entry_sound s (he x a ha) h1) (by simp only [execOp, ho])
   cases h
 exact exec_sound s he h
def noEsc (P : Program) (g : Nat) : Bool :=
 match P.funcs[g]? with
 | some fn => fn.name == "internal/abi.NoEscape" && fn.origin == "" && fn.body.isNone
 | none => false
theorem esc_rows : Extern.allNextRows.lookup "internal/abi.NoEscape" = none ∧ Extern.allNextRows.lookup "" = none := by
 constructor <;> kernel_rfl
theorem esc_find (fn : Func) (h : fn.name = "internal/abi.NoEscape") : Extern.find fn = some Extern.AbiNoEscape.same := by
 have h1 : Extern.allGenericRows.lookup "internal/abi.NoEscape" = none := by kernel_rfl
 have h2 : Extern.allTypedRows.lookup "internal/abi.NoEscape" = none := by kernel_rfl
 have h3 : Extern.allRows.lookup "internal/abi.NoEscape" = some Extern.AbiNoEscape.same := by kernel_rfl
 unfold Extern.find
 simp only [h, h1, h2, h3, Option.map_none]
 generalize Extern.AbiNoEscape.same = sm
 generalize (Option.map (fun x => x fn.targs fn.params fn.resultTypes) (List.lookup fn.origin Extern.allGenericRows)) = q1
 generalize (Option.map (fun x => x fn.params fn.resultTypes) (List.lookup fn.origin Extern.allTypedRows)) = q2
 generalize List.lookup fn.origin Extern.allRows = q3
 rfl
theorem run_noEsc {P : Program} {g : Nat} (h : noEsc P g = true) (X : Value) (w : World) : (callFunc g #[X]).run P w = .ok (.value X) w := by
 unfold noEsc at h
 split at h
 · rename_i fn hf
   simp only [Bool.and_eq_true, beq_iff_eq] at h
   obtain ⟨⟨h1, h2⟩, h3⟩ := h
   have hn : ¬ fn.name = "runtime.NumGoroutine" := fun e => by rw [h1] at e; exact absurd e (by decide)
   have hb : fn.body = none := by cases hb : fn.body <;> simp_all
   have he := esc_find fn h1
   have hx : Extern.findNext fn = none := by simp only [Extern.findNext, h1, h2, esc_rows.1, esc_rows.2, Option.map_none]; rfl
   have hs := Lib.run_noEscape (P := P) w X
   generalize Extern.AbiNoEscape.same = same at hs he
   simp [callFunc, hf, hn, hb, hx, he, hs]
 cases h
def isExt (P : Program) (g : Nat) (nm : String) : Bool :=
 match P.funcs[g]? with
 | some fn => fn.name == nm && fn.origin == "" && fn.body.isNone
 | none => false
def vext (P : Program) (g : Nat) (xs : List AV) : Option AV :=
 match xs with
 | [.str s, .int .u8 c] => if isExt P g "internal/bytealg.CountString" = true then some (.int .i64 (Lib.countByte s.data.toList c.toNat.toUInt8 : Nat))
   else if isExt P g "internal/bytealg.IndexByteString" = true then some (.int .i64 (Lib.indexByte s.data.toList c.toNat.toUInt8)) else none
 | [x] => if noEsc P g = true then some x else none
 | _ => none
theorem ext_run {P : Program} {g : Nat} {nm : String} {e : Array Value → Sem Value} (h : isExt P g nm = true) (hnr : (nm == "runtime.NumGoroutine") = false) (h1 : Extern.allGenericRows.lookup nm = none) (h2 : Extern.allTypedRows.lookup nm = none) (h3 : Extern.allRows.lookup nm = some e) (h4 : Extern.allNextRows.lookup nm = none)
 (args : Array Value) (w : World) : (callFunc g args).run P w = ((e args).run P w).andThen fun v w' => .ok (.value v) w' := by
 unfold isExt at h
 split at h
 · rename_i fn hf
   simp only [Bool.and_eq_true, beq_iff_eq] at h
   obtain ⟨⟨hn, ho⟩, hb⟩ := h
   refine run_callFunc_extern hf (by rw [hn]; exact hnr) hb ?_ ?_ args w
   · simp only [Extern.findNext, hn, ho, h4, esc_rows.2, Option.map_none]; rfl
   unfold Extern.find
   simp only [hn, h1, h2, h3, Option.map_none]
   generalize (Option.map (fun x => x fn.targs fn.params fn.resultTypes) (List.lookup fn.origin Extern.allGenericRows)) = q1
   generalize (Option.map (fun x => x fn.params fn.resultTypes) (List.lookup fn.origin Extern.allTypedRows)) = q2
   generalize List.lookup fn.origin Extern.allRows = q3
   rfl
 cases h
theorem vext_sound {P : Program} {c : Cx} {g : Nat} {xs : List AV} {x : AV} (h : vext P g xs = some x) {Vs : List Value} (hl : xs.length = Vs.length) (hr : ∀ (j : Nat) (x : AV) (V : Value), xs[j]? = some x → Vs[j]? = some V → Rel c x V) :
 ∃ V, (callFunc g Vs.toArray).run P c.w = .ok (.value V) c.w ∧ Rel c x V := by
 unfold vext at h
 split at h
 · rename_i s n
   match Vs, hl with
   | [V1, V2], _ =>
     have r1 := hr 0 _ V1 rfl rfl
     have r2 := hr 1 _ V2 rfl rfl
     cases r1; cases r2
     split at h
     · rename_i he
       cases h
       refine ⟨_, ?_, .int _ _⟩
       rw [ext_run he (by decide) (by kernel_rfl) (by kernel_rfl) (e := Extern.BytealgCount.count) (by kernel_rfl) (by kernel_rfl), Lib.run_countString]
       rfl
     split at h
     · rename_i he
       cases h
       refine ⟨_, ?_, .int _ _⟩
       rw [ext_run he (by decide) (by kernel_rfl) (by kernel_rfl) (e := Extern.BytealgIndexByte.indexByte) (by kernel_rfl) (by kernel_rfl), Lib.run_indexByteString]
       rfl
     cases h
 · split at h
   · rename_i he
     cases h
     obtain ⟨V, rfl⟩ := List.length_eq_one_iff.1 hl.symm
     exact ⟨V, run_noEsc he V c.w, hr 0 x V rfl rfl⟩
   cases h
 cases h
def enterOk (P : Program) (g : Nat) : Bool :=
 match P.funcs[g]? with
 | some fn => !(fn.name == "runtime.NumGoroutine") && fn.body.isSome
 | none => false
def vcallX (X : Sem1) (m : Md) (g : Nat) (xs : List AV) (H : Hp) (k : AV → Hp → Prop) : Prop :=
 match m with
 | .shr => X g xs H k
 | .iso => match mapL (lend H) xs with
   | some ys => X g ys [] fun r H2 => match retv H2 r with
     | some r' => k r' H
     | none => False
   | none => False
 | .shf => X g xs H fun r H2 => match frzv H2 r with
   | some (H3, r') => k r' H3
   | none => False
def vop (X : Sem1) (P : Program) (md : Oper → Md) (G : Glob) (env : List AV) (H : Hp) (o : Oper) (k : AV → Hp → Prop) : Prop :=
 match o.op with
 | .call { callee := .value f, args, .. } => match ev G env f, evL (ev G env) args.toList with
   | some (.clo g cs), some xs => if enterOk P g = true then vcallX X (md o) g (xs ++ cs) H k else ∃ x, vext P g (xs ++ cs) = some x ∧ k x H
   | _, _ => False
 | .next x s => match s, ev G env x with
   | false, some v => vnext H v k
   | _, _ => False
 | _ => match vexec2 P md (ev G env) H o with
   | some (r, H') => k r H'
   | none => False
def putE (env : List AV) (dst : Option Tmp) (v : AV) : List AV :=
 match dst with
 | some d => env.set d v
 | none => env
def wantedV (g : Option (Nat × Bool)) (ops : Array Oper) (env : List AV) : Option Bool :=
 match g with
 | none => some true
 | some (j, want) => match ((ops[j]?).bind (·.dst)).bind (env[·]?) with
   | some (.bool b) => some (b == want)
   | some (.tup []) => some false
   | _ => none
def XS (P : Program) (G : Glob) : Sem1 := fun f args H K => ∀ (c : Cx) (Vs : List Value), Sim c H → GOK c G → args.length = Vs.length →
 (∀ (j : Nat) (x : AV) (V : Value), args[j]? = some x → Vs[j]? = some V → Rel c x V) →
 Calls P f Vs.toArray c.w fun e w' => ∃ r H' c' V, e = .returned V ∧ w' = c'.w ∧ To c H c' H' ∧ Rel c' r V ∧ K r H'
theorem XS.mono {P : Program} {G : Glob} {f : Nat} {args : List AV} {H : Hp} {K K' : AV → Hp → Prop} (h : XS P G f args H K) (hk : ∀ r H', K r H' → K' r H') : XS P G f args H K' :=
 fun c Vs s g hl hr => (h c Vs s g hl hr).mono fun e w' ⟨r, H', c', V, a, b, d, e', f'⟩ => ⟨r, H', c', V, a, b, d, e', hk _ _ f'⟩
theorem GOK.lent {c : Cx} {G : Glob} (h : GOK c G) : GOK (lentCx c) G := fun g cs hg => (h g cs hg).val lentMonoI rfl
theorem callX_sound {P : Program} {G : Glob} {m : Md} {g : Nat} {xs : List AV} {H : Hp} {k : AV → Hp → Prop} (h : vcallX (XS P G) m g xs H k) {c : Cx} (s : Sim c H) (hg : GOK c G) {Vs : List Value} (hl : xs.length = Vs.length)
 (hr : ∀ (j : Nat) (x : AV) (V : Value), xs[j]? = some x → Vs[j]? = some V → Rel c x V) :
 Calls P g Vs.toArray c.w fun e w' => ∃ r H' c' V, e = .returned V ∧ w' = c'.w ∧ To c H c' H' ∧ Rel c' r V ∧ k r H' := by
 cases m with
 | shr => exact h c Vs s hg hl hr
 | iso =>
   simp only [vcallX] at h
   split at h
   · rename_i ys hys
     obtain ⟨m1, m2⟩ := mapL_get hys
     refine (h (lentCx c) Vs (lentSim s) hg.lent (by omega) (fun j y V hy hV => ?_)).mono ?_
     · obtain ⟨x, hx, hf⟩ := m2 j y hy
       exact lend_sound s (hr j x V hx hV) hf
     rintro e w' ⟨r, H', c', V, rfl, rfl, t, hR, hk⟩
     split at hk
     · rename_i r' hr'
       exact ⟨r', H, backCx c c', V, rfl, rfl, back_to s t, retv_sound s t hR hr', hk⟩
     exact hk.elim
   exact h.elim
 | shf =>
   refine (h c Vs s hg hl hr).mono ?_
   rintro e w' ⟨r, H', c', V, rfl, rfl, t, hR, hk⟩
   split at hk
   · rename_i H3 r' hr'
     obtain ⟨c2, st, hR2⟩ := frzv_sound t.sim hR hr'
     exact ⟨r', H3, c2, V, rfl, st.w.symm, t.trans s st.to_, hR2, hk⟩
   exact hk.elim
theorem run_enter {P : Program} {g : Nat} (h : enterOk P g = true) (Vs : Array Value) (w : World) : (callFunc g Vs).run P w = .ok (.enter g Vs) w := by
 unfold enterOk at h
 split at h
 · rename_i fn hf
   simp only [Bool.and_eq_true, Bool.not_eq_true'] at h
   have h1 : ¬ fn.name = "runtime.NumGoroutine" := fun he => by have := h.1; rw [he] at this; cases this
   have h2 : ¬ fn.body = none := by cases hb : fn.body <;> simp_all
   simp [callFunc, hf, h1, h2]
 cases h
theorem vop_call {X : Sem1} {P : Program} {md : Oper → Md} {G : Glob} {env : List AV} {H : Hp} {o : Oper} {k : AV → Hp → Prop} (h : vop X P md G env H o k) :
 (∃ f args ts g cs xs, o.op = .call ⟨.value f, args, ts⟩ ∧ ev G env f = some (.clo g cs) ∧ evL (ev G env) args.toList = some xs ∧ ((enterOk P g = true ∧ vcallX X (md o) g (xs ++ cs) H k) ∨ ∃ x, vext P g (xs ++ cs) = some x ∧ k x H)) ∨
 (∃ x v, o.op = .next x false ∧ ev G env x = some v ∧ vnext H v k) ∨
 ∃ r H', vexec2 P md (ev G env) H o = some (r, H') ∧ k r H' := by
 unfold vop at h
 split at h
 · rename_i f args ts ho
   split at h
   · rename_i g cs xs h1 h2
     split at h
     · rename_i h3
       exact .inl ⟨_, _, _, _, _, _, ho, h1, h2, .inl ⟨h3, h⟩⟩
     exact .inl ⟨_, _, _, _, _, _, ho, h1, h2, .inr h⟩
   exact h.elim
 · rename_i x sb ho
   split at h
   · rename_i v hv
     exact .inr (.inl ⟨x, v, ho, hv, h⟩)
   exact h.elim
 split at h
 · rename_i r H' hr
   exact .inr (.inr ⟨r, H', hr, h⟩)
 exact h.elim
theorem vop_sound {P : Program} {md : Oper → Md} {G : Glob} {env : List AV} {H : Hp} {o : Oper} {k : AV → Hp → Prop} (h : vop (XS P G) P md G env H o k)
 {c : Cx} (s : Sim c H) (hg : GOK c G) {a : Act} (he : EnvR c env a.tmps) {next : Act → World → Prop} {Q : Exit → Act → World → Prop}
 (hn : ∀ r H' c' V, To c H c' H' → Rel c' r V → k r H' → next (a.put o.dst V) c'.w) : o.wp P a c.w next Q := by
 have hρ := ev_sound he hg
 rcases vop_call h with ⟨f, args, ts, g, cs, xs, ho, h1, h2, h34⟩ | ⟨x, v, ho, h1, h2⟩ | ⟨r, H', h1, h2⟩
 · have hf := hρ f _ h1
   obtain ⟨l1, l2⟩ := evL_sound hρ h2
   have hrun : ∃ Vs, a.eval f = .func (.func g) #[] Vs ∧ cs.length = Vs.size ∧ ∀ (j : Nat) (x : AV) (V : Value), cs[j]? = some x → Vs[j]? = some V → Rel c x V := by
    generalize hF : a.eval f = F at hf
    cases hf with
    | clo _ _ Vs hl hr => exact ⟨Vs, rfl, hl, hr⟩
   obtain ⟨Vs, e1, e2, e3⟩ := hrun
   have hall : ∀ (j : Nat) (x : AV) (V : Value), (xs ++ cs)[j]? = some x → (args.toList.map a.eval ++ Vs.toList)[j]? = some V → Rel c x V := (fun j x V hx hV => by
    by_cases hj : j < xs.length
    · rw [List.getElem?_append_left hj] at hx
      rw [List.getElem?_append_left (by simpa [← l1] using hj)] at hV
      exact l2 j x V hx hV
    rw [List.getElem?_append_right (by omega)] at hx
    rw [List.getElem?_append_right (by simp; simp at l1; omega)] at hV
    refine e3 _ x V hx ?_
    simpa [l1] using hV)
   have hexe : (execOp a.eval o).run P c.w = (callFunc g (args.toList.map a.eval ++ Vs.toList).toArray).run P c.w := by
    simp only [execOp, ho, resolve, e1, Deferred.ofValue, pure_bind, invoke]
    congr 1
    congr 1
    apply Array.ext'
    simp
   rcases h34 with ⟨h3, h4⟩ | ⟨x, hx, hk⟩
   case inr =>
    obtain ⟨V, hV, hr⟩ := vext_sound hx (Vs := args.toList.map a.eval ++ Vs.toList) (by simp [l1, e2]) hall
    have := hn x H c V (To.refl s) hr hk
    unfold Oper.wp
    rw [hexe, hV, Oper.upon_value]
    exact this
   have hc := callX_sound h4 s hg (Vs := args.toList.map a.eval ++ Vs.toList) (by simp [l1, e2]) hall
   have hex : (execOp a.eval o).run P c.w = .ok (.enter g (args.toList.map a.eval ++ Vs.toList).toArray) c.w := by
    rw [hexe, run_enter h3]
   unfold Oper.wp
   rw [hex, Oper.upon_enter]
   refine hc.mono ?_
   rintro e w' ⟨r, H', c', V, rfl, rfl, t, hR, hk⟩
   exact hn r H' c' V t hR hk
 · obtain ⟨V, v', c', H', h3, h4, h5, h6⟩ := next_sound (P := P) (ty := o.type) s (hρ x v h1) h2
   have := hn v' H' c' V h4 h5 h6
   unfold Oper.wp
   have hexe : (execOp a.eval o).run P c.w = .ok (.value V) c'.w := by
    simp only [execOp, ho]
    rw [Sem.run_bind, h3]
    rfl
   rw [hexe, Oper.upon_value]
   exact this
 obtain ⟨V, c', h3, h4, h5⟩ := exec2_sound s hρ h1
 have := hn r H' c' V h4 h5 h2
 unfold Oper.wp
 rcases h3 with h3 | ⟨h3, rfl⟩
 · rw [h3, Oper.upon_value]; exact this
 rw [h3, Oper.upon_skip]; exact this
theorem EnvR.put {c : Cx} {env : List AV} {a : Act} (h : EnvR c env a.tmps) {v : AV} {V : Value} (hr : Rel c v V) (dst : Option Tmp) : EnvR c (putE env dst v) (a.put dst V).tmps := by
 cases dst with
 | none => exact h
 | some d =>
   refine ⟨by simp [putE, Act.put, h.1], fun t x W hx hW => ?_⟩
   simp only [putE, Act.put] at hx hW
   by_cases hd : d = t
   · subst hd
     have hlt := (List.getElem?_eq_some_iff.1 hx).1
     rw [List.length_set] at hlt
     rw [List.getElem?_set_self hlt] at hx
     have hlt' : d < a.tmps.size := by rw [← h.1]; exact hlt
     rw [Array.getElem?_setIfInBounds_self_of_lt hlt'] at hW
     cases hx
     cases hW
     exact hr
   rw [List.getElem?_set_ne hd] at hx
   rw [Array.getElem?_setIfInBounds_ne hd] at hW
   exact h.2 t x W hx hW
theorem put_defers (a : Act) (dst : Option Tmp) (V : Value) : (a.put dst V).defers = a.defers := by cases dst <;> rfl
theorem undef_rel (c : Cx) : Rel c (.tup []) undef := .tup [] #[] rfl (fun j x V hx => by cases hx)
theorem wanted_sound {c : Cx} {env : List AV} {tmps : Array Value} (h : EnvR c env tmps) {ops : Array Oper} {o : Oper} {b : Bool} (hw : wantedV o.guard ops env = some b) : Region.wanted o (yielded ops tmps) = b := by
 unfold wantedV at hw
 unfold Region.wanted
 split at hw
 · rename_i hg; cases hw; simp [hg]
 rename_i j want hg
 simp only [hg, yielded]
 cases hd : (ops[j]?).bind (·.dst) with
 | none => rw [hd] at hw; cases hw
 | some d =>
   rw [hd] at hw
   simp only [Option.bind_some] at hw ⊢
   have key : ∀ x, env[d]? = some x → ∃ V, tmps[d]? = some V ∧ Rel c x V := fun x hx => by
    have hlt := (List.getElem?_eq_some_iff.1 hx).1
    have hlt' : d < tmps.size := by rw [← h.1]; exact hlt
    exact ⟨tmps[d], Array.getElem?_eq_getElem hlt', h.2 d x _ hx (Array.getElem?_eq_getElem hlt')⟩
   split at hw
   · rename_i b' hx
     cases hw
     obtain ⟨V, h1, h2⟩ := key _ hx
     rw [h1]
     cases h2
     cases b' <;> cases want <;> rfl
   · rename_i hx
     cases hw
     obtain ⟨V, h1, h2⟩ := key _ hx
     rw [h1]
     cases h2
     rfl
   cases hw
def Wk : List AV → List AV → Prop
 | [], [] => True
 | x :: r, y :: s => (y = x ∨ y = .undef) ∧ Wk r s
 | _, _ => False
theorem Wk.refl : ∀ (e : List AV), Wk e e
 | [] => trivial
 | x :: r => ⟨.inl rfl, Wk.refl r⟩
theorem Wk.get : ∀ {e e' : List AV}, Wk e e' → e'.length = e.length ∧ ∀ (t : Nat) (y : AV), e'[t]? = some y → y = .undef ∨ e[t]? = some y
 | [], [], _ => ⟨rfl, fun t y h => by cases h⟩
 | x :: r, y :: s, ⟨h1, h2⟩ => by
   obtain ⟨i1, i2⟩ := h2.get
   refine ⟨by simp [i1], fun t z hz => ?_⟩
   cases t with
   | zero =>
     simp at hz
     subst hz
     rcases h1 with h1 | h1
     · exact .inr (by simp [h1])
     exact .inl h1
   | succ t => simpa using i2 t z (by simpa using hz)
 | [], _ :: _, h => h.elim
 | _ :: _, [], h => h.elim
theorem EnvR.wk {c : Cx} {e e' : List AV} {tmps : Array Value} (h : EnvR c e tmps) (w : Wk e e') : EnvR c e' tmps := by
 obtain ⟨i1, i2⟩ := w.get
 refine ⟨i1.trans h.1, fun t x V hx hV => ?_⟩
 rcases i2 t x hx with rfl | h1
 · exact .undef V
 exact h.2 t x V h1 hV
theorem Wk.trans : ∀ {a b c : List AV}, Wk a b → Wk b c → Wk a c
 | [], [], [], _, _ => trivial
 | x :: a, y :: b, z :: c, ⟨h1, h2⟩, ⟨h3, h4⟩ => by
   refine ⟨?_, h2.trans h4⟩
   rcases h3 with rfl | rfl
   · exact h1
   exact .inr rfl
 | [], _ :: _, _, h, _ => h.elim
 | _ :: _, [], _, h, _ => h.elim
 | _ :: _, _ :: _, [], _, h => h.elim
 | [], [], _ :: _, _, h => h.elim
def vseq (X : Sem1) (P : Program) (md : Oper → Md) (G : Glob) (ops : Array Oper) : List Nat → List AV → Hp → (List AV → Hp → Prop) → Prop
 | [], env, H, K => ∃ env', Wk env env' ∧ K env' H
 | i :: r, env, H, K => ∃ env', Wk env env' ∧ match ops[i]? with
   | none => False
   | some o => match wantedV o.guard ops env' with
     | some true => vop X P md G env' H o fun v H1 => vseq X P md G ops r (putE env' o.dst v) H1 K
     | some false => vseq X P md G ops r (putE env' o.dst (.tup [])) H K
     | none => False
structure Fo (n : Nat) (c : Cx) (H : Hp) (c' : Cx) (H' : Hp) : Prop where
 I : ∀ b, c.I b → c'.I b
 heap : ∀ b, c.I b ∨ c.B b → c'.w.heap[b]? = c.w.heap[b]?
 ρ : ∀ l cl, l < n → c.ρ l = some cl → c'.ρ l = some cl
 size : c.w.heap.size ≤ c'.w.heap.size
 frame : ∀ b, b < c.w.heap.size → ¬ Owned c H b → c'.w.heap[b]? = c.w.heap[b]?
 inew : ∀ b, c'.I b → c.I b ∨ c.w.heap.size ≤ b ∨ Owned c H b
 beq : ∀ b, c'.B b ↔ c.B b
 own : ∀ l cl, c'.ρ l = some cl → c.ρ l = some cl ∨ c.w.heap.size ≤ cl.blk ∨ Owned c H cl.blk
 os : c'.w.os = c.w.os
 tape : c'.w.tape = c.w.tape
 output : c'.w.output = c.w.output
 sim : Sim c' H'
 len : n ≤ H'.length
 liv : ∀ l, l < n → live H' l → live H l
 back : ∀ b, b < c.w.heap.size → Owned c' H' b → Owned c H b
theorem Fo.of_to {n : Nat} {c c' : Cx} {H H' : Hp} (s : Sim c H) (hn : n ≤ H.length) (t : To c H c' H') : Fo n c H c' H' :=
 ⟨t.ext.mono.I, t.ext.mono.heap, fun l cl _ h => t.ext.mono.ρ l cl h, t.ext.size, t.ext.frame, t.ext.inew, t.ext.beq, t.ext.own, t.ext.os, t.ext.tape, t.ext.output, t.sim, Nat.le_trans hn t.len,
  fun l hl h => t.liv l (Nat.lt_of_lt_of_le hl hn) h, fun b hb h => Owned.back s t hb h⟩
theorem Fo.trans {n : Nat} {a b c : Cx} {H1 H2 H3 : Hp} (h : Fo n a H1 b H2) (k : Fo n b H2 c H3) : Fo n a H1 c H3 where
 I x hx := k.I x (h.I x hx)
 heap x hx := (k.heap x (hx.imp (h.I x) (fun hb => (h.beq x).2 hb))).trans (h.heap x hx)
 ρ l cl hl hc := k.ρ l cl hl (h.ρ l cl hl hc)
 size := Nat.le_trans h.size k.size
 frame x hx hn := by rw [k.frame x (Nat.lt_of_lt_of_le hx h.size) (fun ho => hn (h.back x hx ho)), h.frame x hx hn]
 inew x hx := by
  rcases k.inew x hx with h1 | h1 | h1
  · exact h.inew x h1
  · exact .inr (.inl (Nat.le_trans h.size h1))
  by_cases hlt : x < a.w.heap.size
  · exact .inr (.inr (h.back x hlt h1))
  exact .inr (.inl (by omega))
 beq x := (k.beq x).trans (h.beq x)
 own l cl hl := by
  rcases k.own l cl hl with h1 | h1 | h1
  · exact h.own l cl h1
  · exact .inr (.inl (Nat.le_trans h.size h1))
  by_cases hlt : cl.blk < a.w.heap.size
  · exact .inr (.inr (h.back _ hlt h1))
  exact .inr (.inl (by omega))
 os := k.os.trans h.os
 tape := k.tape.trans h.tape
 output := k.output.trans h.output
 sim := k.sim
 len := k.len
 liv l hl hv := h.liv l hl (k.liv l hl hv)
 back x hx ho := h.back x hx (k.back x (Nat.lt_of_lt_of_le hx h.size) ho)
theorem Fo.to {c c' : Cx} {H H' : Hp} (s : Sim c H) (h : Fo H.length c H c' H') : To c H c' H' :=
 ⟨⟨⟨h.I, fun b hb => (h.beq b).2 hb, fun l cl hc => h.ρ l cl (by
  by_cases hl : l < H.length
  · exact hl
  rw [s.fresh l (by omega)] at hc; cases hc) hc, h.heap⟩, h.size, h.frame, h.inew, h.beq, h.own, h.os, h.tape, h.output⟩, h.sim, h.len, h.liv⟩
def leafB (n : Nat) : AV → Prop
 | .ptr l _ _ | .row _ l _ _ | .sub l _ _ _ _ | .mapr l => l < n
 | .agg _ | .tup _ | .iface _ _ => False
 | .clo _ cs => cs = []
 | _ => True
def cellsB (n : Nat) : List AV → Prop
 | [] => True
 | x :: r => leafB n x ∧ cellsB n r
def valB (n : Nat) : AV → Prop
 | .agg cs | .clo _ cs => cellsB n cs
 | .tup vs => tupB n vs
 | x => leafB n x
where
 tupB (n : Nat) : List AV → Prop
 | [] => True
 | .agg cs :: r => cellsB n cs ∧ tupB n r
 | x :: r => leafB n x ∧ tupB n r
def envB (n : Nat) : List AV → Prop
 | [] => True
 | x :: r => valB n x ∧ envB n r
def rowsB (n : Nat) : List (List AV) → Prop
 | [] => True
 | r :: s => cellsB n r ∧ rowsB n s
def objB (n : Nat) : VO → Prop
 | .arr _ _ rows => rowsB n rows
 | .one _ cs => cellsB n cs
 | .map es => ∀ e ∈ es, leafB n e.2
 | .iter m _ _ => m < n
 | _ => True
def heapB (n : Nat) : Hp → Prop
 | [] => True
 | o :: r => objB n o ∧ heapB n r
theorem cellsB_mem {n : Nat} : ∀ {cs : List AV}, cellsB n cs → ∀ x ∈ cs, leafB n x
 | [], _, x, hx => by cases hx
 | y :: r, h, x, hx => by
   rcases List.mem_cons.1 hx with rfl | hx
   · exact h.1
   exact cellsB_mem h.2 x hx
theorem envB_mem {n : Nat} : ∀ {cs : List AV}, envB n cs → ∀ x ∈ cs, valB n x
 | [], _, x, hx => by cases hx
 | y :: r, h, x, hx => by
   rcases List.mem_cons.1 hx with rfl | hx
   · exact h.1
   exact envB_mem h.2 x hx
theorem rowsB_mem {n : Nat} : ∀ {cs : List (List AV)}, rowsB n cs → ∀ x ∈ cs, cellsB n x
 | [], _, x, hx => by cases hx
 | y :: r, h, x, hx => by
   rcases List.mem_cons.1 hx with rfl | hx
   · exact h.1
   exact rowsB_mem h.2 x hx
theorem heapB_mem {n : Nat} : ∀ {H : Hp}, heapB n H → ∀ x ∈ H, objB n x
 | [], _, x, hx => by cases hx
 | y :: r, h, x, hx => by
   rcases List.mem_cons.1 hx with rfl | hx
   · exact h.1
   exact heapB_mem h.2 x hx
def cutCx (n : Nat) (c : Cx) : Cx := { c with ρ := fun l => if l < n then c.ρ l else none }
theorem cutI (n : Nat) (c : Cx) : MonoI c (cutCx n c) := ⟨fun _ h => h, fun _ _ => rfl⟩
theorem cut_ρ {n : Nat} {c : Cx} {l : Nat} {cl : CL} (hl : l < n) (h : c.ρ l = some cl) : (cutCx n c).ρ l = some cl := by simp [cutCx, hl, h]
theorem Rel.lentSame {c c' : Cx} (hI : ∀ b, c.I b → c'.I b) (hB : ∀ b, c.B b → c'.B b) (hw : c'.w = c.w) {x : AV} {X : Value} (h : Rel c x X) (hx : x.isLent = true) : Rel c' x X := by
 have m : MonoI c c' := ⟨hI, fun _ _ => by rw [hw]⟩
 cases h with
 | iptr bo cs b o F hb hv h1 h2 =>
   refine .iptr bo cs b o F (hb.imp id fun h => ?_) hv (fun j hj => by rw [hw]; exact h1 j hj) (fun j x hx => (h2 j x hx).val m (hv x (List.mem_of_getElem? hx)))
   cases bo
   · exact hI b h
   exact hB b h
 | list t rows b o sz cap sp hsp F hb hc ht hsz hv h1 h2 =>
   refine .list t rows b o sz cap sp hsp F (hb.imp id fun h => ?_) hc ht hsz hv (fun i j hi hj => by rw [hw]; exact h1 i j hi hj) (fun i r j x hr hx => (h2 i r j x hr hx).val m ?_)
   · cases t <;> first | exact hI b h | exact hB b h
   exact List.all_eq_true.1 (List.all_eq_true.1 hv r (List.mem_of_getElem? hr)) x (List.mem_of_getElem? hx)
 | int k n => exact .int k n
 | bool b => exact .bool b
 | str s => exact .str s
 | nilp => exact .nilp
 | nils => exact .nils
 | nilf => exact .nilf
 | nilm => exact .nilm
 | nili => exact .nili
 | clo f cs Vs hl h2 =>
   cases cs with
   | nil => exact .clo f [] Vs hl (fun j x V hx => by cases hx)
   | cons a r => cases hx
 | undef V => cases hx
 | ptr l i k cl h => cases hx
 | row t l i n cl o cap h ho hn ht hl => cases hx
 | sub l i k es n cl o cap h ho hn => cases hx
 | agg cs Vs hl h1 h2 => cases hx
 | tup cs Vs hl h2 => cases hx
 | mapr l cl h => cases hx
 | iface t v V h => cases hx
theorem Rel.cutL {n : Nat} {c : Cx} {x : AV} {X : Value} (h : Rel c x X) (hx : leafB n x) : Rel (cutCx n c) x X := by
 have key : x.isLent = true → Rel (cutCx n c) x X := fun hx => Rel.lentSame (c := c) (c' := cutCx n c) (fun _ h => h) (fun _ h => h) rfl h hx
 cases h with
 | ptr l i k cl h => exact .ptr l i k cl (cut_ρ hx h)
 | row t l i n cl o cap h ho hn ht hl => exact .row t l i n cl o cap (cut_ρ hx h) ho hn ht hl
 | sub l i k es n cl o cap h ho hn => exact .sub l i k es n cl o cap (cut_ρ hx h) ho hn
 | mapr l cl h => exact .mapr l cl (cut_ρ hx h)
 | undef V => exact .undef _
 | agg cs Vs hl h1 h2 => exact hx.elim
 | tup cs Vs hl h2 => exact hx.elim
 | iface t v V h => exact hx.elim
 | clo f cs Vs hl h2 =>
   have : cs = [] := hx
   subst this
   exact .clo f [] Vs hl (fun j x V hx => by cases hx)
 | _ => exact key rfl
theorem tupB_get {n : Nat} : ∀ {vs : List AV}, valB.tupB n vs → ∀ x ∈ vs, leafB n x ∨ ∃ cs, x = .agg cs ∧ cellsB n cs
 | [], _, x, hx => by cases hx
 | y :: r, h, x, hx => by
   cases y with
   | agg cs =>
     rcases List.mem_cons.1 hx with rfl | hx
     · exact .inr ⟨cs, rfl, h.1⟩
     exact tupB_get h.2 x hx
   | _ =>
     rcases List.mem_cons.1 hx with rfl | hx
     · exact .inl h.1
     exact tupB_get h.2 x hx
theorem Rel.cutA {n : Nat} {c : Cx} {cs : List AV} {X : Value} (h : Rel c (.agg cs) X) (hx : cellsB n cs) : Rel (cutCx n c) (.agg cs) X := by
 cases h with
 | agg cs Vs hl h1 h2 => exact .agg cs Vs hl h1 (fun j x V hj hV => (h2 j x V hj hV).cutL (cellsB_mem hx x (List.mem_of_getElem? hj)))
theorem Rel.cut {n : Nat} {c : Cx} {x : AV} {X : Value} (h : Rel c x X) (hx : valB n x) : Rel (cutCx n c) x X := by
 cases x with
 | agg cs => exact h.cutA hx
 | clo f cs =>
   cases h with
   | clo f cs Vs hl h2 => exact .clo f cs Vs hl (fun j x V hj hV => (h2 j x V hj hV).cutL (cellsB_mem hx x (List.mem_of_getElem? hj)))
 | tup vs =>
   cases h with
   | tup cs Vs hl h2 =>
     refine .tup vs Vs hl (fun j x V hj hV => ?_)
     rcases tupB_get hx x (List.mem_of_getElem? hj) with h3 | ⟨cs, rfl, h3⟩
     · exact (h2 j x V hj hV).cutL h3
     exact (h2 j _ V hj hV).cutA h3
 | _ => exact h.cutL hx
theorem RowsAt.cut {n : Nat} {c : Cx} {cells : Array Value} {base sz : Nat} {rows : List (List AV)} (h : RowsAt c cells base sz rows) (hr : rowsB n rows) : RowsAt (cutCx n c) cells base sz rows :=
 fun i r hi => ⟨(h i r hi).1, fun j x hx => let ⟨V, h1, h2, h3⟩ := (h i r hi).2 j x hx; ⟨V, h1, h2, h3.cutL (cellsB_mem (rowsB_mem hr r (List.mem_of_getElem? hi)) x (List.mem_of_getElem? hx))⟩⟩
theorem ObjAt.cut {n : Nat} {c : Cx} {l : Nat} {o : VO} (h : ObjAt c l o) (hl : l < n) (ho : objB n o) : ObjAt (cutCx n c) l o := by
 cases o with
 | arr T sz rows =>
   obtain ⟨cl, cells, h1, h2, h3, h4, h5, h6, h7⟩ := h
   exact ⟨cl, cells, cut_ρ hl h1, h2, h3, h4, h5, h6, h7.cut ho⟩
 | frz sz rows =>
   obtain ⟨h0, cl, cells, T, fr, h1, h2, h3, h4, h5, h6⟩ := h
   refine ⟨h0, cl, cells, T, fr, cut_ρ hl h1, h2, h3, h4, h5, fun i r hi => ⟨(h6 i r hi).1, fun j x hx => ?_⟩⟩
   obtain ⟨V, v1, v2, v3⟩ := (h6 i r hi).2 j x hx
   exact ⟨V, v1, v2, v3.val (cutI n c) (List.all_eq_true.1 (List.all_eq_true.1 h0 r (List.mem_of_getElem? hi)) x (List.mem_of_getElem? hx))⟩
 | one T cs =>
   obtain ⟨cl, cells, h1, h2, h3, h4, h5, h6, h7, h8, h9⟩ := h
   exact ⟨cl, cells, cut_ρ hl h1, h2, h3, h4, h5, h6, h7.cut ⟨ho, trivial⟩, h8, h9⟩
 | map es =>
   obtain ⟨cl, ms, h1, h2, h3, h4, h5, h6⟩ := h
   exact ⟨cl, ms, cut_ρ hl h1, h2, h3, h4, h5, fun j e he => let ⟨V, a, b⟩ := h6 j e he; ⟨V, a, b.cutL (ho e (List.mem_of_getElem? he))⟩⟩
 | iter m k seen =>
   obtain ⟨cl, cm, h1, h2, h3, h4, h5, h6⟩ := h
   exact ⟨cl, cm, cut_ρ hl h1, h2, cut_ρ ho h3, h4, h5, h6⟩
 | dead => trivial
theorem live_app {H g : Hp} {l : Nat} (h : live H l) : live (H ++ g) l := by
 obtain ⟨o, h1, h2⟩ := h
 exact ⟨o, by rw [List.getElem?_append_left (List.getElem?_eq_some_iff.1 h1).1]; exact h1, h2⟩
theorem Sim.cut {c : Cx} {H g : Hp} (s : Sim c (H ++ g)) (hB : heapB H.length H) : Sim (cutCx H.length c) H := by
 refine ⟨s.bound, s.boundB, fun l o h => ?_, fun l l' cl cl' h1 h2 e1 e2 e => ?_, fun l hl => by simp [cutCx]; omega⟩
 · have hl := (List.getElem?_eq_some_iff.1 h).1
   exact (s.obj l o (by rw [List.getElem?_append_left hl]; exact h)).cut hl (heapB_mem hB o (List.mem_of_getElem? h))
 obtain ⟨o, ho, _⟩ := h1
 obtain ⟨o', ho', _⟩ := h2
 have hl := (List.getElem?_eq_some_iff.1 ho).1
 have hl' := (List.getElem?_eq_some_iff.1 ho').1
 simp only [cutCx, hl, hl', if_true] at e1 e2
 exact s.inj l l' cl cl' (live_app ⟨o, ho, by assumption⟩) (live_app ⟨o', ho', by assumption⟩) e1 e2 e
theorem Fo.cut {n : Nat} {c : Cx} {H g : Hp} (s : Sim c (H ++ g)) (hn : n ≤ H.length) (hB : heapB H.length H) : Fo n c (H ++ g) (cutCx H.length c) H where
 I _ h := h
 heap _ _ := rfl
 ρ l cl hl h := cut_ρ (Nat.lt_of_lt_of_le hl hn) h
 size := Nat.le_refl _
 frame _ _ _ := rfl
 inew _ h := .inl h
 beq _ := Iff.rfl
 own l cl h := .inl (by simp only [cutCx] at h; split at h <;> first | exact h | cases h)
 os := rfl
 tape := rfl
 output := rfl
 sim := s.cut hB
 len := hn
 liv l _ h := live_app h
 back b _ h := by
  obtain ⟨l, cl, h1, h2, h3⟩ := h
  refine ⟨l, cl, live_app h1, ?_, h3⟩
  simp only [cutCx] at h2
  split at h2 <;> first | exact h2 | cases h2
theorem EnvR.cut {n : Nat} {c : Cx} {env : List AV} {tmps : Array Value} (h : EnvR c env tmps) (hB : envB n env) : EnvR (cutCx n c) env tmps :=
 ⟨h.1, fun t x V hx hV => (h.2 t x V hx hV).cut (envB_mem hB x (List.mem_of_getElem? hx))⟩
theorem GOK.cut {n : Nat} {c : Cx} {G : Glob} (h : GOK c G) : GOK (cutCx n c) G := fun g cs hg => (h g cs hg).val (cutI n c) rfl
def ren0 (σ : List Nat) : AV → Option AV
 | .ptr l i k => (σ[l]?).map (.ptr · i k)
 | .row t l i n => (σ[l]?).map (.row t · i n)
 | .sub l i k es n => (σ[l]?).map (.sub · i k es n)
 | .mapr l => (σ[l]?).map .mapr
 | .agg _ | .tup _ | .iface _ _ => none
 | .clo f cs => if cs = [] then some (.clo f []) else none
 | x => some x
def ren1 (σ : List Nat) : AV → Option AV
 | .agg cs => (mapL (ren0 σ) cs).map .agg
 | .clo f cs => (mapL (ren0 σ) cs).map (.clo f)
 | x => ren0 σ x
def renO (σ : List Nat) : VO → Option VO
 | .arr T sz rows => (mapL (mapL (ren0 σ)) rows).map (.arr T sz)
 | .one T cs => (mapL (ren0 σ) cs).map (.one T)
 | .dead => some .dead
 | _ => none
def RenE (σ : List Nat) : List AV → List AV → Prop
 | [], [] => True
 | y :: r, x :: s => (y = .undef ∨ ren1 σ y = some x) ∧ RenE σ r s
 | _, _ => False
def RenH (σ : List Nat) (H2 : Hp) : List Nat → Hp → Prop
 | [], [] => True
 | l :: s, o :: r => (o = .dead ∨ ∃ o', H2[l]? = some o' ∧ renO σ o = some o') ∧ RenH σ H2 s r
 | _, _ => False
theorem RenH.get {σ : List Nat} {H2 : Hp} : ∀ {s : List Nat} {H : Hp}, RenH σ H2 s H → s.length = H.length ∧ ∀ (j : Nat) (o : VO), H[j]? = some o → ∃ l, s[j]? = some l ∧ (o = .dead ∨ ∃ o', H2[l]? = some o' ∧ renO σ o = some o')
 | [], [], _ => ⟨rfl, fun j o h => by cases h⟩
 | l :: s, o :: r, h => by
   obtain ⟨h2, h3⟩ := h
   obtain ⟨i1, i2⟩ := h3.get
   refine ⟨by simp [i1], fun j o2 ho => ?_⟩
   cases j with
   | zero => simp at ho; subst ho; exact ⟨l, rfl, h2⟩
   | succ j => simpa using i2 j o2 (by simpa using ho)
 | [], _ :: _, h => h.elim
 | _ :: _, [], h => h.elim
theorem RenE.get {σ : List Nat} : ∀ {e e2 : List AV}, RenE σ e e2 → e.length = e2.length ∧ ∀ (t : Nat) (y : AV), e[t]? = some y → y = .undef ∨ ∃ x, e2[t]? = some x ∧ ren1 σ y = some x
 | [], [], _ => ⟨rfl, fun t y h => by cases h⟩
 | x :: r, y :: s, ⟨h1, h2⟩ => by
   obtain ⟨i1, i2⟩ := h2.get
   refine ⟨by simp [i1], fun t z hz => ?_⟩
   cases t with
   | zero =>
     simp at hz
     subst hz
     rcases h1 with h1 | h1
     · exact .inl h1
     exact .inr ⟨y, rfl, h1⟩
   | succ t => simpa using i2 t z (by simpa using hz)
 | [], _ :: _, h => h.elim
 | _ :: _, [], h => h.elim
noncomputable def renCx (n : Nat) (σ : List Nat) (H : Hp) (c : Cx) : Cx :=
 open Classical in { c with ρ := fun l => if l < n ∨ live H l then (σ[l]?).bind c.ρ else none }
section
variable {n : Nat} {σ : List Nat} {H H2 : Hp} {c : Cx}
theorem ren_I : MonoI c (renCx n σ H c) := ⟨fun _ h => h, fun _ _ => rfl⟩
def Named (n : Nat) (H : Hp) (l : Nat) : Prop := l < n ∨ live H l
theorem ren_ρ {l l' : Nat} {cl : CL} (hl : Named n H l) (hσ : σ[l]? = some l') (h : c.ρ l' = some cl) : (renCx n σ H c).ρ l = some cl := by
 unfold Named at hl
 simp only [renCx]
 rw [if_pos hl, hσ]
 exact h
theorem map_eq_some' {α β : Type} {o : Option α} {f : α → β} {y : β} (h : o.map f = some y) : ∃ a, o = some a ∧ f a = y := by
 cases o with
 | none => cases h
 | some a => exact ⟨a, rfl, by simpa using h⟩
def leafN (n : Nat) (H : Hp) : AV → Prop
 | .ptr l _ _ | .row _ l _ _ | .sub l _ _ _ _ | .mapr l => Named n H l
 | _ => True
theorem Rel.ren0 {y x : AV} {X : Value} (h : Rel c x X) (hr : ren0 σ y = some x) (hN : leafN n H y) : Rel (renCx n σ H c) y X := by
 have key : x.isLent = true → Rel (renCx n σ H c) x X := fun hx => Rel.lentSame (c := c) (c' := renCx n σ H c) (fun _ h => h) (fun _ h => h) rfl h hx
 cases y with
 | ptr l i k =>
   obtain ⟨l', h1, h2⟩ := map_eq_some' hr
   subst h2
   cases h with
   | ptr _ _ _ cl h => exact .ptr l i k cl (ren_ρ hN h1 h)
 | row t l i m =>
   obtain ⟨l', h1, h2⟩ := map_eq_some' hr
   subst h2
   cases h with
   | row _ _ _ _ cl o cap h ho hn ht hl => exact .row t l i m cl o cap (ren_ρ hN h1 h) ho hn ht hl
 | sub l i k es m =>
   obtain ⟨l', h1, h2⟩ := map_eq_some' hr
   subst h2
   cases h with
   | sub _ _ _ _ _ cl o cap h ho hn => exact .sub l i k es m cl o cap (ren_ρ hN h1 h) ho hn
 | mapr l =>
   obtain ⟨l', h1, h2⟩ := map_eq_some' hr
   subst h2
   cases h with
   | mapr _ cl h => exact .mapr l cl (ren_ρ hN h1 h)
 | agg cs => cases hr
 | tup cs => cases hr
 | iface t v => cases hr
 | undef => exact .undef _
 | clo f cs =>
   simp only [Go.Vi.ren0] at hr
   split at hr
   · rename_i e; subst e; cases hr; exact key rfl
   cases hr
 | _ => cases hr; exact key rfl
def cellsN (n : Nat) (H : Hp) (cs : List AV) : Prop := ∀ x ∈ cs, leafN n H x
def valN (n : Nat) (H : Hp) : AV → Prop
 | .agg cs | .clo _ cs => cellsN n H cs
 | x => leafN n H x
def objN (n : Nat) (H : Hp) : VO → Prop
 | .arr _ _ rows => ∀ r ∈ rows, cellsN n H r
 | .one _ cs => cellsN n H cs
 | _ => True
theorem RowsAt.ren {cells : Array Value} {base sz : Nat} {rows rows' : List (List AV)} (h : RowsAt c cells base sz rows') (hr : mapL (mapL (Go.Vi.ren0 σ)) rows = some rows') (hN : ∀ r ∈ rows, cellsN n H r) : RowsAt (renCx n σ H c) cells base sz rows := by
 intro i r hi
 obtain ⟨l1, l2⟩ := mapL_get hr
 have hlt : i < rows'.length := by rw [l1]; exact (List.getElem?_eq_some_iff.1 hi).1
 obtain ⟨r0, hr0, hm⟩ := l2 i _ (List.getElem?_eq_getElem hlt)
 rw [hi] at hr0
 cases hr0
 obtain ⟨m1, m2⟩ := mapL_get hm
 obtain ⟨g1, g2⟩ := h i _ (List.getElem?_eq_getElem hlt)
 refine ⟨by rw [← m1]; exact g1, fun j x hx => ?_⟩
 have hj : j < (rows'[i]).length := by rw [m1]; exact (List.getElem?_eq_some_iff.1 hx).1
 obtain ⟨x0, hx0, hrx⟩ := m2 j _ (List.getElem?_eq_getElem hj)
 rw [hx] at hx0
 cases hx0
 obtain ⟨V, v1, v2, v3⟩ := g2 j _ (List.getElem?_eq_getElem hj)
 exact ⟨V, v1, v2, v3.ren0 hrx (hN r (List.mem_of_getElem? hi) x (List.mem_of_getElem? hx))⟩
theorem objAt_ren {l l' : Nat} {o o' : VO} (h : ObjAt c l' o') (hσ : σ[l]? = some l') (hl : Named n H l) (hr : renO σ o = some o') (hN : objN n H o) : ObjAt (renCx n σ H c) l o := by
 cases o with
 | arr T sz rows =>
   obtain ⟨rows', h1, h2⟩ := map_eq_some' hr
   subst h2
   obtain ⟨cl, cells, h1', h2, h3, h4, h5, h6, h7⟩ := h
   exact ⟨cl, cells, ren_ρ hl hσ h1', h2, h3, h4, h5, h6, h7.ren h1 hN⟩
 | one T cs =>
   obtain ⟨cs', h1, h2⟩ := map_eq_some' hr
   subst h2
   obtain ⟨cl, cells, h1', h2, h3, h4, h5, h6, h7, h8, h9⟩ := h
   have hlen := (mapL_get h1).1
   refine ⟨cl, cells, ren_ρ hl hσ h1', by rw [← hlen]; exact h2, h3, h4, h5, h6, ?_, h8, by rw [← hlen]; exact h9⟩
   rw [← hlen]
   exact h7.ren (rows := [cs]) (by simp [mapL, h1]) (fun r hr => by simp at hr; subst hr; exact hN)
 | dead => trivial
 | frz sz rows => cases hr
 | map es => cases hr
 | iter m k seen => cases hr
theorem ren_live {o o' : VO} (h : renO σ o = some o') (hl : o.live = true) : o'.live = true := by
 cases o with
 | arr T sz rows => obtain ⟨rows', h1, h2⟩ := map_eq_some' h; subst h2; rfl
 | one T cs => obtain ⟨rows', h1, h2⟩ := map_eq_some' h; subst h2; rfl
 | dead => cases hl
 | frz sz rows => cases h
 | map es => cases h
 | iter m k seen => cases h
structure Renames (n : Nat) (σ : List Nat) (H H2 : Hp) : Prop where
 nd : σ.Nodup
 low : ∀ l, l < n → σ[l]? = some l
 obj : RenH σ H2 σ H
 named : ∀ o ∈ H, objN n H o
 len : n ≤ H.length
theorem Renames.live (r : Renames n σ H H2) {l : Nat} (h : live H l) : ∃ l', σ[l]? = some l' ∧ Vi.live H2 l' := by
 obtain ⟨o, ho, hv⟩ := h
 obtain ⟨l', h1, h3⟩ := r.obj.get.2 l o ho
 rcases h3 with rfl | ⟨o', h2, h3⟩
 · cases hv
 exact ⟨l', h1, o', h2, ren_live h3 hv⟩
theorem Renames.sim (r : Renames n σ H H2) (s : Sim c H2) : Sim (renCx n σ H c) H := by
 refine ⟨s.bound, s.boundB, fun l o h => ?_, fun l l' cl cl' h1 h2 e1 e2 e => ?_, fun l hl => ?_⟩
 · obtain ⟨l', h1, h3⟩ := r.obj.get.2 l o h
   by_cases hd : o = .dead
   · subst hd; trivial
   obtain ⟨o', h2, h3⟩ := h3.resolve_left hd
   have hlv : o.live = true := by cases o <;> first | rfl | exact absurd rfl hd | cases h3
   exact objAt_ren (s.obj l' o' h2) h1 (.inr ⟨o, h, hlv⟩) h3 (r.named o (List.mem_of_getElem? h))
 · obtain ⟨k, hk, hvk⟩ := r.live h1
   obtain ⟨k', hk', hvk'⟩ := r.live h2
   simp only [renCx] at e1 e2
   rw [if_pos (.inr h1), hk] at e1
   rw [if_pos (.inr h2), hk'] at e2
   have := s.inj k k' cl cl' hvk hvk' e1 e2 e
   subst this
   have ha := (List.getElem?_eq_some_iff.1 hk)
   have hb := (List.getElem?_eq_some_iff.1 hk')
   obtain ⟨ha1, ha2⟩ := ha
   obtain ⟨hb1, hb2⟩ := hb
   exact (List.getElem_inj r.nd).1 (ha2.trans hb2.symm)
 simp only [renCx]
 have : σ[l]? = none := List.getElem?_eq_none (by rw [r.obj.get.1]; exact hl)
 rw [this]
 split <;> rfl
theorem Fo.ren (r : Renames n σ H H2) (s : Sim c H2) : Fo n c H2 (renCx n σ H c) H where
 I _ h := h
 heap _ _ := rfl
 ρ l cl hl h := ren_ρ (.inl hl) (r.low l hl) h
 size := Nat.le_refl _
 frame _ _ _ := rfl
 inew _ h := .inl h
 beq _ := Iff.rfl
 own l cl h := by
  simp only [renCx] at h
  split at h
  · rename_i hN
    rcases hN with hl | hv
    · rw [r.low l hl] at h; exact .inl h
    obtain ⟨l', h1, h2⟩ := r.live hv
    rw [h1] at h
    exact .inr (.inr ⟨l', cl, h2, h, rfl⟩)
  cases h
 os := rfl
 tape := rfl
 output := rfl
 sim := r.sim s
 len := r.len
 liv l hl h := by
  obtain ⟨l', h1, h2⟩ := r.live h
  rw [r.low l hl] at h1
  cases h1
  exact h2
 back b _ h := by
  obtain ⟨l, cl, h1, h2, h3⟩ := h
  obtain ⟨l', h4, h5⟩ := r.live h1
  simp only [renCx] at h2
  rw [if_pos (.inr h1), h4] at h2
  exact ⟨l', cl, h5, h2, h3⟩
theorem Rel.ren1 {y x : AV} {X : Value} (h : Rel c x X) (hr : Go.Vi.ren1 σ y = some x) (hN : valN n H y) : Rel (renCx n σ H c) y X := by
 cases y with
 | agg cs =>
   obtain ⟨cs', h1, h2⟩ := map_eq_some' hr
   subst h2
   obtain ⟨m1, m2⟩ := mapL_get h1
   cases h with
   | agg _ Vs hl g1 g2 =>
     refine .agg cs Vs (by omega) g1 (fun j y V hy hV => ?_)
     have hj : j < cs'.length := by rw [m1]; exact (List.getElem?_eq_some_iff.1 hy).1
     obtain ⟨y0, hy0, hr0⟩ := m2 j _ (List.getElem?_eq_getElem hj)
     rw [hy] at hy0
     cases hy0
     exact (g2 j _ V (List.getElem?_eq_getElem hj) hV).ren0 hr0 (hN y (List.mem_of_getElem? hy))
 | clo f cs =>
   obtain ⟨cs', h1, h2⟩ := map_eq_some' hr
   subst h2
   obtain ⟨m1, m2⟩ := mapL_get h1
   cases h with
   | clo _ _ Vs hl g2 =>
     refine .clo f cs Vs (by omega) (fun j y V hy hV => ?_)
     have hj : j < cs'.length := by rw [m1]; exact (List.getElem?_eq_some_iff.1 hy).1
     obtain ⟨y0, hy0, hr0⟩ := m2 j _ (List.getElem?_eq_getElem hj)
     rw [hy] at hy0
     cases hy0
     exact (g2 j _ V (List.getElem?_eq_getElem hj) hV).ren0 hr0 (hN y (List.mem_of_getElem? hy))
 | _ => exact h.ren0 hr hN
theorem EnvR.ren {env env2 : List AV} {tmps : Array Value} (h : EnvR c env2 tmps) (he : RenE σ env env2) (hN : ∀ y ∈ env, valN n H y) : EnvR (renCx n σ H c) env tmps := by
 obtain ⟨e1, e2⟩ := he.get
 refine ⟨e1.trans h.1, fun t y V hy hV => ?_⟩
 rcases e2 t y hy with rfl | ⟨x, hx, hr⟩
 · exact .undef V
 exact (h.2 t x V hx hV).ren1 hr (hN y (List.mem_of_getElem? hy))
theorem GOK.ren {G : Glob} (h : GOK c G) : GOK (renCx n σ H c) G := fun g cs hg => (h g cs hg).val ren_I rfl
end
def Post (n : Nat) (c : Cx) (H : Hp) (Q : Exit → List AV → Hp → Prop) : Exit → Act → World → Prop :=
 fun e a' w' => ∃ env' H' c', w' = c'.w ∧ Fo n c H c' H' ∧ EnvR c' env' a'.tmps ∧ a'.defers = [] ∧ Q e env' H'
theorem Post.transF {n : Nat} {c c1 : Cx} {H H1 : Hp} (t : Fo n c H c1 H1) {Q : Exit → List AV → Hp → Prop} {e : Exit} {a : Act} {w : World} (h : Post n c1 H1 Q e a w) : Post n c H Q e a w := by
 obtain ⟨env', H', c', h1, h2, h3⟩ := h
 exact ⟨env', H', c', h1, t.trans h2, h3⟩
theorem Post.trans {n : Nat} {c c1 : Cx} {H H1 : Hp} (s : Sim c H) (hn : n ≤ H.length) (t : To c H c1 H1) {Q : Exit → List AV → Hp → Prop} {e : Exit} {a : Act} {w : World} (h : Post n c1 H1 Q e a w) : Post n c H Q e a w :=
 h.transF (Fo.of_to s hn t)
theorem GOK.fo {n : Nat} {c c' : Cx} {H H' : Hp} {G : Glob} (h : GOK c G) (t : Fo n c H c' H') : GOK c' G := fun g cs hg => (h g cs hg).val ⟨t.I, fun b hb => t.heap b (.inl hb)⟩ rfl
theorem wpOps_mono {P : Program} {ops : Array Oper} {Q Q' : Exit → Act → World → Prop} (hq : ∀ e a w, Q e a w → Q' e a w) : ∀ (l : List Nat) (a : Act) (w : World), wpOps P ops Q l a w → wpOps P ops Q' l a w
 | [], a, w, h => hq _ _ _ h
 | i :: r, a, w, h => by
   have ih := wpOps_mono (P := P) (ops := ops) hq r
   have lo : LetsOut Q → LetsOut Q' := fun ⟨a, w, h⟩ => ⟨a, w, hq _ _ _ h⟩
   simp only [wpOps] at h ⊢
   cases ho : ops[i]? with
   | none => rw [ho] at h; exact ih _ _ h
   | some o =>
     rw [ho] at h
     simp only at h ⊢
     by_cases hw : Region.wanted o (yielded ops a.tmps) = true
     · rw [if_pos hw] at h ⊢
       rcases h with h | ⟨h1, h2⟩
       · refine .inl ?_
         unfold Oper.wp at h ⊢
         generalize (execOp a.eval o).run P w = res at h ⊢
         cases res with
         | ok x w' =>
           cases x <;> first
            | exact ih _ _ h
            | (refine Calls.mono h ?_
               intro e w'' he
               cases e with
               | returned v => exact ih _ _ he
               | panicked ch => exact hq _ _ _ he
               | outgrown => exact lo he)
            | exact Rows.mono h (fun v w'' hv => ih _ _ hv)
            | exact h.elim
         | halt x w' =>
           cases x <;> first
            | exact hq _ _ _ h
            | exact h.elim
       exact .inr ⟨h1, lo h2⟩
     rw [if_neg hw] at h ⊢
     exact ih _ _ h
theorem vseq_sound {n : Nat} {P : Program} {md : Oper → Md} {G : Glob} {ops : Array Oper} {Q : Exit → List AV → Hp → Prop} : ∀ (l : List Nat) (env : List AV) (H : Hp), vseq (XS P G) P md G ops l env H (Q .normal) →
 ∀ (c : Cx) (a : Act), Sim c H → n ≤ H.length → GOK c G → EnvR c env a.tmps → a.defers = [] → wpOps P ops (Post n c H Q) l a c.w
 | [], env, H, h, c, a, s, hn, hg, he, hd => by
   obtain ⟨e1, hw, h⟩ := h
   exact ⟨e1, H, c, rfl, Fo.of_to s hn (To.refl s), he.wk hw, hd, h⟩
 | i :: r, env0, H, h, c, a, s, hn, hg, he, hd => by
   simp only [vseq] at h
   obtain ⟨env, hw, h⟩ := h
   replace he := he.wk hw
   simp only [wpOps]
   cases ho : ops[i]? with
   | none => rw [ho] at h; exact h.elim
   | some o =>
     rw [ho] at h
     simp only at h ⊢
     cases hw : wantedV o.guard ops env with
     | none => rw [hw] at h; exact h.elim
     | some b =>
       rw [hw] at h
       have hwm := wanted_sound he hw
       cases b with
       | true =>
         simp only [hwm, if_true]
         refine .inl (vop_sound h s hg he fun v H' c' V t hR hk => ?_)
         have := vseq_sound r _ H' hk c' (a.put o.dst V) t.sim (Nat.le_trans hn t.len) (hg.mono t.ext.mono) ((EnvR.mono t.ext.mono he).put hR o.dst) ((put_defers a o.dst V).trans hd)
         exact wpOps_mono (fun e a w hp => hp.trans s hn t) r _ _ this
       | false =>
         simp only [hwm, Bool.false_eq_true, if_false]
         exact vseq_sound r _ H h c _ s hn hg (he.put (undef_rel c) o.dst) ((put_defers a o.dst _).trans hd)
end Go.Vi
