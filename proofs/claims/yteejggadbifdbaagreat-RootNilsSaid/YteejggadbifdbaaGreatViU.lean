/- Vi, part U: what a call is handed, read as data, as abstract values. -/
import Derived.Test.YteejggadbifdbaaGreatViT
import GoSem.ClaimChange
import Derived.ProofKit
section
set_option autoImplicit false
set_option linter.unusedVariables false
set_option linter.unusedSimpArgs false
namespace Go.Vi

/-- Everything that is there stays. -/
def allCx (w : World) : Cx := { w := w, I := fun b => b < w.heap.size, B := fun _ => False, ρ := fun _ => none }

theorem allSim (w : World) : Sim (allCx w) [] :=
  ⟨fun b h => h, fun b h => h.elim, fun l o h => (by simp at h), fun l l' cl cl' h => (by obtain ⟨o, h, _⟩ := h; simp at h), fun l _ => rfl⟩

def fieldsS (P : Program) (S : TypeId → List AV → Prop) : List Field → List AV → Prop
  | [], xs => xs = []
  | f :: r, xs => ∃ p q, xs = p ++ q ∧ p.length = P.cellsOf f.type ∧ S f.type p ∧ fieldsS P S r q

def timesS (P : Program) (S : TypeId → List AV → Prop) (e : TypeId) : Nat → List AV → Prop
  | 0, xs => xs = []
  | n + 1, xs => ∃ p q, xs = p ++ q ∧ p.length = P.cellsOf e ∧ S e p ∧ timesS P S e n q

/-- The cells of a value of a type. -/
def Shp (P : Program) : Nat → TypeId → List AV → Prop
  | 0, _, _ => False
  | f + 1, t, xs => match P.underlying t with
    | some .bool => ∃ b, xs = [.bool b]
    | some (.int k) => ∃ n, xs = [.int k n] ∧ (Lit.int k n).wf = true
    | some .string => ∃ s, xs = [.str s] ∧ s.size ≤ maxLen
    | some (.slice e) => xs = [.nils] ∨ ∃ rows, xs = [.list .loose rows] ∧ rows.length ≤ maxLen ∧ ∀ r ∈ rows, r.length = P.cellsOf e ∧ Shp P f e r
    | some (.struct fs) => fieldsS P (Shp P f) fs.toList xs
    | some (.array n e) => timesS P (Shp P f) e n xs
    | _ => False

def consec (P : Program) : List Field → Nat → Nat → Bool
  | [], o, e => o == e
  | f :: r, o, e => f.offset == o && consec P r (o + P.cellsOf f.type) e

/-- Types of numbers, strings, slices, structs and arrays alone. -/
def plainT (P : Program) : Nat → TypeId → Bool
  | 0, _ => false
  | f + 1, t => match P.underlying t with
    | some .bool | some (.int _) | some .string => P.cellsOf t == 1
    | some (.slice e) => P.cellsOf t == 1 && P.cellsOf e != 0 && plainT P f e
    | some (.struct fs) => consec P fs.toList 0 (P.cellsOf t) && fs.toList.all fun fd => plainT P f fd.type
    | some (.array n e) => n * P.cellsOf e == P.cellsOf t && plainT P f e
    | _ => false

theorem plainT_succ {P : Program} : ∀ (f : Nat) (t : TypeId), plainT P f t = true → plainT P (f + 1) t = true
  | 0, t, h => by cases h
  | f + 1, t, h => by
    unfold plainT at h ⊢
    cases hu : P.underlying t with
    | none => rw [hu] at h; cases h
    | some d =>
      rw [hu] at h
      cases d <;> first
        | exact h
        | (simp only [Bool.and_eq_true] at h ⊢; exact ⟨h.1, plainT_succ f _ h.2⟩)
        | (simp only [Bool.and_eq_true, List.all_eq_true] at h ⊢; exact ⟨h.1, fun fd hfd => plainT_succ f _ (h.2 fd hfd)⟩)
        | (cases h; done)

theorem plainT_le {P : Program} {n : Nat} {t : TypeId} (h : plainT P n t = true) : ∀ f, n ≤ f → plainT P f t = true := by
  intro f hf
  induction hf with
  | refl => exact h
  | step _ ih => exact plainT_succ _ _ ih

/-- Cells and their values. -/
def CellsR (c : Cx) (xs : List AV) (cs : List Value) : Prop :=
  xs.length = cs.length ∧ ∀ (j : Nat) (x : AV) (V : Value), xs[j]? = some x → cs[j]? = some V → Rel c x V ∧ x.isVal = true ∧ V.oneCell' = true

theorem CellsR.append {c : Cx} {xs ys : List AV} {cs ds : List Value} (h : CellsR c xs cs) (k : CellsR c ys ds) : CellsR c (xs ++ ys) (cs ++ ds) := by
  refine ⟨by simp [h.1, k.1], fun j x V hx hV => ?_⟩
  by_cases hj : j < xs.length
  · rw [List.getElem?_append_left hj] at hx
    rw [List.getElem?_append_left (by rw [← h.1]; exact hj)] at hV
    exact h.2 j x V hx hV
  · rw [List.getElem?_append_right (by omega)] at hx
    rw [List.getElem?_append_right (by rw [← h.1]; omega), ← h.1] at hV
    exact k.2 _ x V hx hV

theorem CellsR.one {c : Cx} {x : AV} {V : Value} (h : Rel c x V) (hv : x.isVal = true) (ho : V.oneCell' = true) : CellsR c [x] [V] := by
  refine ⟨rfl, fun j y W hy hW => ?_⟩
  cases j with
  | zero => simp at hy hW; subst hy; subst hW; exact ⟨h, hv, ho⟩
  | succ j => simp at hy

theorem mapM_get {α β : Type} {f : α → Option β} : ∀ {l : List α} {ys : List β}, l.mapM f = some ys → ys.length = l.length ∧ ∀ (i : Nat) (x : α), l[i]? = some x → ∃ y, ys[i]? = some y ∧ f x = some y
  | [], ys, h => by simp at h; subst h; exact ⟨rfl, fun i x hx => by cases hx⟩
  | a :: l, ys, h => by
    rw [List.mapM_cons] at h
    cases hf : f a with
    | none => rw [hf] at h; cases h
    | some b =>
      rw [hf] at h
      cases hm : l.mapM f with
      | none => simp [hm] at h
      | some bs =>
        simp [hm] at h
        subst h
        obtain ⟨i1, i2⟩ := mapM_get hm
        refine ⟨by simp [i1], fun i x hx => ?_⟩
        cases i with
        | zero => simp at hx; subst hx; exact ⟨b, rfl, hf⟩
        | succ i => simpa using i2 i x (by simpa using hx)

theorem cells_get {w : World} {base : Nat} {a : Addr} {n : Nat} {cs : List Value} (h : w.cells? base a n = some cs) : cs.length = n ∧ ∀ (j : Nat) (V : Value), cs[j]? = some V → w.cell? (a.add j) = some V := by
  unfold World.cells? at h
  split at h
  · obtain ⟨i1, i2⟩ := mapM_get h
    refine ⟨by simpa using i1, fun j V hV => ?_⟩
    have hj : j < n := by have := (List.getElem?_eq_some_iff.1 hV).1; simp at i1; omega
    obtain ⟨y, h1, h2⟩ := i2 j j (by rw [List.getElem?_range hj])
    rw [hV] at h1
    cases h1
    exact h2
  · cases h

section
variable {H : Type} {enc : TypeId × Value → H} {P : Program} {w : World} {base : Nat} {sp : Nat → Bool} {held : Bool}

theorem fields_bridge {f : Nat} (ih : ∀ (t : TypeId) (cs : List Value) (x : DataW H × List MemPlace), plainT P f t = true → DataW.trod enc P w base sp held f t cs = some x → ∃ xs, CellsR (allCx w) xs cs ∧ Shp P f t xs)
    (hlen : ∀ (t : TypeId) (cs : List Value) (x : DataW H × List MemPlace), plainT P f t = true → DataW.trod enc P w base sp held f t cs = some x → cs.length = P.cellsOf t) :
    ∀ (fl : List Field) (o e : Nat) (cs : List Value) (xs : List (DataW H × List MemPlace)), consec P fl o e = true → cs.length = e → (∀ fd ∈ fl, plainT P f fd.type = true) →
      fl.mapM (fun fd => DataW.trod enc P w base sp held f fd.type ((cs.drop fd.offset).take (P.cellsOf fd.type))) = some xs → ∃ ys, CellsR (allCx w) ys (cs.drop o) ∧ fieldsS P (Shp P f) fl ys
  | [], o, e, cs, xs, hc, hl, hp, hm => by
    have : o = e := by simpa [consec] using hc
    refine ⟨[], ⟨by simp; omega, fun j x V hx => by cases hx⟩, rfl⟩
  | fd :: r, o, e, cs, xs, hc, hl, hp, hm => by
    simp only [consec, Bool.and_eq_true, beq_iff_eq] at hc
    obtain ⟨h1, h2⟩ := hc
    rw [List.mapM_cons] at hm
    cases hf : DataW.trod enc P w base sp held f fd.type ((cs.drop fd.offset).take (P.cellsOf fd.type)) with
    | none => rw [hf] at hm; cases hm
    | some x =>
      rw [hf] at hm
      cases hm2 : r.mapM (fun fd => DataW.trod enc P w base sp held f fd.type ((cs.drop fd.offset).take (P.cellsOf fd.type))) with
      | none => simp [hm2] at hm
      | some xs2 =>
        obtain ⟨p, p1, p2⟩ := ih _ _ _ (hp fd (by simp)) hf
        have hpl := hlen _ _ _ (hp fd (by simp)) hf
        obtain ⟨q, q1, q2⟩ := fields_bridge ih hlen r _ e cs xs2 h2 hl (fun fd hfd => hp fd (by simp [hfd])) hm2
        refine ⟨p ++ q, ?_, p, q, rfl, p1.1.trans hpl, p2, q2⟩
        have := p1.append q1
        rw [h1] at this
        have e1 : (cs.drop o).take (P.cellsOf fd.type) ++ cs.drop (o + P.cellsOf fd.type) = cs.drop o := by
          rw [← List.drop_drop]
          exact List.take_append_drop _ _
        rwa [e1] at this

theorem times_bridge {f : Nat} {e : TypeId} (ih : ∀ (cs : List Value) (x : DataW H × List MemPlace), DataW.trod enc P w base sp held f e cs = some x → ∃ xs, CellsR (allCx w) xs cs ∧ Shp P f e xs)
    (hlen : ∀ (cs : List Value) (x : DataW H × List MemPlace), DataW.trod enc P w base sp held f e cs = some x → cs.length = P.cellsOf e) (cs : List Value) :
    ∀ (n i : Nat) (g : Nat → Option (DataW H × List MemPlace)), (∀ k, i ≤ k → k < i + n → ∃ x, DataW.trod enc P w base sp held f e ((cs.drop (k * P.cellsOf e)).take (P.cellsOf e)) = some x) → cs.length = (i + n) * P.cellsOf e →
      ∃ ys, CellsR (allCx w) ys (cs.drop (i * P.cellsOf e)) ∧ timesS P (Shp P f) e n ys
  | 0, i, g, h, hl => ⟨[], ⟨by simp [hl], fun j x V hx => by cases hx⟩, rfl⟩
  | n + 1, i, g, h, hl => by
    obtain ⟨x, hx⟩ := h i (Nat.le_refl _) (by omega)
    obtain ⟨p, p1, p2⟩ := ih _ _ hx
    have hpl := hlen _ _ hx
    obtain ⟨q, q1, q2⟩ := times_bridge ih hlen cs n (i + 1) g (fun k h1 h2 => h k (by omega) (by omega)) (by rw [hl]; congr 1; omega)
    refine ⟨p ++ q, ?_, p, q, rfl, p1.1.trans hpl, p2, q2⟩
    have := p1.append q1
    have e1 : (cs.drop (i * P.cellsOf e)).take (P.cellsOf e) ++ cs.drop ((i + 1) * P.cellsOf e) = cs.drop (i * P.cellsOf e) := by
      rw [Nat.add_mul, Nat.one_mul, ← List.drop_drop]
      exact List.take_append_drop _ _
    rwa [e1] at this

theorem trod_len : ∀ (f : Nat) (t : TypeId) (cs : List Value) (x : DataW H × List MemPlace), plainT P f t = true → DataW.trod enc P w base sp held f t cs = some x → cs.length = P.cellsOf t
  | 0, t, cs, x, hp, h => by cases hp
  | f + 1, t, cs, x, hp, h => by
    unfold plainT at hp
    unfold DataW.trod at h
    cases hu : P.underlying t with
    | none => rw [hu] at hp; cases hp
    | some d =>
      rw [hu] at hp h
      have one : ∀ {c1 : Nat}, (c1 == 1) = true → c1 = 1 := fun h => by simpa using h
      cases d with
      | bool =>
        match cs, h with
        | [.bool b], _ => exact (one hp).symm
      | int k =>
        match cs, h with
        | [.int k' n], _ => exact (one hp).symm
      | string =>
        match cs, h with
        | [.string s], _ => exact (one hp).symm
      | slice e =>
        simp only [Bool.and_eq_true] at hp
        match cs, h with
        | [.slice none 0 0], _ => exact (one hp.1.1).symm
        | [.slice (some a) l c], _ => exact (one hp.1.1).symm
      | struct fs =>
        simp only at h
        split at h
        · assumption
        · cases h
      | array n e =>
        simp only at h
        split at h
        · assumption
        · cases h
      | _ => cases hp

theorem bridge : ∀ (f : Nat) (t : TypeId) (cs : List Value) (x : DataW H × List MemPlace), plainT P f t = true → DataW.trod enc P w base sp held f t cs = some x → ∃ xs, CellsR (allCx w) xs cs ∧ Shp P f t xs
  | 0, t, cs, x, hp, h => by cases hp
  | f + 1, t, cs, x, hp0, h => by
    have hp := hp0
    unfold plainT at hp
    unfold DataW.trod at h
    unfold Shp
    cases hu : P.underlying t with
    | none => rw [hu] at hp; cases hp
    | some d =>
      rw [hu] at hp h
      cases d with
      | bool =>
        match cs, h with
        | [.bool b], _ => exact ⟨[.bool b], .one (.bool b) rfl rfl, b, rfl⟩
      | int k =>
        match cs, h with
        | [.int k' n], h =>
          simp only at h
          split at h
          · rename_i hk
            obtain ⟨rfl, hk⟩ := hk
            exact ⟨[.int k' n], .one (.int k' n) rfl rfl, n, rfl, hk⟩
          · cases h
      | string =>
        match cs, h with
        | [.string s], h =>
          simp only at h
          split at h
          · rename_i hs
            exact ⟨[.str s], .one (.str s) rfl rfl, s, rfl, hs⟩
          · cases h
      | slice e =>
        simp only [Bool.and_eq_true, bne_iff_ne, ne_eq] at hp
        match cs, h with
        | [.slice none 0 0], _ => exact ⟨[.nils], .one .nils rfl rfl, .inl rfl⟩
        | [.slice (some a) len cap], h =>
          simp only at h
          split at h
          · rename_i hc
            obtain ⟨c1, c2, c3⟩ := hc
            cases hm : (List.range len).mapM (fun i => (w.cells? base (a.add (i * P.cellsOf e)) (P.cellsOf e)).bind (DataW.trod enc P w base sp held f e)) with
            | none => rw [hm] at h; cases h
            | some elems =>
              obtain ⟨m1, m2⟩ := mapM_get hm
              have hel : ∀ i, ∃ r : List AV, i < len → ∃ cs', w.cells? base (a.add (i * P.cellsOf e)) (P.cellsOf e) = some cs' ∧ CellsR (allCx w) r cs' ∧ Shp P f e r ∧ r.length = P.cellsOf e := fun i => by
                by_cases hi : i < len
                · obtain ⟨y, _, hy⟩ := m2 i i (by rw [List.getElem?_range hi])
                  cases hcs : w.cells? base (a.add (i * P.cellsOf e)) (P.cellsOf e) with
                  | none => rw [hcs] at hy; cases hy
                  | some cs' =>
                    rw [hcs] at hy
                    obtain ⟨r, r1, r2⟩ := bridge f e cs' y hp.2 hy
                    exact ⟨r, fun _ => ⟨cs', rfl, r1, r2, r1.1.trans (cells_get hcs).1⟩⟩
                · exact ⟨[], fun h => absurd h hi⟩
              let rows : List (List AV) := (List.range len).map fun i => (hel i).choose
              have hrl : rows.length = len := by simp [rows]
              have hrow : ∀ (i : Nat) (r : List AV), rows[i]? = some r → i < len ∧ r = (hel i).choose := fun i r hr => by
                have hi : i < len := by rw [← hrl]; exact (List.getElem?_eq_some_iff.1 hr).1
                simp only [rows, List.getElem?_map, List.getElem?_range hi, Option.map_some, Option.some.injEq] at hr
                exact ⟨hi, hr.symm⟩
              have hspot : len = 0 ∨ (a.spot = none ∧ a.block < w.heap.size) := by
                by_cases h0 : len = 0
                · exact .inl h0
                · obtain ⟨cs', k1, k2, k3, k4⟩ := (hel 0).choose_spec (by omega)
                  obtain ⟨l1, l2⟩ := cells_get k1
                  have := l2 0 cs'[0] (List.getElem?_eq_getElem (by omega))
                  simp only [Nat.zero_mul, Addr.add, if_true] at this
                  refine .inr ?_
                  unfold World.cell? at this
                  split at this
                  · rename_i cc tt fr hh
                    split at this
                    · cases this
                    · rename_i hsn
                      exact ⟨by simpa using hsn, (Array.getElem?_eq_some_iff.1 hh).1⟩
                  · cases this
              have hF : ∀ i j, ∃ V, i < len → j < P.cellsOf e → w.cell? ⟨a.block, a.off + i * P.cellsOf e + j, none⟩ = some V ∧ V.oneCell' = true ∧ ∀ x, ((hel i).choose)[j]? = some x → Rel (allCx w) x V ∧ x.isVal = true := fun i j => by
                by_cases hij : i < len ∧ j < P.cellsOf e
                · obtain ⟨cs', k1, k2, k3, k4⟩ := (hel i).choose_spec hij.1
                  obtain ⟨l1, l2⟩ := cells_get k1
                  have hV := l2 j cs'[j] (List.getElem?_eq_getElem (by omega))
                  obtain ⟨s1, s2⟩ := hspot.resolve_left (by omega)
                  obtain ⟨ab, ao, as⟩ := a
                  simp only at s1
                  subst s1
                  rw [add_spot, add_spot] at hV
                  have hx := k2.2 j ((hel i).choose)[j] cs'[j] (List.getElem?_eq_getElem (by omega)) (List.getElem?_eq_getElem (by omega))
                  refine ⟨cs'[j], fun _ _ => ⟨hV, hx.2.2, fun x hx' => ?_⟩⟩
                  rw [List.getElem?_eq_getElem (by omega)] at hx'
                  cases hx'
                  exact ⟨hx.1, hx.2.1⟩
                · exact ⟨undef, fun a b => absurd ⟨a, b⟩ hij⟩
              have hR := Rel.list (c := allCx w) .loose rows a.block a.off (P.cellsOf e) cap a.spot
                (hspot.imp (fun h0 => List.eq_nil_of_length_eq_zero (hrl.trans h0)) (fun h => h.1)) (fun i j => (hF i j).choose)
                (hspot.imp (fun h0 => List.eq_nil_of_length_eq_zero (hrl.trans h0)) (fun h => h.2)) (by omega) (fun h => by cases h)
                (fun r hr => by
                  obtain ⟨i, hi⟩ := List.mem_iff_getElem?.1 hr
                  obtain ⟨q1, q2⟩ := hrow i r hi
                  obtain ⟨_, _, _, _, k4⟩ := (hel i).choose_spec q1
                  rw [q2]; exact k4)
                (List.all_eq_true.2 fun r hr => List.all_eq_true.2 fun x hx => by
                  obtain ⟨i, hi⟩ := List.mem_iff_getElem?.1 hr
                  obtain ⟨j, hj⟩ := List.mem_iff_getElem?.1 hx
                  obtain ⟨q1, q2⟩ := hrow i r hi
                  obtain ⟨_, _, _, _, k4⟩ := (hel i).choose_spec q1
                  subst q2
                  exact (((hF i j).choose_spec q1 (by rw [← k4]; exact (List.getElem?_eq_some_iff.1 hj).1)).2.2 x hj).2)
                (fun i j hi hj => ⟨((hF i j).choose_spec (by omega) hj).1, ((hF i j).choose_spec (by omega) hj).2.1⟩)
                (fun i r j x hr hx => by
                  obtain ⟨q1, q2⟩ := hrow i r hr
                  obtain ⟨_, _, _, _, k4⟩ := (hel i).choose_spec q1
                  subst q2
                  exact (((hF i j).choose_spec q1 (by rw [← k4]; exact (List.getElem?_eq_some_iff.1 hx).1)).2.2 x hx).1)
              rw [hrl] at hR
              refine ⟨[.list .loose rows], .one hR rfl rfl, .inr ⟨rows, rfl, by omega, fun r hr => ?_⟩⟩
              obtain ⟨i, hi⟩ := List.mem_iff_getElem?.1 hr
              obtain ⟨q1, q2⟩ := hrow i r hi
              obtain ⟨_, _, _, k3, k4⟩ := (hel i).choose_spec q1
              rw [q2]
              exact ⟨k4, k3⟩
          · cases h
      | struct fs =>
        simp only at h
        split at h
        · rename_i hl
          simp only [Bool.and_eq_true, List.all_eq_true] at hp
          cases hm : fs.toList.mapM (fun fd => DataW.trod enc P w base sp held f fd.type ((cs.drop fd.offset).take (P.cellsOf fd.type))) with
          | none => rw [hm] at h; cases h
          | some xs =>
            obtain ⟨ys, y1, y2⟩ := fields_bridge (fun t cs x => bridge f t cs x) (fun t cs x => trod_len f t cs x) fs.toList 0 (P.cellsOf t) cs xs hp.1 hl hp.2 hm
            exact ⟨ys, by simpa using y1, y2⟩
        · cases h
      | array n e =>
        simp only at h
        split at h
        · rename_i hl
          simp only [Bool.and_eq_true, beq_iff_eq] at hp
          cases hm : (List.range n).mapM (fun i => DataW.trod enc P w base sp held f e ((cs.drop (i * P.cellsOf e)).take (P.cellsOf e))) with
          | none => rw [hm] at h; cases h
          | some xs =>
            obtain ⟨m1, m2⟩ := mapM_get hm
            obtain ⟨ys, y1, y2⟩ := times_bridge (fun cs x => bridge f e cs x hp.2) (fun cs x => trod_len f e cs x hp.2) cs n 0 (fun _ => none) (fun k _ hk => by
              obtain ⟨y, _, hy⟩ := m2 k k (by rw [List.getElem?_range (by omega)])
              exact ⟨y, hy⟩) (by rw [hl, ← hp.1]; congr 1; omega)
            exact ⟨ys, by simpa using y1, y2⟩
        · cases h
      | _ => cases hp
end
end Go.Vi
end
section
set_option autoImplicit false
set_option linter.unusedVariables false
set_option linter.unusedSimpArgs false
namespace Go.Vi
open Go.RowKit Go.ChangeShapes

section
variable {H : Type} {enc : TypeId × Value → H} {P : Program}

theorem To.below {w : World} {c' : Cx} {H' : Hp} (t : To (allCx w) [] c' H') : Below w.heap.size w c'.w :=
  ⟨t.ext.os, t.ext.tape, t.ext.output, t.ext.size, fun k hk => t.ext.frame k hk (fun ⟨l, cl, ⟨o, h, _⟩, _⟩ => by simp at h)⟩

theorem Below.trodAll {W W' : World} (hl : laidOutB P = true) (hb : Below W.heap.size W W') : ∀ {ts : List TypeId} {vs : List Value} {ds : List (DataW H)} {ps : List MemPlace}, (∀ t ∈ ts, P.readableRec t = true ∧ t < P.types.size) → (∀ x ∈ ps, x.block < W.heap.size) →
    DataW.TrodAll enc P W 0 (fun _ => true) true ts vs ds ps → DataW.TrodAll enc P W' 0 (fun b => decide (b < W.heap.size)) true ts vs ds ps
  | [], vs, ds, ps, hr, hlt, h => by
    obtain ⟨rfl, rfl, rfl⟩ := trodAll_nil h
    exact rfl
  | t :: ts, vs, ds, ps, hr, hlt, h => by
    obtain ⟨v, vs', d, ds', p, q, rfl, rfl, rfl, h1, h2⟩ := trodAll_cons h
    exact ⟨p, q, Below.trod hl (hr t (by simp)).1 (hr t (by simp)).2 h1 hb (fun x hx => hlt x (by simp [hx])), Below.trodAll hl hb (fun t ht => hr t (by simp [ht])) (fun x hx => hlt x (by simp [hx])) h2, rfl⟩

/-- A law: it is true, and its arguments read as they did. -/
theorem post_law {f : Func} {s : ChangeSpec} {apart fresh handsOn : Bool} {W W' : World} {args : Array Value} {ds gs : List (DataW H)} {before : List MemPlace} {tb : TypeId}
    (hW : DataW.Whole enc P f.params.toList s.vars apart W args.toList ds gs before) (hvars : s.vars = []) (hfn : s.fn H (ds ++ gs) = { results := [.lit (.bool true)], args := ds })
    (hl : laidOutB P = true) (hr : ∀ t ∈ f.params.toList, P.readableRec t = true ∧ t < P.types.size) (hres : f.resultTypes = #[tb]) (hbool : P.underlying tb = some .bool) (hb : Below W.heap.size W W') :
    s.post enc P f apart fresh handsOn false W args (.bool true) W' := by
  have hlt := hW.lt
  have hW' := hW
  obtain ⟨p, q, h1, h2, rfl, _⟩ := hW
  refine ⟨ds, gs, p ++ q, [], p, [], hW', ?_, ?_, ?_, hb.frame _, fun h => by cases h⟩
  · rw [hfn, hres]
    exact trodAll_mk1 (shut_bool hbool true)
  · rw [hfn]
    exact Below.trodAll hl hb hr (fun x hx => hlt x (by simp [hx])) h1
  · rw [hfn, hvars]
    exact rfl

/-- An argument as an abstract value. -/
def argOf (P : Program) (t : TypeId) (xs : List AV) : Option AV :=
  match P.underlying t with
  | some (.struct _) | some (.array _ _) => some (.agg xs)
  | _ => match xs with
    | [x] => some x
    | _ => none

/-- What an argument is. -/
def ArgIs (P : Program) (F : Nat) (t : TypeId) (a : AV) : Prop := ∃ f xs, F ≤ f ∧ Shp P f t xs ∧ argOf P t xs = some a ∧ xs.all AV.isVal = true

theorem arg_bridge {W : World} {F base : Nat} {t : TypeId} {v : Value} {d : DataW H} {p : List MemPlace} {sp : Nat → Bool} {held : Bool} (hp : ∀ f, F ≤ f → plainT P f t = true) (hok : Value.okWide P W .any base t v) (h : DataW.Trod enc P W 0 sp held t v d p) :
    ∃ a, ArgIs P F t a ∧ Rel (allCx W) a v := by
  obtain ⟨f, h⟩ := h
  have h' := DataW.trod_le (Nat.le_max_left f F) h
  obtain ⟨xs, x1, x2⟩ := bridge (max f F) t _ _ (hp _ (Nat.le_max_right f F)) h'
  have hval : xs.all AV.isVal = true := List.all_eq_true.2 fun x hx => by
    obtain ⟨j, hj⟩ := List.mem_iff_getElem?.1 hx
    have hlt : j < v.cells.toList.length := by rw [← x1.1]; exact (List.getElem?_eq_some_iff.1 hj).1
    exact (x1.2 j x _ hj (List.getElem?_eq_getElem hlt)).2.1
  have hagg : (∃ cs, v = .agg cs) → Rel (allCx W) (.agg xs) v := by
    rintro ⟨cs, rfl⟩
    refine .agg xs cs (by simpa [Value.cells] using x1.1) (fun j V hV => ?_) (fun j x V hx hV => (x1.2 j x V hx (by simpa [Value.cells] using hV)).1)
    have hj : j < xs.length := by rw [x1.1]; simpa [Value.cells] using (Array.getElem?_eq_some_iff.1 hV).1
    exact (x1.2 j _ V (List.getElem?_eq_getElem hj) (by simpa [Value.cells] using hV)).2.2
  have hone : ∀ x, xs = [x] → (∀ cs, v ≠ .agg cs) → Rel (allCx W) x v := by
    intro x hx hne
    subst hx
    have hc : v.cells = #[v] := by cases v <;> first | rfl | exact absurd rfl (hne _)
    exact (x1.2 0 x v rfl (by rw [hc]; rfl)).1
  have hf := hp (max f F) (Nat.le_max_right f F)
  unfold Value.okWide at hok
  have x2' := x2
  cases hm : max f F with
  | zero => rw [hm] at x2'; exact x2'.elim
  | succ m =>
    rw [hm] at x2'
    unfold Shp at x2'
    cases hu : P.underlying t with
    | none => rw [hu] at x2'; exact x2'.elim
    | some dd =>
      rw [hu] at x2' hok
      have leaf : ∀ x, xs = [x] → (argOf P t xs = some x) → (∀ cs, v ≠ .agg cs) → ∃ a, ArgIs P F t a ∧ Rel (allCx W) a v := fun x hx ha hne => ⟨x, ⟨max f F, xs, Nat.le_max_right _ _, x2, ha, hval⟩, hone x hx hne⟩
      have na : ∀ (T : Cell.okWide P W .any base t v), (∀ fs, dd ≠ .struct fs) → (∀ n e, dd ≠ .array n e) → dd ≠ .unsafePointer → ∀ cs, v ≠ .agg cs := by
        intro T _ _ _ cs e
        subst e
        unfold Cell.okWide at T
        rw [hu] at T
        cases dd <;> first
          | (simp [Cell.ok, hu] at T; done)
          | (exact T.elim)
      cases dd with
      | struct fs =>
        obtain ⟨cs, hv, _⟩ := hok
        exact ⟨.agg xs, ⟨max f F, xs, Nat.le_max_right _ _, x2, by simp [argOf, hu], hval⟩, hagg ⟨cs, hv⟩⟩
      | array n e =>
        obtain ⟨cs, hv, _⟩ := hok
        exact ⟨.agg xs, ⟨max f F, xs, Nat.le_max_right _ _, x2, by simp [argOf, hu], hval⟩, hagg ⟨cs, hv⟩⟩
      | bool =>
        obtain ⟨b, hb⟩ := x2'
        exact leaf _ hb (by simp [argOf, hu, hb]) (na hok (fun _ h => by cases h) (fun _ _ h => by cases h) (by simp))
      | int k =>
        obtain ⟨b, hb, _⟩ := x2'
        exact leaf _ hb (by simp [argOf, hu, hb]) (na hok (fun _ h => by cases h) (fun _ _ h => by cases h) (by simp))
      | string =>
        obtain ⟨b, hb, _⟩ := x2'
        exact leaf _ hb (by simp [argOf, hu, hb]) (na hok (fun _ h => by cases h) (fun _ _ h => by cases h) (by simp))
      | slice e =>
        rcases x2' with hb | ⟨rows, hb, _⟩
        · exact leaf _ hb (by simp [argOf, hu, hb]) (na hok (fun _ h => by cases h) (fun _ _ h => by cases h) (by simp))
        · exact leaf _ hb (by simp [argOf, hu, hb]) (na hok (fun _ h => by cases h) (fun _ _ h => by cases h) (by simp))
      | _ => exact x2'.elim

/-- A call of a law. -/
theorem law_calls {f : Nat} {W : World} {as : List AV} {Vs : List Value} (h : XS P (fun _ => none) f as [] fun r _ => r = .bool true) (hl : as.length = Vs.length) (hr : ∀ (j : Nat) (x : AV) (V : Value), as[j]? = some x → Vs[j]? = some V → Rel (allCx W) x V) :
    Calls P f Vs.toArray W fun e W' => e = .returned (.bool true) ∧ Below W.heap.size W W' := by
  refine (h (allCx W) Vs (allSim W) (fun g cs hg => by cases hg) hl hr).mono ?_
  rintro e w' ⟨r, H', c', V, rfl, rfl, t, hR, rfl⟩
  cases hR
  exact ⟨rfl, To.below t⟩
end
end Go.Vi
end
