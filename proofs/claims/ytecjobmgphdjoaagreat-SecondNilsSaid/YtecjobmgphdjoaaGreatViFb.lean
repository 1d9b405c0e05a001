/- Vi, part Fb: objects in a tree; operations on them. -/
import Derived.Test.YtecjobmgphdjoaaGreatViRo
import Derived.Test.YtecjobmgphdjoaaGreatViFa
set_option autoImplicit false
set_option linter.unusedVariables false
set_option linter.unusedSimpArgs false
namespace Go.Vi

inductive VT where
  | arr (T : TypeId) (sz n : Nat) (t : Br (List AV))
  | big (T : TypeId) (n : Nat) (t : Br AV)
  | frz (sz n : Nat) (t : Br (List AV))
  | map (es : List (Int × AV))
  | iter (m n : Nat) (seen : List Nat)
  | one (T : TypeId) (cs : List AV)
  | dead

noncomputable def VT.den : VT → VO
  | .arr T sz n t => .arr T sz (t.toL n)
  | .big T n t => .arr T n [t.toL n]
  | .frz sz n t => .frz sz (t.toL n)
  | .map es => .map es
  | .iter m n seen => .iter m n seen
  | .one T cs => .one T cs
  | .dead => .dead
def VT.ok : VT → Prop
  | .arr _ _ n t => t.ex n
  | .big _ n t => t.ex n
  | .frz _ n t => t.ex n
  | _ => True

structure HT where
  n : Nat
  t : Br VT

structure HT.ok (h : HT) : Prop where
  ex : h.t.ex h.n
  all : ∀ l o, h.t.get l = some o → o.ok
noncomputable def HT.den (h : HT) : Hp := (h.t.toL h.n).map VT.den
noncomputable def HT.set (h : HT) (l : Nat) (o : VT) : HT := ⟨h.n, h.t.set l o⟩
noncomputable def HT.push (h : HT) (o : VT) : HT := ⟨Nat.succ h.n, h.t.set h.n o⟩
def HT.none : HT := ⟨0, Br.nil⟩

theorem HT.none_ok : HT.none.ok := ⟨Br.ex_nil, fun l o h => by rw [show HT.none.t = Br.nil from rfl, Br.nil_get] at h; cases h⟩
theorem HT.none_den : HT.none.den = [] := rfl

section
variable {h : HT} {l : Nat} {o : VT}
theorem HT.ok.get (k : h.ok) (l : Nat) : h.den[l]? = (h.t.get l).map VT.den := by
  unfold HT.den
  rw [List.getElem?_map, k.ex.toL_get]
theorem HT.ok.at (k : h.ok) (hl : h.t.get l = some o) : h.den[l]? = some o.den ∧ o.ok := ⟨by rw [k.get, hl]; rfl, k.all _ _ hl⟩
theorem HT.ok.len (k : h.ok) : h.den.length = h.n := by unfold HT.den; rw [List.length_map, k.ex.len]
theorem HT.ok.set (k : h.ok) {o' : VT} (hl : h.t.get l = some o') (ho : o.ok) : (h.set l o).ok ∧ (h.set l o).den = h.den.set l o.den := by
  have hlt : l < h.n := (k.ex l).1 (by rw [hl]; rfl)
  obtain ⟨e1, e2⟩ := k.ex.set hlt o
  refine ⟨⟨e1, fun j p hj => ?_⟩, ?_⟩
  · have hj' : (h.t.set l o).get j = some p := hj
    rw [Br.get_set _ _ _ _ (Br.way_get _ _ (by rw [hl]; rfl))] at hj'
    split at hj'
    · cases hj'; exact ho
    · exact k.all _ _ hj'
  · show ((h.t.set l o).toL h.n).map VT.den = _
    rw [e2]
    unfold HT.den
    rw [List.map_set]
theorem HT.ok.push (k : h.ok) (ho : o.ok) : (h.push o).ok ∧ (h.push o).den = h.den ++ [o.den] := by
  obtain ⟨e1, e2⟩ := k.ex.push o
  refine ⟨⟨e1, fun j p hj => ?_⟩, ?_⟩
  · have hj' : (h.t.set h.n o).get j = some p := hj
    rw [Br.get_set _ _ _ _ (Br.way_end _ _ fun i hi => (k.ex i).2 hi)] at hj'
    split at hj'
    · cases hj'; exact ho
    · exact k.all _ _ hj'
  · show ((h.t.set h.n o).toL (h.n + 1)).map VT.den = _
    rw [e2]
    unfold HT.den
    simp
end

/-- Cells laid over a row's. -/
def setCs : List AV → Nat → List AV → List AV
  | [], _, _ => []
  | a :: r, k + 1, cs => a :: setCs r k cs
  | a :: r, 0, [] => a :: r
  | a :: r, 0, c :: cs => c :: setCs r 0 cs
theorem setCs_eq : ∀ (r : List AV) (k : Nat) (cs : List AV), k + cs.length ≤ r.length → setCs r k cs = setC r k cs
  | [], k, cs, h => by
    simp only [List.length_nil, Nat.le_zero_eq, Nat.add_eq_zero_iff, List.length_eq_zero_iff] at h
    obtain ⟨rfl, rfl⟩ := h
    rfl
  | a :: r, k + 1, cs, h => by
    simp only [List.length_cons] at h
    rw [setCs, setCs_eq r k cs (by omega)]
    simp only [setC, List.take_succ_cons, List.cons_append]
    rw [show k + 1 + cs.length = (k + cs.length) + 1 by omega, List.drop_succ_cons]
  | a :: r, 0, [], h => by simp [setCs, setC]
  | a :: r, 0, c :: cs, h => by
    simp only [List.length_cons] at h
    rw [setCs, setCs_eq r 0 cs (by omega)]
    simp [setC]

/-! ### Loads, stores, new variables -/
noncomputable def ldT (P : Program) (t : TypeId) (n : Nat) (cs : Br AV) (k : Nat) : Option AV :=
  match aggOf P t, szOf P t with
  | some true, some m => if k + m ≤ n then some (.agg (cs.seg k m)) else none
  | some false, _ => cs.get k
  | _, _ => none
theorem ldT_eq {P : Program} {t : TypeId} {n k : Nat} {cs : Br AV} {v : AV} (e : cs.ex n) (h : ldT P t n cs k = some v) : ldCells P t ((cs.toL n).drop k) = some v := by
  unfold ldT at h
  unfold ldCells
  split at h
  · rename_i m ha hm
    rw [ha, hm]
    simp only
    split at h
    · rename_i hk
      cases h
      rw [if_pos (by rw [List.length_drop, e.len]; omega), e.seg hk]
    · cases h
  · rename_i ha
    rw [ha]
    simp only
    rw [List.getElem?_drop, e.toL_get]
    exact h
  · cases h

noncomputable def vloadT (P : Program) (h : HT) (t : TypeId) : AV → Option AV
  | .ptr l i k => match h.t.get l with
    | some (.arr _ _ _ rows) => match rows.get i with
      | some r => ldCells P t (r.drop k)
      | none => none
    | some (.frz _ _ rows) => match rows.get i with
      | some r => ldCells P t (r.drop k)
      | none => none
    | some (.big _ n cs) => match i with
      | 0 => ldT P t n cs k
      | _ => none
    | _ => none
  | .iptr _ cs => ldCells P t cs
  | _ => none
theorem vloadT_eq {P : Program} {h : HT} (k : h.ok) {t : TypeId} {p v : AV} (hv : vloadT P h t p = some v) : vload P h.den t p = some v := by
  unfold vloadT at hv
  unfold vload
  split at hv
  · rename_i l i j
    dsimp only
    split at hv
    · rename_i T sz n rows hl
      obtain ⟨g1, g2⟩ := k.at hl
      rw [g1]
      simp only [VT.den]
      rw [g2.toL_get]
      exact hv
    · rename_i sz n rows hl
      obtain ⟨g1, g2⟩ := k.at hl
      rw [g1]
      simp only [VT.den]
      rw [g2.toL_get]
      exact hv
    · rename_i T n cs hl
      obtain ⟨g1, g2⟩ := k.at hl
      rw [g1]
      simp only [VT.den]
      split at hv
      · exact ldT_eq g2 hv
      · cases hv
    · cases hv
  · exact hv
  · cases hv

noncomputable def vstoreT (P : Program) (h : HT) (t : TypeId) (p x : AV) : Option HT :=
  match p with
  | .ptr l i k => match h.t.get l with
    | some (.arr T sz n rows) => match rows.get i, x.cells, szOf P t with
      | some r, some cs, some m => if cs.length = m ∧ k + m ≤ r.length ∧ m ≠ 0 then some (h.set l (.arr T sz n (rows.set i (setCs r k cs)))) else none
      | _, _, _ => none
    | some (.big T n cells) => match x.cells, szOf P t with
      | some cs, some m => if cs.length = m ∧ k + m ≤ n ∧ m ≠ 0 ∧ i = 0 then some (h.set l (.big T n (if m = n then Br.ofL cs else cells.put k cs))) else none
      | _, _ => none
    | _ => none
  | _ => none
theorem vstoreT_eq {P : Program} {h h' : HT} (k : h.ok) {t : TypeId} {p x : AV} (hv : vstoreT P h t p x = some h') : h'.ok ∧ vstore P h.den t p x = some h'.den := by
  unfold vstoreT at hv
  unfold vstore
  split at hv
  · rename_i l i j
    dsimp only
    split at hv
    · rename_i T sz n rows hl
      obtain ⟨g1, g2⟩ := k.at hl
      split at hv
      · rename_i r cs m hr hc hm
        split at hv
        · rename_i hcond
          cases hv
          have hi : i < n := (g2 i).1 (by rw [hr]; rfl)
          obtain ⟨e1, e2⟩ := g2.set hi (setCs r j cs)
          obtain ⟨f1, f2⟩ := k.set (o := .arr T sz n (rows.set i (setCs r j cs))) hl e1
          refine ⟨f1, ?_⟩
          rw [g1]
          simp only [VT.den]
          rw [g2.toL_get, hr, hc, hm]
          simp only
          rw [if_pos hcond, f2]
          simp only [VT.den]
          rw [e2, setCs_eq _ _ _ (by omega)]
        · cases hv
      · cases hv
    · rename_i T n cells hl
      obtain ⟨g1, g2⟩ := k.at hl
      split at hv
      · rename_i cs m hc hm
        split at hv
        · rename_i hcond
          obtain ⟨c1, c2, c3, rfl⟩ := hcond
          cases hv
          have he : (if m = n then Br.ofL cs else cells.put j cs).ex n ∧ (if m = n then Br.ofL cs else cells.put j cs).toL n = (cells.toL n).take j ++ cs ++ (cells.toL n).drop (j + cs.length) := by
            split
            · rename_i hmn
              have hj : j = 0 := by omega
              subst hj
              obtain ⟨q1, q2⟩ := Br.ofL_ex cs
              rw [c1, hmn] at q1 q2
              refine ⟨q1, ?_⟩
              rw [q2, List.take_zero, List.drop_of_length_le (by rw [g2.len]; omega)]
              simp
            · exact g2.put (l := cs) (i := j) (by omega)
          obtain ⟨e1, e2⟩ := he
          obtain ⟨f1, f2⟩ := k.set (o := .big T n (if m = n then Br.ofL cs else cells.put j cs)) hl e1
          refine ⟨f1, ?_⟩
          rw [g1]
          simp only [VT.den, List.getElem?_cons_zero, hc, hm]
          rw [if_pos ⟨c1, by rw [g2.len]; exact c2, c3⟩, f2]
          simp only [VT.den, e2, setC, List.set_cons_zero]
        · cases hv
      · cases hv
    · cases hv
  · cases hv

noncomputable def vboxT (h : HT) (t : TypeId) (x : AV) : Option (AV × HT) :=
  match x.cells with
  | some cs => some (.ptr h.n 0 0, h.push (if cs.length ≤ 40 then .arr t cs.length 1 (Br.ofL [cs]) else .big t cs.length (Br.ofL cs)))
  | none => none
theorem one_ex {α : Type} (a : α) : (Br.ofL [a]).ex 1 ∧ (Br.ofL [a]).toL 1 = [a] := Br.ofL_ex [a]
theorem vboxT_eq {h h' : HT} (k : h.ok) {t : TypeId} {x v : AV} (hv : vboxT h t x = some (v, h')) : h'.ok ∧ vbox h.den t x = some (v, h'.den) := by
  unfold vboxT at hv
  unfold vbox
  split at hv
  · rename_i cs hc
    cases hv
    rw [hc]
    simp only
    split
    · obtain ⟨f1, f2⟩ := k.push (o := .arr t cs.length 1 (Br.ofL [cs])) (one_ex cs).1
      refine ⟨f1, ?_⟩
      rw [f2, k.len]
      simp only [VT.den, (one_ex cs).2]
    · obtain ⟨f1, f2⟩ := k.push (o := .big t cs.length (Br.ofL cs)) (Br.ofL_ex cs).1
      refine ⟨f1, ?_⟩
      rw [f2, k.len]
      simp only [VT.den, (Br.ofL_ex cs).2]
  · cases hv

/-! ### Slices -/
noncomputable def rowsOfT (h : HT) : AV → Option (List (List AV))
  | .nils => some []
  | .list _ rows => some rows
  | .row _ l i n => match h.t.get l with
    | some (.arr _ _ N rows) => if i + n ≤ N then some (rows.seg i n) else none
    | some (.frz _ N rows) => if i + n ≤ N then some (rows.seg i n) else none
    | _ => none
  | .sub l i k es n => match h.t.get l with
    | some (.arr _ _ _ rows) => match rows.get i with
      | some r => if k + n * es ≤ r.length then some (chunk es n (r.drop k)) else none
      | none => none
    | _ => none
  | _ => none
theorem rowsOfT_eq {h : HT} (k : h.ok) {x : AV} {rows : List (List AV)} (hv : rowsOfT h x = some rows) : rowsOf h.den x = some rows := by
  unfold rowsOfT at hv
  unfold rowsOf
  split at hv
  · exact hv
  · exact hv
  · rename_i tt l i n
    dsimp only
    split at hv
    · rename_i T sz N rs hl
      obtain ⟨g1, g2⟩ := k.at hl
      rw [g1]
      simp only [VT.den]
      split at hv
      · rename_i hc
        cases hv
        rw [if_pos (by rw [Br.ex.len g2]; exact hc), g2.seg hc]
      · cases hv
    · rename_i sz N rs hl
      obtain ⟨g1, g2⟩ := k.at hl
      rw [g1]
      simp only [VT.den]
      split at hv
      · rename_i hc
        cases hv
        rw [if_pos (by rw [Br.ex.len g2]; exact hc), g2.seg hc]
      · cases hv
    · cases hv
  · rename_i l i j es n
    dsimp only
    split at hv
    · rename_i T sz N rs hl
      obtain ⟨g1, g2⟩ := k.at hl
      rw [g1]
      simp only [VT.den]
      rw [g2.toL_get]
      exact hv
    · cases hv
  · cases hv
noncomputable def srcRowsT (h : HT) : AV → Option (List (List AV))
  | .str s => some (strRows s)
  | x => rowsOfT h x
theorem srcRowsT_eq {h : HT} (k : h.ok) {x : AV} {rows : List (List AV)} (hv : srcRowsT h x = some rows) : srcRows h.den x = some rows := by
  cases x with
  | row a b c d => exact rowsOfT_eq (x := .row a b c d) k hv
  | sub a b c d e => exact rowsOfT_eq (x := .sub a b c d e) k hv
  | _ => exact hv

noncomputable def objSz (h : HT) (l : Nat) : Option Nat := match h.t.get l with
  | some (.arr _ sz _ _) => some sz
  | some (.frz sz _ _) => some sz
  | some (.big _ n _) => some n
  | _ => none
noncomputable def vindexAddrT (P : Program) (h : HT) (t : TypeId) (x ix : AV) : Option AV :=
  match elemAt P t, ix with
  | some (none, _, sz), .int _ n => match x with
    | .row _ l i m => if 0 ≤ n ∧ n < m then match objSz h l with
        | some sz' => if sz' = sz then some (.ptr l (i + n.toNat) 0) else none
        | none => none
      else none
    | _ => vindexAddr P [] t x ix
  | _, _ => vindexAddr P [] t x ix
theorem vindexAddr_nil {P : Program} {t : TypeId} {x ix v : AV} (H : Hp) (h : vindexAddr P [] t x ix = some v) : vindexAddr P H t x ix = some v := by
  unfold vindexAddr at h ⊢
  split at h
  · split at h
    · exact h
    · split at h
      · simp at h
      · cases h
    · exact h
    · cases h
  · exact h
  · cases h
theorem vindexAddrT_eq {P : Program} {h : HT} (k : h.ok) {t : TypeId} {x ix v : AV} (hv : vindexAddrT P h t x ix = some v) : vindexAddr P h.den t x ix = some v := by
  unfold vindexAddrT at hv
  split at hv
  · rename_i e sz kk n he
    split at hv
    · rename_i tt l i m
      unfold vindexAddr
      rw [he]
      simp only
      split at hv
      · rename_i hn
        rw [if_pos hn]
        unfold objSz at hv
        cases hl : h.t.get l with
        | none => rw [hl] at hv; cases hv
        | some o =>
          rw [hl] at hv
          rw [(k.at hl).1]
          cases o <;> first | exact hv | cases hv
      · cases hv
    · exact vindexAddr_nil _ hv
  · exact vindexAddr_nil _ hv

noncomputable def vlenT (P : Program) (h : HT) (t : TypeId) (x : AV) : Option AV :=
  match x with
  | .mapr l => match P.underlying t with
    | some (.map _ _) => match h.t.get l with
      | some (.map es) => some (.int .i64 es.length)
      | _ => none
    | _ => none
  | _ => vlen P [] t x
theorem vlenT_eq {P : Program} {h : HT} (k : h.ok) {t : TypeId} {x v : AV} (hv : vlenT P h t x = some v) : vlen P h.den t x = some v := by
  unfold vlenT at hv
  split at hv
  · rename_i l
    split at hv
    · rename_i a b hu
      split at hv
      · rename_i es hl
        unfold vlen
        rw [hu]
        simp only
        rw [(k.at hl).1]
        exact hv
      · cases hv
    · cases hv
  · rename_i hm
    unfold vlen at hv ⊢
    split at hv <;> first | exact hv | cases hv

def rowN (hi : Option AV) (sz n i N : Nat) : Nat := if hi.isSome = true ∧ sz ≠ 0 then max n (N - i) else n
noncomputable def vsliceT (P : Program) (h : HT) (t : TypeId) (x : AV) (lo hi mx : Option AV) : Option AV :=
  match x with
  | .row tt l0 i n => match P.underlying t with
    | some (.slice e) => match szOf P e with
      | some sz => match h.t.get l0 with
        | some (.arr _ sz' N _) => match vbounds (rowN hi sz n i N) lo hi mx with
          | some (l, h, mo) => if sz' = sz then some (cutRow tt n (max n (rowN hi sz n i N)) l0 i l h mo) else none
          | none => none
        | some (.frz sz' _ _) => match vbounds n lo hi mx with
          | some (l, h, mo) => if sz' = sz then some (cutRow tt n n l0 i l h mo) else none
          | none => none
        | _ => none
      | none => none
    | _ => none
  | _ => vslice P [] t x lo hi mx
theorem vsliceT_eq {P : Program} {h : HT} (k : h.ok) {t : TypeId} {x v : AV} {lo hi mx : Option AV} (hv : vsliceT P h t x lo hi mx = some v) : vslice P h.den t x lo hi mx = some v := by
  unfold vsliceT at hv
  split at hv
  · rename_i tt l0 i n
    split at hv
    · rename_i e hu
      split at hv
      · rename_i sz hsz
        unfold vslice
        rw [hu]
        simp only
        rw [hsz]
        simp only
        split at hv
        · rename_i T sz' N rows hl
          obtain ⟨g1, g2⟩ := k.at hl
          rw [g1]
          simp only [VT.den]
          have e1 : rowR hi sz n i (rows.toL N) = rowN hi sz n i N := by unfold rowR rowN; rw [Br.ex.len g2]
          rw [e1]
          exact hv
        · rename_i sz' N rows hl
          obtain ⟨g1, g2⟩ := k.at hl
          rw [g1]
          exact hv
        · cases hv
      · cases hv
    · cases hv
  · rename_i hx
    unfold vslice at hv ⊢
    split at hv
    · exact hv
    · split at hv
      · cases hv
      · split at hv <;> first | exact hv | (exact absurd rfl (hx _ _ _ _)) | cases hv
    · split at hv <;> first | exact hv | cases hv
    · cases hv
end Go.Vi
