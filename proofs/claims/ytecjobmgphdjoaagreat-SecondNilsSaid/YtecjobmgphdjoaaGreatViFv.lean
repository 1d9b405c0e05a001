/- Vi, part Fv: what a value is, seen at once. -/
import Derived.Test.YtecjobmgphdjoaaGreatViFf
set_option autoImplicit false
set_option linter.unusedVariables false
set_option linter.unusedSimpArgs false
namespace Go.Vi
inductive IV where
  | no
  | int (k : IntKind) (n : Int)
inductive BV where
  | no
  | tt
  | ff
  | sk
inductive PV where
  | no
  | ptr (l i k : Nat)
  | ip (b : Bool) (cs : List AV)
inductive RV where
  | no
  | row (t : Bool) (l i n : Nat)
  | list (t : Tg) (rows : List (List AV))
  | nil
inductive CV where
  | no
  | agg (cs : List AV)
  | one
inductive ClV where
  | no
  | clo (f : Nat) (cs : List AV)
inductive TV where
  | no
  | tup (vs : List AV)
noncomputable def iv (v : AV) : IV :=
  AV.rec (motive_1 := fun _ => IV) (motive_2 := fun _ => Unit) (motive_3 := fun _ => Unit) (.no) (fun k n => .int k n) (fun _ => .no) (fun _ => .no) (.no) (fun _ _ _ => .no) (fun _ _ _ => .no) (.no) (fun _ _ _ => .no) (fun _ _ _ _ => .no) (fun _ _ _ _ _ => .no) (fun _ _ => .no) (fun _ _ => .no) (fun _ _ _ => .no) (.no) (.no) (fun _ => .no) (fun _ _ _ => .no) (.no) () (fun _ _ _ _ => ()) () (fun _ _ _ _ => ()) v
noncomputable def bv (v : AV) : BV :=
  AV.rec (motive_1 := fun _ => BV) (motive_2 := fun _ => Unit) (motive_3 := fun _ => Unit) (.no) (fun _ _ => .no) (fun b => Bool.rec (motive := fun _ => BV) .ff .tt b) (fun _ => .no) (.no) (fun _ _ _ => .no) (fun _ _ _ => .no) (.no) (fun _ _ _ => .no) (fun _ _ _ _ => .no) (fun _ _ _ _ _ => .no) (fun _ _ => .no) (fun c _ => List.rec (motive := fun _ => BV) .sk (fun _ _ _ => .no) c) (fun _ _ _ => .no) (.no) (.no) (fun _ => .no) (fun _ _ _ => .no) (.no) () (fun _ _ _ _ => ()) () (fun _ _ _ _ => ()) v
noncomputable def pv (v : AV) : PV :=
  AV.rec (motive_1 := fun _ => PV) (motive_2 := fun _ => Unit) (motive_3 := fun _ => Unit) (.no) (fun _ _ => .no) (fun _ => .no) (fun _ => .no) (.no) (fun l i k => .ptr l i k) (fun b c _ => .ip b c) (.no) (fun _ _ _ => .no) (fun _ _ _ _ => .no) (fun _ _ _ _ _ => .no) (fun _ _ => .no) (fun _ _ => .no) (fun _ _ _ => .no) (.no) (.no) (fun _ => .no) (fun _ _ _ => .no) (.no) () (fun _ _ _ _ => ()) () (fun _ _ _ _ => ()) v
noncomputable def rv (v : AV) : RV :=
  AV.rec (motive_1 := fun _ => RV) (motive_2 := fun _ => Unit) (motive_3 := fun _ => Unit) (.no) (fun _ _ => .no) (fun _ => .no) (fun _ => .no) (.no) (fun _ _ _ => .no) (fun _ _ _ => .no) (.nil) (fun t r _ => .list t r) (fun t l i n => .row t l i n) (fun _ _ _ _ _ => .no) (fun _ _ => .no) (fun _ _ => .no) (fun _ _ _ => .no) (.no) (.no) (fun _ => .no) (fun _ _ _ => .no) (.no) () (fun _ _ _ _ => ()) () (fun _ _ _ _ => ()) v
noncomputable def cv (v : AV) : CV :=
  AV.rec (motive_1 := fun _ => CV) (motive_2 := fun _ => Unit) (motive_3 := fun _ => Unit) (.no) (fun _ _ => .one) (fun _ => .one) (fun _ => .one) (.one) (fun _ _ _ => .one) (fun _ _ _ => .one) (.one) (fun _ _ _ => .one) (fun _ _ _ _ => .one) (fun _ _ _ _ _ => .one) (fun c _ => .agg c) (fun c _ => .no) (fun _ _ _ => .one) (.one) (.one) (fun _ => .one) (fun _ _ _ => .one) (.one) () (fun _ _ _ _ => ()) () (fun _ _ _ _ => ()) v
noncomputable def clv (v : AV) : ClV :=
  AV.rec (motive_1 := fun _ => ClV) (motive_2 := fun _ => Unit) (motive_3 := fun _ => Unit) (.no) (fun _ _ => .no) (fun _ => .no) (fun _ => .no) (.no) (fun _ _ _ => .no) (fun _ _ _ => .no) (.no) (fun _ _ _ => .no) (fun _ _ _ _ => .no) (fun _ _ _ _ _ => .no) (fun _ _ => .no) (fun _ _ => .no) (fun f c _ => .clo f c) (.no) (.no) (fun _ => .no) (fun _ _ _ => .no) (.no) () (fun _ _ _ _ => ()) () (fun _ _ _ _ => ()) v
noncomputable def tv (v : AV) : TV :=
  AV.rec (motive_1 := fun _ => TV) (motive_2 := fun _ => Unit) (motive_3 := fun _ => Unit) (.no) (fun _ _ => .no) (fun _ => .no) (fun _ => .no) (.no) (fun _ _ _ => .no) (fun _ _ _ => .no) (.no) (fun _ _ _ => .no) (fun _ _ _ _ => .no) (fun _ _ _ _ _ => .no) (fun _ _ => .no) (fun c _ => .tup c) (fun _ _ _ => .no) (.no) (.no) (fun _ => .no) (fun _ _ _ => .no) (.no) () (fun _ _ _ _ => ()) () (fun _ _ _ _ => ()) v
noncomputable def nnv (v : AV) : Bool :=
  AV.rec (motive_1 := fun _ => Bool) (motive_2 := fun _ => Unit) (motive_3 := fun _ => Unit) (false) (fun _ _ => false) (fun _ => false) (fun _ => false) (false) (fun l i k => true) (fun b c _ => true) (false) (fun t r _ => true) (fun t l i n => true) (fun _ _ _ _ _ => false) (fun _ _ => false) (fun _ _ => false) (fun f c _ => true) (false) (false) (fun l => true) (fun t v _ => true) (false) () (fun _ _ _ _ => ()) () (fun _ _ _ _ => ()) v

theorem iv_int {v : AV} {k : IntKind} {n : Int} (h : iv v = .int k n) : v = .int k n := by cases v <;> cases h; rfl
theorem bv_tt {v : AV} (h : bv v = .tt) : v = .bool true := by
  cases v with
  | bool b => cases b <;> first | rfl | cases h
  | tup vs => cases vs <;> cases h
  | _ => cases h
theorem bv_ff {v : AV} (h : bv v = .ff) : v = .bool false := by
  cases v with
  | bool b => cases b <;> first | rfl | cases h
  | tup vs => cases vs <;> cases h
  | _ => cases h
theorem bv_sk {v : AV} (h : bv v = .sk) : v = .tup [] := by
  cases v with
  | bool b => cases b <;> cases h
  | tup vs => cases vs <;> first | rfl | cases h
  | _ => cases h
theorem pv_ptr {v : AV} {l i k : Nat} (h : pv v = .ptr l i k) : v = .ptr l i k := by cases v <;> cases h; rfl
theorem pv_ip {v : AV} {b : Bool} {cs : List AV} (h : pv v = .ip b cs) : v = .iptr b cs := by cases v <;> cases h; rfl
theorem rv_row {v : AV} {t : Bool} {l i n : Nat} (h : rv v = .row t l i n) : v = .row t l i n := by cases v <;> cases h; rfl
theorem rv_list {v : AV} {t : Tg} {rows : List (List AV)} (h : rv v = .list t rows) : v = .list t rows := by cases v <;> cases h; rfl
theorem rv_nil {v : AV} (h : rv v = .nil) : v = .nils := by cases v <;> cases h; rfl
theorem cv_agg {v : AV} {cs : List AV} (h : cv v = .agg cs) : v.cells = some cs := by cases v <;> cases h; rfl
theorem cv_one {v : AV} (h : cv v = .one) : v.cells = some [v] := by cases v <;> first | rfl | cases h
theorem clv_clo {v : AV} {f : Nat} {cs : List AV} (h : clv v = .clo f cs) : v = .clo f cs := by cases v <;> cases h; rfl
theorem tv_tup {v : AV} {cs : List AV} (h : tv v = .tup cs) : v = .tup cs := by cases v <;> cases h; rfl
theorem nnv_eq (v : AV) : nnv v = v.notNil := by cases v <;> rfl

/-! ### Lists, step by step -/
noncomputable def nthL {α : Type} (l : List α) : Nat → Option α :=
  List.rec (motive := fun _ => Nat → Option α) (fun _ => none) (fun a _ ih n => Nat.rec (motive := fun _ => Option α) (some a) (fun m _ => ih m) n) l
theorem nthL_eq {α : Type} : ∀ (l : List α) (n : Nat), nthL l n = l[n]?
  | [], n => rfl
  | a :: r, 0 => rfl
  | a :: r, n + 1 => (nthL_eq r n).trans (List.getElem?_cons_succ).symm
noncomputable def lenL {α : Type} (l : List α) : Nat := List.rec (motive := fun _ => Nat) 0 (fun _ _ ih => Nat.succ ih) l
theorem lenL_eq {α : Type} : ∀ (l : List α), lenL l = l.length
  | [] => rfl
  | a :: r => congrArg Nat.succ (lenL_eq r)
noncomputable def takeL {α : Type} (n : Nat) : List α → List α :=
  Nat.rec (motive := fun _ => List α → List α) (fun _ => []) (fun _ ih l => List.rec (motive := fun _ => List α) [] (fun a r _ => a :: ih r) l) n
theorem takeL_eq {α : Type} : ∀ (n : Nat) (l : List α), takeL n l = l.take n
  | 0, l => by cases l <;> rfl
  | n + 1, [] => rfl
  | n + 1, a :: r => congrArg (a :: ·) (takeL_eq n r)
/-- Cells laid over a row's. -/
noncomputable def layL (l : List AV) : Nat → List AV → List AV :=
  List.rec (motive := fun _ => Nat → List AV → List AV) (fun _ _ => [])
    (fun a r ih k cs => Nat.rec (motive := fun _ => List AV) (List.rec (motive := fun _ => List AV) (a :: r) (fun c cs' _ => c :: ih 0 cs') cs) (fun m _ => a :: ih m cs) k) l
theorem layL_eq : ∀ (l : List AV) (k : Nat) (cs : List AV), layL l k cs = setCs l k cs
  | [], k, cs => rfl
  | a :: r, 0, [] => rfl
  | a :: r, 0, c :: cs => congrArg (c :: ·) (layL_eq r 0 cs)
  | a :: r, k + 1, cs => congrArg (a :: ·) (layL_eq r k cs)

/-! ### What is read of a type -/
inductive LK where
  | no
  | one
  | agg (m : Nat)
def ldKind (P : Program) (t : TypeId) : LK :=
  match aggOf P t, szOf P t with
  | some true, some m => .agg m
  | some false, _ => .one
  | _, _ => .no
noncomputable def ldRow (r : List AV) (k : Nat) (K : LK) : Option AV :=
  LK.rec (motive := fun _ => Option AV) none (nthL r k) (fun m => Bool.rec (motive := fun _ => Option AV) none (some (.agg (takeL m (dropR r k)))) (Nat.ble m (lenL (dropR r k)))) K
theorem ldRow_eq {P : Program} {t : TypeId} {r : List AV} {k : Nat} {v : AV} (h : ldRow r k (ldKind P t) = some v) : ldCells P t (r.drop k) = some v := by
  unfold ldKind at h
  unfold ldCells
  split at h
  · rename_i m ha hm
    rw [ha, hm]
    simp only
    have h : Bool.rec (motive := fun _ => Option AV) none (some (.agg (takeL m (dropR r k)))) (Nat.ble m (lenL (dropR r k))) = some v := h
    rw [lenL_eq, takeL_eq, dropR_eq] at h
    cases hb : Nat.ble m (r.drop k).length with
    | false => rw [hb] at h; cases h
    | true => rw [hb] at h; rw [if_pos (Nat.le_of_ble_eq_true hb)]; exact h
  · rename_i ha
    rw [ha]
    simp only
    have h : nthL r k = some v := h
    rw [nthL_eq] at h
    rw [List.getElem?_drop]
    exact h
  · cases h
noncomputable def ldBig (n : Nat) (cs : Br AV) (k : Nat) (K : LK) : Option AV :=
  LK.rec (motive := fun _ => Option AV) none (cs.get k) (fun m => Bool.rec (motive := fun _ => Option AV) none (some (.agg (cs.seg k m))) (Nat.ble (Nat.add k m) n)) K
theorem ldBig_eq {P : Program} {t : TypeId} {n k : Nat} {cs : Br AV} {v : AV} (h : ldBig n cs k (ldKind P t) = some v) : ldT P t n cs k = some v := by
  unfold ldKind at h
  unfold ldT
  split at h
  · rename_i m ha hm
    rw [ha, hm]
    simp only
    have h : Bool.rec (motive := fun _ => Option AV) none (some (.agg (cs.seg k m))) (Nat.ble (k + m) n) = some v := h
    cases hb : Nat.ble (k + m) n with
    | false => rw [hb] at h; cases h
    | true => rw [hb] at h; rw [if_pos (Nat.le_of_ble_eq_true hb)]; exact h
  · rename_i ha
    rw [ha]
    exact h
  · cases h
noncomputable def ldObj (K : LK) (i k : Nat) (o : VT) : Option AV :=
  VT.rec (motive := fun _ => Option AV) (fun _ _ _ rows => Option.rec (motive := fun _ => Option AV) none (fun r => ldRow r k K) (rows.get i))
    (fun _ n cs => Nat.rec (motive := fun _ => Option AV) (ldBig n cs k K) (fun _ _ => none) i)
    (fun _ _ rows => Option.rec (motive := fun _ => Option AV) none (fun r => ldRow r k K) (rows.get i)) (fun _ => none) (fun _ _ _ => none) (fun _ _ => none) none o
noncomputable def loadQ (P : Program) (h : HT) (t : TypeId) (p : AV) : Option AV :=
  PV.rec (motive := fun _ => Option AV) none (fun l i k => Option.rec (motive := fun _ => Option AV) none (ldObj (ldKind P t) i k) (h.t.get l)) (fun _ cs => ldRow cs 0 (ldKind P t)) (pv p)
theorem loadQ_eq {P : Program} {h : HT} {t : TypeId} {p v : AV} (hv : loadQ P h t p = some v) : vloadT P h t p = some v := by
  unfold loadQ at hv
  cases hp : pv p with
  | no => rw [hp] at hv; cases hv
  | ptr l i k =>
    rw [hp] at hv
    rw [pv_ptr hp]
    unfold vloadT
    simp only
    have hv : Option.rec (motive := fun _ => Option AV) none (ldObj (ldKind P t) i k) (h.t.get l) = some v := hv
    have rowc : ∀ (rows : Br (List AV)), Option.rec (motive := fun _ => Option AV) none (fun r => ldRow r k (ldKind P t)) (rows.get i) = some v → (match rows.get i with | some r => ldCells P t (r.drop k) | none => none) = some v := fun rows hr => by
      cases hg : rows.get i with
      | none => rw [hg] at hr; cases hr
      | some r => rw [hg] at hr; exact ldRow_eq hr
    cases hl : h.t.get l with
    | none => rw [hl] at hv; cases hv
    | some o =>
      rw [hl] at hv
      cases o with
      | arr T sz n rows => exact rowc rows hv
      | frz sz n rows => exact rowc rows hv
      | big T n cs =>
        cases i with
        | zero => exact ldBig_eq hv
        | succ i => cases hv
      | map es => cases hv
      | iter a b c => cases hv
      | one _ _ => cases hv
      | dead => cases hv
  | ip b cs =>
    rw [hp] at hv
    rw [pv_ip hp]
    unfold vloadT
    simp only
    have := ldRow_eq (P := P) (t := t) (r := cs) (k := 0) hv
    simpa using this

/-- One cell stored; several. -/
noncomputable def stRow (r : List AV) (k : Nat) (v : AV) (m : Nat) (C : CV) : Option (List AV) :=
  CV.rec (motive := fun _ => Option (List AV)) none
    (fun cs => Bool.rec (motive := fun _ => Option (List AV)) none (Bool.rec (motive := fun _ => Option (List AV)) none (some (layL r k cs)) (Nat.ble (Nat.add k m) (lenL r))) (and (Nat.beq (lenL cs) m) (Nat.blt 0 m)))
    (Bool.rec (motive := fun _ => Option (List AV)) none (Bool.rec (motive := fun _ => Option (List AV)) none (some (layL r k [v])) (Nat.blt k (lenL r))) (Nat.beq m 1)) C
theorem stRow_eq {r : List AV} {k m : Nat} {v : AV} {r' : List AV} (h : stRow r k v m (cv v) = some r') : ∃ cs, v.cells = some cs ∧ (cs.length = m ∧ k + m ≤ r.length ∧ m ≠ 0) ∧ r' = setCs r k cs := by
  unfold stRow at h
  cases hc : cv v with
  | no => rw [hc] at h; cases h
  | agg cs =>
    rw [hc] at h
    have h : Bool.rec (motive := fun _ => Option (List AV)) none (Bool.rec (motive := fun _ => Option (List AV)) none (some (layL r k cs)) (Nat.ble (Nat.add k m) (lenL r))) (and (Nat.beq (lenL cs) m) (Nat.blt 0 m)) = some r' := h
    cases h1 : and (Nat.beq (lenL cs) m) (Nat.blt 0 m) with
    | false => rw [h1] at h; cases h
    | true =>
      rw [h1] at h
      have h : Bool.rec (motive := fun _ => Option (List AV)) none (some (layL r k cs)) (Nat.ble (Nat.add k m) (lenL r)) = some r' := h
      cases h2 : Nat.ble (Nat.add k m) (lenL r) with
      | false => rw [h2] at h; cases h
      | true =>
        rw [h2] at h
        cases h
        have h1 : (Nat.beq (lenL cs) m && Nat.blt 0 m) = true := h1
        rw [Bool.and_eq_true] at h1
        have a1 := Nat.eq_of_beq_eq_true h1.1
        have a2 : 0 < m := Nat.blt_eq.mp h1.2
        have a3 := Nat.le_of_ble_eq_true h2
        rw [lenL_eq] at a1 a3
        exact ⟨cs, cv_agg hc, ⟨a1, a3, by omega⟩, layL_eq _ _ _⟩
  | one =>
    rw [hc] at h
    have h : Bool.rec (motive := fun _ => Option (List AV)) none (Bool.rec (motive := fun _ => Option (List AV)) none (some (layL r k [v])) (Nat.blt k (lenL r))) (Nat.beq m 1) = some r' := h
    cases h1 : Nat.beq m 1 with
    | false => rw [h1] at h; cases h
    | true =>
      rw [h1] at h
      have h : Bool.rec (motive := fun _ => Option (List AV)) none (some (layL r k [v])) (Nat.blt k (lenL r)) = some r' := h
      cases h2 : Nat.blt k (lenL r) with
      | false => rw [h2] at h; cases h
      | true =>
        rw [h2] at h
        cases h
        have a1 := Nat.eq_of_beq_eq_true h1
        have a3 : k < lenL r := Nat.blt_eq.mp h2
        rw [lenL_eq] at a3
        exact ⟨[v], cv_one hc, ⟨by simp [a1], by omega, by omega⟩, layL_eq _ _ _⟩
noncomputable def stObj (P : Program) (h : HT) (t : TypeId) (l i k : Nat) (x : AV) (o : VT) : Option HT :=
  VT.rec (motive := fun _ => Option HT)
    (fun T sz n rows => Option.rec (motive := fun _ => Option HT) none (fun r => Option.rec (motive := fun _ => Option HT) none (fun m => Option.rec (motive := fun _ => Option HT) none (fun r' => some (h.set l (.arr T sz n (rows.set i r')))) (stRow r k x m (cv x))) (szOf P t)) (rows.get i))
    (fun _ _ _ => vstoreT P h t (.ptr l i k) x) (fun _ _ _ => none) (fun _ => none) (fun _ _ _ => none) (fun _ _ => none) none o
noncomputable def storeQ (P : Program) (h : HT) (t : TypeId) (p x : AV) : Option HT :=
  PV.rec (motive := fun _ => Option HT) none (fun l i k => Option.rec (motive := fun _ => Option HT) none (stObj P h t l i k x) (h.t.get l)) (fun _ _ => none) (pv p)
theorem storeQ_eq {P : Program} {h h' : HT} {t : TypeId} {p x : AV} (hv : storeQ P h t p x = some h') : vstoreT P h t p x = some h' := by
  unfold storeQ at hv
  cases hp : pv p with
  | no => rw [hp] at hv; cases hv
  | ip b cs => rw [hp] at hv; cases hv
  | ptr l i k =>
    rw [hp] at hv
    rw [pv_ptr hp]
    have hv : Option.rec (motive := fun _ => Option HT) none (stObj P h t l i k x) (h.t.get l) = some h' := hv
    cases hl : h.t.get l with
    | none => rw [hl] at hv; cases hv
    | some o =>
      rw [hl] at hv
      cases o with
      | arr T sz n rows =>
        unfold vstoreT
        simp only [hl]
        have hv : Option.rec (motive := fun _ => Option HT) none (fun r => Option.rec (motive := fun _ => Option HT) none (fun m => Option.rec (motive := fun _ => Option HT) none (fun r' => some (h.set l (.arr T sz n (rows.set i r')))) (stRow r k x m (cv x))) (szOf P t)) (rows.get i) = some h' := hv
        cases hr : rows.get i with
        | none => rw [hr] at hv; cases hv
        | some r =>
          rw [hr] at hv
          have hv : Option.rec (motive := fun _ => Option HT) none (fun m => Option.rec (motive := fun _ => Option HT) none (fun r' => some (h.set l (.arr T sz n (rows.set i r')))) (stRow r k x m (cv x))) (szOf P t) = some h' := hv
          cases hm : szOf P t with
          | none => rw [hm] at hv; cases hv
          | some m =>
            rw [hm] at hv
            have hv : Option.rec (motive := fun _ => Option HT) none (fun r' => some (h.set l (.arr T sz n (rows.set i r')))) (stRow r k x m (cv x)) = some h' := hv
            cases hs : stRow r k x m (cv x) with
            | none => rw [hs] at hv; cases hv
            | some r' =>
              rw [hs] at hv
              obtain ⟨cs, c1, c2, rfl⟩ := stRow_eq hs
              simp only [c1]
              rw [if_pos c2]
              exact hv
      | big T n cs => exact hv
      | frz sz n rows => cases hv
      | map es => cases hv
      | iter a b c => cases hv
      | one _ _ => cases hv
      | dead => cases hv

def fieldOff (P : Program) (s : TypeId) (f : Nat) : Option Nat :=
  match fieldAt P s f with
  | some (off, _, n) => if n = 0 then none else some off
  | none => none
noncomputable def fieldQ (P : Program) (s : TypeId) (f : Nat) (x : AV) : Option AV :=
  Option.rec (motive := fun _ => Option AV) none (fun off => PV.rec (motive := fun _ => Option AV) none (fun l i k => some (.ptr l i (Nat.add k off))) (fun b cs => some (.iptr b (dropR cs off))) (pv x)) (fieldOff P s f)
theorem fieldQ_eq {P : Program} {s : TypeId} {f : Nat} {x v : AV} (h : fieldQ P s f x = some v) : vfield P s f x = some v := by
  unfold fieldQ fieldOff at h
  unfold vfield
  cases hf : fieldAt P s f with
  | none => rw [hf] at h; cases h
  | some p =>
    obtain ⟨off, ft, n⟩ := p
    rw [hf] at h
    simp only at h ⊢
    split at h
    · cases h
    · rename_i hn
      rw [if_neg hn]
      have h : PV.rec (motive := fun _ => Option AV) none (fun l i k => some (.ptr l i (Nat.add k off))) (fun b cs => some (.iptr b (dropR cs off))) (pv x) = some v := h
      cases hp : pv x with
      | no => rw [hp] at h; cases h
      | ptr l i k => rw [hp] at h; rw [pv_ptr hp]; exact h
      | ip b cs =>
        rw [hp] at h
        rw [pv_ip hp]
        have h : some (AV.iptr b (dropR cs off)) = some v := h
        rw [dropR_eq] at h
        exact h

/-- An element of a row that may be written. -/
noncomputable def idxRow (h : HT) (sz l i m : Nat) (n : Int) : Option AV :=
  Int.rec (motive := fun _ => Option AV) (fun q => Bool.rec (motive := fun _ => Option AV) none
    (Option.rec (motive := fun _ => Option AV) none (fun sz' => Bool.rec (motive := fun _ => Option AV) none (some (.ptr l (Nat.add i q) 0)) (Nat.beq sz' sz)) (objSz h l)) (Nat.blt q m)) (fun _ => none) n
noncomputable def indexQ (P : Program) (h : HT) (t : TypeId) (x ix : AV) : Option AV :=
  match elemAt P t with
  | some (none, _, sz) => RV.rec (motive := fun _ => Option AV) (vindexAddrT P h t x ix)
      (fun _ l i m => IV.rec (motive := fun _ => Option AV) none (fun _ n => idxRow h sz l i m n) (iv ix)) (fun _ _ => vindexAddrT P h t x ix) (vindexAddrT P h t x ix) (rv x)
  | _ => vindexAddrT P h t x ix
theorem indexQ_eq {P : Program} {h : HT} {t : TypeId} {x ix v : AV} (hv : indexQ P h t x ix = some v) : vindexAddrT P h t x ix = some v := by
  unfold indexQ at hv
  split at hv
  · rename_i e sz he
    cases hr : rv x with
    | no => rw [hr] at hv; exact hv
    | list a b => rw [hr] at hv; exact hv
    | nil => rw [hr] at hv; exact hv
    | row tt l i m =>
      rw [hr] at hv
      rw [rv_row hr]
      have hv : IV.rec (motive := fun _ => Option AV) none (fun _ n => idxRow h sz l i m n) (iv ix) = some v := hv
      cases hi : iv ix with
      | no => rw [hi] at hv; cases hv
      | int k n =>
        rw [hi] at hv
        rw [iv_int hi]
        unfold vindexAddrT
        simp only [he]
        have hv : idxRow h sz l i m n = some v := hv
        cases n with
        | negSucc q => cases hv
        | ofNat q =>
          have hv : Bool.rec (motive := fun _ => Option AV) none
            (Option.rec (motive := fun _ => Option AV) none (fun sz' => Bool.rec (motive := fun _ => Option AV) none (some (.ptr l (Nat.add i q) 0)) (Nat.beq sz' sz)) (objSz h l)) (Nat.blt q m) = some v := hv
          cases hb : Nat.blt q m with
          | false => rw [hb] at hv; cases hv
          | true =>
            rw [hb] at hv
            have hq : q < m := Nat.blt_eq.mp hb
            rw [if_pos ⟨by show (0 : Int) ≤ (q : Int); omega, by show (q : Int) < (m : Int); omega⟩]
            have hv : Option.rec (motive := fun _ => Option AV) none (fun sz' => Bool.rec (motive := fun _ => Option AV) none (some (.ptr l (Nat.add i q) 0)) (Nat.beq sz' sz)) (objSz h l) = some v := hv
            cases ho : objSz h l with
            | none => rw [ho] at hv; cases hv
            | some sz' =>
              rw [ho] at hv
              have hv : Bool.rec (motive := fun _ => Option AV) none (some (.ptr l (Nat.add i q) 0)) (Nat.beq sz' sz) = some v := hv
              simp only
              cases hz : Nat.beq sz' sz with
              | false => rw [hz] at hv; cases hv
              | true =>
                rw [hz] at hv
                rw [if_pos (Nat.eq_of_beq_eq_true hz)]
                exact hv
  · exact hv

def isSl (P : Program) (t : TypeId) : Bool :=
  match P.underlying t with
  | some (.slice _) => true
  | _ => false
noncomputable def lenQ (P : Program) (h : HT) (t : TypeId) (x : AV) : Option AV :=
  Bool.rec (motive := fun _ => Option AV) (vlenT P h t x)
    (RV.rec (motive := fun _ => Option AV) (vlenT P h t x) (fun _ _ _ n => some (.int .i64 (Int.ofNat n))) (fun _ rows => some (.int .i64 (Int.ofNat (lenL rows)))) (some (.int .i64 (Int.ofNat 0))) (rv x)) (isSl P t)
theorem lenQ_eq {P : Program} {h : HT} {t : TypeId} {x v : AV} (hv : lenQ P h t x = some v) : vlenT P h t x = some v := by
  unfold lenQ at hv
  cases hs : isSl P t with
  | false => rw [hs] at hv; exact hv
  | true =>
    rw [hs] at hv
    have hu : ∃ e, P.underlying t = some (.slice e) := by
      unfold isSl at hs
      split at hs
      · rename_i e he; exact ⟨e, he⟩
      · cases hs
    obtain ⟨e, he⟩ := hu
    have hv : RV.rec (motive := fun _ => Option AV) (vlenT P h t x) (fun _ _ _ n => some (.int .i64 (Int.ofNat n))) (fun _ rows => some (.int .i64 (Int.ofNat (lenL rows)))) (some (.int .i64 (Int.ofNat 0))) (rv x) = some v := hv
    cases hr : rv x with
    | no => rw [hr] at hv; exact hv
    | row tt l i n => rw [hr] at hv; rw [rv_row hr]; unfold vlenT vlen; simp only [he]; exact hv
    | list a rows =>
      rw [hr] at hv
      have hv : some (AV.int .i64 (Int.ofNat (lenL rows))) = some v := hv
      rw [lenL_eq] at hv
      rw [rv_list hr]; unfold vlenT vlen; simp only [he]; exact hv
    | nil => rw [hr] at hv; rw [rv_nil hr]; unfold vlenT vlen; simp only [he]; exact hv
noncomputable def extractQ (x : AV) (i : Nat) : Option AV := TV.rec (motive := fun _ => Option AV) none (fun vs => nthL vs i) (tv x)
theorem extractQ_eq {x v : AV} {i : Nat} (h : extractQ x i = some v) : vextract x i = some v := by
  unfold extractQ at h
  cases ht : tv x with
  | no => rw [ht] at h; cases h
  | tup vs =>
    rw [ht] at h
    rw [tv_tup ht]
    have h : nthL vs i = some v := h
    rw [nthL_eq] at h
    exact h
end Go.Vi
