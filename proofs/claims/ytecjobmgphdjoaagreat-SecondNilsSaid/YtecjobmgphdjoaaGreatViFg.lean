/- Vi, part Fg: the same, laid out so that it is computed fast: first the kind of thing, then its few words. -/
import Derived.Test.YtecjobmgphdjoaaGreatViFv
set_option autoImplicit false
set_option linter.unusedVariables false
set_option linter.unusedSimpArgs false
namespace Go.Vi

structure Cf where
  P : Program
  G : Glob
  n : Nat

abbrev OpF := Cf → FRec → Br AV → HT → Option (AV × HT)

noncomputable def ev1 (c : Cf) (env : Br AV) (o : Operand) : Option AV :=
  Operand.rec (motive := fun _ => Option AV) (fun t => env.get t) (fun V => ofV V) (fun g => (c.G g).map (.iptr false)) (fun f => some (.clo f [])) o
theorem ev1_eq (c : Cf) (env : Br AV) (o : Operand) : ev1 c env o = fev c.G env o := by cases o <;> rfl
noncomputable def keep (h : HT) (x : Option AV) : Option (AV × HT) := Option.rec (motive := fun _ => Option (AV × HT)) none (fun v => some (v, h)) x
theorem keep_eq (h : HT) (x : Option AV) : keep h x = x.map (·, h) := by cases x <;> rfl
noncomputable def with1 (c : Cf) (env : Br AV) (x : Operand) (k : AV → Option (AV × HT)) : Option (AV × HT) := Option.rec (motive := fun _ => Option (AV × HT)) none k (ev1 c env x)
noncomputable def with2 (c : Cf) (env : Br AV) (x y : Operand) (k : AV → AV → Option (AV × HT)) : Option (AV × HT) := with1 c env x fun a => with1 c env y fun b => k a b
theorem with1_eq (c : Cf) (env : Br AV) (x : Operand) (k : AV → Option (AV × HT)) : with1 c env x k = match fev c.G env x with | some a => k a | none => none := by
  unfold with1
  rw [ev1_eq]
  cases fev c.G env x <;> rfl
theorem with2_eq (c : Cf) (env : Br AV) (x y : Operand) (k : AV → AV → Option (AV × HT)) : with2 c env x y k = match fev c.G env x, fev c.G env y with | some a, some b => k a b | _, _ => none := by
  unfold with2
  rw [with1_eq]
  cases fev c.G env x with
  | none => rfl
  | some a =>
    simp only
    rw [with1_eq]
    cases fev c.G env y <;> rfl
noncomputable def evs1 (c : Cf) (env : Br AV) (l : List Operand) : Option (List AV) :=
  List.rec (motive := fun _ => Option (List AV)) (some []) (fun o _ ih => Option.rec (motive := fun _ => Option (List AV)) none (fun x => Option.rec (motive := fun _ => Option (List AV)) none (fun xs => some (x :: xs)) ih) (ev1 c env o)) l
theorem evs1_eq (c : Cf) (env : Br AV) : ∀ (l : List Operand), evs1 c env l = evL (fev c.G env) l
  | [] => rfl
  | o :: r => by
    have ih := evs1_eq c env r
    show Option.rec (motive := fun _ => Option (List AV)) none (fun x => Option.rec (motive := fun _ => Option (List AV)) none (fun xs => some (x :: xs)) (evs1 c env r)) (ev1 c env o) = _
    rw [ih, ev1_eq, show evL (fev c.G env) (o :: r) = (match fev c.G env o, evL (fev c.G env) r with | some x, some xs => some (x :: xs) | _, _ => none) from rfl]
    cases fev c.G env o with
    | none => rfl
    | some x => cases evL (fev c.G env) r <;> rfl

/-! ### Numbers -/
noncomputable def ltN (a b : Int) : Bool :=
  Int.rec (motive := fun _ => Bool) (fun m => Int.rec (motive := fun _ => Bool) (fun n => Nat.blt m n) (fun _ => false) b)
    (fun m => Int.rec (motive := fun _ => Bool) (fun _ => true) (fun n => Nat.blt n m) b) a
theorem ltN_eq (a b : Int) : ltN a b = decide (a < b) := by
  cases a with
  | ofNat m => cases b with
    | ofNat n =>
      show Nat.blt m n = _
      rw [Bool.eq_iff_iff, Nat.blt_eq, decide_eq_true_eq]
      exact Int.ofNat_lt.symm
    | negSucc n =>
      show false = _
      rw [eq_comm, decide_eq_false_iff_not]
      change ¬ (m : Int) < _
      omega
  | negSucc m => cases b with
    | ofNat n =>
      show true = _
      rw [eq_comm, decide_eq_true_eq]
      change _ < (n : Int)
      omega
    | negSucc n =>
      show Nat.blt n m = _
      rw [Bool.eq_iff_iff, Nat.blt_eq, decide_eq_true_eq]
      omega
noncomputable def eqN (a b : Int) : Bool :=
  Int.rec (motive := fun _ => Bool) (fun m => Int.rec (motive := fun _ => Bool) (fun n => Nat.beq m n) (fun _ => false) b)
    (fun m => Int.rec (motive := fun _ => Bool) (fun _ => false) (fun n => Nat.beq m n) b) a
theorem eqN_eq (a b : Int) : eqN a b = (a == b) := by
  cases a with
  | ofNat m => cases b with
    | ofNat n =>
      show Nat.beq m n = _
      rw [Bool.eq_iff_iff, Nat.beq_eq, beq_iff_eq]
      exact Int.ofNat_inj.symm
    | negSucc n =>
      show false = _
      rw [eq_comm, beq_eq_false_iff_ne]
      intro h; cases h
  | negSucc m => cases b with
    | ofNat n =>
      show false = _
      rw [eq_comm, beq_eq_false_iff_ne]
      intro h; cases h
    | negSucc n =>
      show Nat.beq m n = _
      rw [Bool.eq_iff_iff, Nat.beq_eq, beq_iff_eq, Int.negSucc_inj]
/-- Whole numbers of 64 bits that are small stay as they are. -/
noncomputable def wrapN (k : IntKind) (n : Int) : Int :=
  IntKind.rec (motive := fun _ => Int) (k.wrap n) (k.wrap n) (k.wrap n)
    (Int.rec (motive := fun _ => Int) (fun m => Bool.rec (motive := fun _ => Int) (k.wrap n) (Int.ofNat m) (Nat.blt m 9223372036854775808)) (fun _ => k.wrap n) n)
    (k.wrap n) (k.wrap n) (k.wrap n) (k.wrap n) k
theorem wrapN_eq (k : IntKind) (n : Int) : wrapN k n = k.wrap n := by
  cases k <;> first
    | rfl
    | (cases n with
       | ofNat m =>
         show Bool.rec (motive := fun _ => Int) (IntKind.i64.wrap (Int.ofNat m)) (Int.ofNat m) (Nat.blt m 9223372036854775808) = _
         cases hb : Nat.blt m 9223372036854775808 with
         | false => rfl
         | true =>
           rw [Nat.blt_eq] at hb
           exact (IntWalk.i64_in (Int.ofNat m) ⟨by show (-9223372036854775808 : Int) ≤ (m : Int); omega, by show (m : Int) ≤ 9223372036854775807; omega⟩).symm
       | negSucc m => rfl)

abbrev IntF := IntKind → Int → Int → Option AV
noncomputable def intF (op : BinOp) : IntF :=
  BinOp.rec (motive := fun _ => IntF)
    (fun k a b => some (.int k (wrapN k (Int.add a b))))
    (fun k a b => some (.int k (wrapN k (Int.sub a b))))
    (fun k a b => some (.int k (wrapN k (Int.mul a b))))
    (fun k a b => vint .quo k a b) (fun k a b => vint .rem k a b)
    (fun k a b => vint .and k a b) (fun k a b => vint .or k a b) (fun k a b => vint .xor k a b)
    (fun k a b => if b < 0 then none else some (.int k (k.wrap (a * 2 ^ (min b.toNat k.bits)))))
    (fun k a b => if b < 0 then none else some (.int k (a.fdiv (2 ^ (min b.toNat k.bits)))))
    (fun k a b => vint .andNot k a b)
    (fun k a b => some (.bool (eqN a b))) (fun k a b => some (.bool (!eqN a b))) (fun k a b => some (.bool (ltN a b))) (fun k a b => some (.bool (!ltN b a)))
    (fun k a b => some (.bool (ltN b a))) (fun k a b => some (.bool (!ltN a b))) op
noncomputable def isShift (op : BinOp) : Bool :=
  BinOp.rec (motive := fun _ => Bool) false false false false false false false false true true false false false false false false false op
theorem intF_eq (P : Program) (op : BinOp) (t : TypeId) (k k' : IntKind) (a b : Int) : (if isShift op = true ∨ k = k' then intF op k a b else none) = vbin P op t (.int k a) (.int k' b) := by
  have hle : ∀ x y : Int, (!ltN y x) = decide (x ≤ y) := fun x y => by
    rw [ltN_eq, Bool.eq_iff_iff]
    simp only [Bool.not_eq_true', decide_eq_false_iff_not, decide_eq_true_eq]
    omega
  cases op <;> simp only [isShift, Bool.false_eq_true, false_or, true_or, if_true, vbin] <;> first
    | rfl
    | (split
       · first
          | rfl
          | (simp only [intF, vint, wrapN_eq]; rfl)
          | (simp only [intF, vint, eqN_eq]; rfl)
          | (simp only [intF, vint, ltN_eq]; done)
          | (simp only [intF, vint, hle]; done)
          | (simp only [intF, vint, eqN_eq, bne])
       · rfl)

noncomputable def binV (P : Program) (op : BinOp) (t : TypeId) (x y : AV) : Option AV :=
  IV.rec (motive := fun _ => Option AV) (orX (vbin P op t x y) (vbinX P op t x y))
    (fun k a => IV.rec (motive := fun _ => Option AV) (orX (vbin P op t x y) (vbinX P op t x y)) (fun k' b => if isShift op = true ∨ k = k' then intF op k a b else none) (iv y)) (iv x)
theorem binV_eq {P : Program} {op : BinOp} {t : TypeId} {x y v : AV} (h : binV P op t x y = some v) : orX (vbin P op t x y) (vbinX P op t x y) = some v := by
  unfold binV at h
  cases hx : iv x with
  | no => rw [hx] at h; exact h
  | int k a =>
    rw [hx] at h
    have h : IV.rec (motive := fun _ => Option AV) (orX (vbin P op t x y) (vbinX P op t x y)) (fun k' b => if isShift op = true ∨ k = k' then intF op k a b else none) (iv y) = some v := h
    cases hy : iv y with
    | no => rw [hy] at h; exact h
    | int k' b =>
      rw [hy] at h
      have h : (if isShift op = true ∨ k = k' then intF op k a b else none) = some v := h
      rw [intF_eq P op t] at h
      rw [iv_int hx, iv_int hy, h]
      rfl
end Go.Vi
