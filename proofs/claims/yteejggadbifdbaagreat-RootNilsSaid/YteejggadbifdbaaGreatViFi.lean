/- Vi, part Fi: regions, code, calls, laid out so that they are computed fast. -/
import Derived.Test.YteejggadbifdbaaGreatViFf
set_option autoImplicit false
set_option linter.unusedVariables false
set_option linter.unusedSimpArgs false
namespace Go.Vi

abbrev SqF := Cf → FRec → Nat → Br AV → HT → Option (Br AV × HT)
abbrev CdF := Cf → FRec → Nat → Br AV → HT → Option (Exit × Br AV × HT)

noncomputable def goF (dst : Option Tmp) (ih : SqF) (c : Cf) (R : FRec) (N : Nat) (env : Br AV) (x : Option (AV × HT)) : Option (Br AV × HT) :=
  Option.rec (motive := fun _ => Option (Br AV × HT)) none (fun p => Prod.rec (motive := fun _ => Option (Br AV × HT)) (fun v h' => ih c R N (fput N env dst v) h') p) x
def nilS : SqF := fun _ _ _ env h => some (env, h)
noncomputable def stepF (f : OpF) (dst : Option Tmp) (ih : SqF) : SqF := fun c R N env h => goF dst ih c R N env (f c R env h)
noncomputable def guardV (want : Bool) (f : OpF) (dst : Option Tmp) (ih : SqF) (c : Cf) (R : FRec) (N : Nat) (env : Br AV) (h : HT) (g : Option AV) : Option (Br AV × HT) :=
  Option.rec (motive := fun _ => Option (Br AV × HT)) none (fun v => BV.rec (motive := fun _ => Option (Br AV × HT)) none
    (Bool.rec (motive := fun _ => Option (Br AV × HT)) (ih c R N (fput N env dst (.tup [])) h) (goF dst ih c R N env (f c R env h)) want)
    (Bool.rec (motive := fun _ => Option (Br AV × HT)) (goF dst ih c R N env (f c R env h)) (ih c R N (fput N env dst (.tup [])) h) want)
    (ih c R N (fput N env dst (.tup [])) h) (bv v)) g
noncomputable def guardF (d : Option Tmp) (want : Bool) (f : OpF) (dst : Option Tmp) (ih : SqF) : SqF := fun c R N env h => guardV want f dst ih c R N env h (d.bind env.get)
noncomputable def operF (ops : Array Oper) (ih : SqF) (o : Oper) : SqF :=
  Oper.rec (motive := fun _ => SqF) (fun dst op _ _ _ guard => Option.rec (motive := fun _ => SqF) (stepF (opF op) dst ih) (fun p => Prod.rec (motive := fun _ => SqF) (fun j want => guardF ((ops[j]?).bind (·.dst)) want (opF op) dst ih) p) guard) o
noncomputable def opsF (ops : Array Oper) (l : List Oper) : SqF := List.rec (motive := fun _ => SqF) nilS (fun o _ ih => operF ops ih o) l

theorem goF_eq {dst : Option Tmp} {ih : SqF} {c : Cf} {R : FRec} {N : Nat} {env : Br AV} {x : Option (AV × HT)} {r : Br AV × HT} (h : goF dst ih c R N env x = some r) : ∃ v h', x = some (v, h') ∧ ih c R N (fput N env dst v) h' = some r := by
  cases x with
  | none => cases h
  | some p => obtain ⟨v, h'⟩ := p; exact ⟨v, h', rfl, h⟩

theorem opsF_eq {c : Cf} {R : FRec} {N : Nat} {ops : Array Oper} : ∀ (l : List Oper) {env : Br AV} {h : HT} {r : Br AV × HT}, opsF ops l c R N env h = some r → fseq R c.P c.G N ops l env h = some r
  | [], env, h, r, hv => hv
  | o :: l, env, h, r, hv => by
    obtain ⟨dst, op, type, pos, after, guard⟩ := o
    simp only [fseq]
    have step : ∀ {env h}, goF dst (opsF ops l) c R N env (opF op c R env h) = some r → (match fop R c.P c.G env h ⟨dst, op, type, pos, after, guard⟩ with | some (v, h') => fseq R c.P c.G N ops l (fput N env dst v) h' | none => none) = some r := fun hk => by
      obtain ⟨v, h', h1, h2⟩ := goF_eq hk
      rw [opF_eq (o := ⟨dst, op, type, pos, after, guard⟩) h1]
      exact opsF_eq l h2
    cases guard with
    | none => exact step hv
    | some p =>
      obtain ⟨j, want⟩ := p
      have hv : guardV want (opF op) dst (opsF ops l) c R N env h (((ops[j]?).bind (·.dst)).bind env.get) = some r := hv
      simp only [fwant]
      unfold guardV at hv
      cases hb : ((ops[j]?).bind (·.dst)).bind env.get with
      | none => rw [hb] at hv; cases hv
      | some v =>
        rw [hb] at hv
        have hv : BV.rec (motive := fun _ => Option (Br AV × HT)) none
          (Bool.rec (motive := fun _ => Option (Br AV × HT)) (opsF ops l c R N (fput N env dst (.tup [])) h) (goF dst (opsF ops l) c R N env (opF op c R env h)) want)
          (Bool.rec (motive := fun _ => Option (Br AV × HT)) (goF dst (opsF ops l) c R N env (opF op c R env h)) (opsF ops l c R N (fput N env dst (.tup [])) h) want)
          (opsF ops l c R N (fput N env dst (.tup [])) h) (bv v) = some r := hv
        cases hbv : bv v with
        | no => rw [hbv] at hv; cases hv
        | sk =>
          rw [hbv] at hv
          rw [bv_sk hbv]
          exact opsF_eq l hv
        | tt =>
          rw [hbv] at hv
          rw [bv_tt hbv]
          cases want with
          | true => exact step hv
          | false => exact opsF_eq l hv
        | ff =>
          rw [hbv] at hv
          rw [bv_ff hbv]
          cases want with
          | true => exact opsF_eq l hv
          | false => exact step hv

/-! ### Regions whose order is drawn -/
/-- Operations that look at no object. -/
def pureOp : Op → Bool
  | .move _ | .assign _ | .pick .. | .build .. | .nilCheck .. | .binOp .. | .unOp .. | .fieldAddr .. | .field .. | .index .. | .extract .. | .makeFunc .. => true
  | _ => false
/-- Values without parts. -/
def simpleV : AV → Bool
  | .int .. | .bool _ | .str _ | .nilp | .ptr .. | .nils | .row .. | .sub .. | .nilf | .nilm | .mapr _ | .nili => true
  | _ => false
theorem simple_same {v : AV} (h : simpleV v = true) : AV.same v v = true := by
  cases v <;> first | (cases h; done) | simp [AV.same]
theorem map_fst {h h1 : HT} {v : AV} (h' : HT) (z : Option AV) (hz : z.map (·, h) = some (v, h1)) : z.map (·, h') = some (v, h') ∧ h1 = h := by
  cases z with
  | none => cases hz
  | some a => simp only [Option.map_some, Option.some.injEq, Prod.mk.injEq] at hz ⊢; exact ⟨⟨hz.1, trivial⟩, hz.2.symm⟩
theorem map_fst2 {h h1 : HT} {v : AV} (h' : HT) (z : Option (AV × Hp)) (hz : (z.map fun p => (p.1, h)) = some (v, h1)) : (z.map fun p => (p.1, h')) = some (v, h') ∧ h1 = h := by
  cases z with
  | none => cases hz
  | some a => simp only [Option.map_some, Option.some.injEq, Prod.mk.injEq] at hz ⊢; exact ⟨⟨hz.1, trivial⟩, hz.2.symm⟩
theorem pure_at {o : Oper} (hp : pureOp o.op = true) {R : FRec} {P : Program} {G : Glob} {env : Br AV} {h h1 : HT} {v : AV} (hv : fop R P G env h o = some (v, h1)) (h' : HT) : fop R P G env h' o = some (v, h') := by
  obtain ⟨dst, op, type, pos, after, guard⟩ := o
  cases op <;> first
    | (cases hp; done)
    | (simp only [fop, fexec] at hv ⊢; first | exact (map_fst h' _ hv).1 | exact (map_fst2 h' _ hv).1)
theorem fop_keeps {R : FRec} {P : Program} {G : Glob} {env : Br AV} {h h1 : HT} {o : Oper} {v : AV} (hv : fop R P G env h o = some (v, h1)) (hc : clsOp mdA o ≠ 2) : h1 = h := by
  obtain ⟨dst, op, type, pos, after, guard⟩ := o
  cases op with
  | load t a =>
    simp only [fop, fexec] at hv
    split at hv
    · exact (map_fst h _ hv).2
    · cases hv
  | slice t x lo hi mx =>
    simp only [fop, fexec] at hv
    split at hv
    · exact (map_fst h _ hv).2
    · cases hv
  | indexAddr t x ix =>
    simp only [fop, fexec] at hv
    split at hv
    · exact (map_fst h _ hv).2
    · cases hv
  | lookup t x k ok =>
    simp only [fop, fexec] at hv
    split at hv
    · exact (map_fst h _ hv).2
    · cases hv
  | convert a b x =>
    simp only [clsOp] at hc
    split at hc
    · exact absurd rfl hc
    · rename_i hab
      simp only [fop, fexec] at hv
      split at hv
      · split at hv
        · cases hv; rfl
        · rw [if_neg hab] at hv; cases hv
      · cases hv
  | call cl =>
    obtain ⟨callee, args, ts⟩ := cl
    cases callee with
    | value f => exact absurd rfl hc
    | invoke a b => exact absurd rfl hc
    | builtin b =>
      simp only [fop, fexec] at hv
      split at hv
      · cases b <;> first
          | (exact absurd rfl hc)
          | (exact (map_fst h _ hv).2)
          | (cases hv; done)
      · cases b <;> first
          | (exact absurd rfl hc)
          | (exact (map_fst h _ hv).2)
          | (cases hv; done)
      · cases hv
  | _ => first
    | exact absurd rfl hc
    | (simp only [fop, fexec] at hv; first | exact (map_fst h _ hv).2 | exact (map_fst2 h _ hv).2)

abbrev ShF := Cf → FRec → Nat → Br AV → HT → Option (List (Option AV) × List HT × Br AV × HT)
def consR (b : Bool) (h : HT) (v : Option AV) (x : Option (List (Option AV) × List HT × Br AV × HT)) : Option (List (Option AV) × List HT × Br AV × HT) :=
  match x with
  | some (vs, hs, e, h2) => some (v :: vs, if b = true then h :: hs else hs, e, h2)
  | none => none
/-- All operations in their order: what each gives, and the objects behind each that may change them. -/
noncomputable def seqR (ops : Array Oper) (l : List Oper) (c : Cf) (R : FRec) (N : Nat) : Br AV → HT → Option (List (Option AV) × List HT × Br AV × HT) :=
  List.rec (motive := fun _ => Br AV → HT → Option (List (Option AV) × List HT × Br AV × HT)) (fun env h => some ([], [], env, h))
    (fun o _ ih env h => match fwant o.guard ops env with
      | some true => match opF o.op c R env h with
        | some (v, h') => consR (decide (clsOp mdA o = 2)) h' (some v) (ih (fput N env o.dst v) h')
        | none => none
      | some false => consR (decide (clsOp mdA o = 2)) h none (ih (fput N env o.dst (.tup [])) h)
      | none => none) l
noncomputable def sameAt (c : Cf) (R : FRec) (env : Br AV) (o : Oper) (v : AV) (h : HT) : Bool :=
  match opF o.op c R env h with
  | some (v', _) => AV.same v' v
  | none => false
noncomputable def allR (wn : Nat × Nat) (c : Cf) (R : FRec) (env : Br AV) (o : Oper) (v : AV) (h : Nat → HT) : Bool :=
  match pureOp o.op && simpleV v with
  | true => true
  | false => (List.range (wn.2 + 1)).all fun q => decide (q < wn.1) || sameAt c R env o v (h q)
noncomputable def chkR (ops : Array Oper) (wn : Nat → Nat × Nat) (c : Cf) (R : FRec) (N : Nat) (h : Nat → HT) (l : List Oper) : List (Option AV) → Nat → Br AV → Nat → Bool :=
  List.rec (motive := fun _ => List (Option AV) → Nat → Br AV → Nat → Bool) (fun _ _ _ _ => true)
    (fun o _ ih vs i env k => match vs with
      | [] => false
      | some v :: vs' => if clsOp mdA o = 2 then decide (k = (wn i).1) && ih vs' (Nat.succ i) (fput N env o.dst v) (Nat.succ k)
        else (decide ((wn i).1 ≤ k) && decide (k ≤ (wn i).2)) && allR (wn i) c R env o v h && ih vs' (Nat.succ i) (fput N env o.dst v) k
      | none :: vs' => if clsOp mdA o = 2 then decide (k = (wn i).1) && ih vs' (Nat.succ i) (fput N env o.dst (.tup [])) (Nat.succ k)
        else (decide ((wn i).1 ≤ k) && decide (k ≤ (wn i).2)) && ih vs' (Nat.succ i) (fput N env o.dst (.tup [])) k) l
theorem consR_ex {b : Bool} {h : HT} {v : Option AV} {x : Option (List (Option AV) × List HT × Br AV × HT)} {vs : List (Option AV)} {hs : List HT} {e : Br AV} {h2 : HT} (hv : consR b h v x = some (vs, hs, e, h2)) :
    ∃ vs1 hs1, x = some (vs1, hs1, e, h2) ∧ vs = v :: vs1 ∧ hs = if b = true then h :: hs1 else hs1 := by
  unfold consR at hv
  split at hv
  · rename_i vs1 hs1 e1 h1; cases hv; exact ⟨vs1, hs1, rfl, rfl, rfl⟩
  · cases hv
theorem seqR_eq {c : Cf} {R : FRec} {N : Nat} {ops : Array Oper} : ∀ (l : List Oper) {env : Br AV} {h : HT} {vs : List (Option AV)} {hs : List HT} {env' : Br AV} {h' : HT}, seqR ops l c R N env h = some (vs, hs, env', h') → fseqH R c.P c.G N ops l env h = some (hs, env', h')
  | [], env, h, vs, hs, env', h', hv => by cases hv; rfl
  | o :: l, env, h, vs, hs, env', h', hv => by
    have hv : (match fwant o.guard ops env with
      | some true => match opF o.op c R env h with
        | some (v, h') => consR (decide (clsOp mdA o = 2)) h' (some v) (seqR ops l c R N (fput N env o.dst v) h')
        | none => none
      | some false => consR (decide (clsOp mdA o = 2)) h none (seqR ops l c R N (fput N env o.dst (.tup [])) h)
      | none => none) = some (vs, hs, env', h') := hv
    simp only [fseqH]
    split at hv
    · rename_i hw
      rw [hw]
      simp only
      split at hv
      · rename_i v h1 ho
        obtain ⟨vs1, hs1, a1, a2, a3⟩ := consR_ex hv
        rw [opF_eq ho]
        simp only
        rw [seqR_eq l a1]
        simp only [decide_eq_true_eq] at a3
        rw [a3]
      · cases hv
    · rename_i hw
      rw [hw]
      obtain ⟨vs1, hs1, a1, a2, a3⟩ := consR_ex hv
      simp only
      rw [seqR_eq l a1]
      simp only [decide_eq_true_eq] at a3
      rw [a3]
    · cases hv
theorem allR_ok {wn : Nat × Nat} {c : Cf} {R : FRec} {env : Br AV} {o : Oper} {v : AV} {h0 h1 : HT} {h : Nat → HT} (ho : fop R c.P c.G env h0 o = some (v, h1)) (hv : allR wn c R env o v h = true) :
    ((List.range (wn.2 + 1)).all fun q => decide (q < wn.1) || match fop R c.P c.G env (h q) o with
      | some (v', _) => AV.same v' v
      | none => false) = true := by
  unfold allR at hv
  split at hv
  · rename_i hp
    rw [Bool.and_eq_true] at hp
    rw [List.all_eq_true]
    intro q _
    rw [Bool.or_eq_true]
    right
    rw [pure_at hp.1 ho (h q)]
    exact simple_same hp.2
  · rw [List.all_eq_true] at hv ⊢
    intro q hq
    have h3 := hv q hq
    rw [Bool.or_eq_true] at h3 ⊢
    refine h3.imp id fun h4 => ?_
    unfold sameAt at h4
    split at h4
    · rename_i v' h5 ho'
      rw [opF_eq ho']
      exact h4
    · cases h4
theorem shift_at {hf : Nat → HT} {k : Nat} {a b : HT} {hs : List HT} (h : ∀ j x, (a :: b :: hs)[j]? = some x → hf (k + j) = x) : ∀ j x, (b :: hs)[j]? = some x → hf (k + 1 + j) = x := fun j x hj => by
  have := h (j + 1) x (by simpa using hj)
  rw [← this]
  congr 1
  omega
theorem chkR_eq {c : Cf} {R : FRec} {N : Nat} {ops : Array Oper} {wn : Nat → Nat × Nat} {hf : Nat → HT} : ∀ (l : List Oper) {i k : Nat} {env : Br AV} {h : HT} {vs : List (Option AV)} {hs : List HT} {env' : Br AV} {h' : HT}, seqR ops l c R N env h = some (vs, hs, env', h') →
    (∀ j x, (h :: hs)[j]? = some x → hf (k + j) = x) → chkR ops wn c R N hf l vs i env k = true → fchkW R c.P c.G N ops wn hf l i env k = true
  | [], i, k, env, h, vs, hs, env', h', hq, hh, hv => rfl
  | o :: l, i, k, env, h, vs, hs, env', h', hq, hh, hv => by
    have hk : hf k = h := hh 0 h rfl
    have hq : (match fwant o.guard ops env with
      | some true => match opF o.op c R env h with
        | some (v, h') => consR (decide (clsOp mdA o = 2)) h' (some v) (seqR ops l c R N (fput N env o.dst v) h')
        | none => none
      | some false => consR (decide (clsOp mdA o = 2)) h none (seqR ops l c R N (fput N env o.dst (.tup [])) h)
      | none => none) = some (vs, hs, env', h') := hq
    simp only [fchkW]
    split at hq
    · rename_i hw
      rw [hw]
      simp only
      split at hq
      · rename_i v h1 ho
        obtain ⟨vs1, hs1, a1, rfl, a3⟩ := consR_ex hq
        have ho' := opF_eq ho
        rw [hk, ho']
        simp only
        have hv : (if clsOp mdA o = 2 then decide (k = (wn i).1) && chkR ops wn c R N hf l vs1 (Nat.succ i) (fput N env o.dst v) (Nat.succ k)
          else (decide ((wn i).1 ≤ k) && decide (k ≤ (wn i).2)) && allR (wn i) c R env o v hf && chkR ops wn c R N hf l vs1 (Nat.succ i) (fput N env o.dst v) k) = true := hv
        by_cases hc : clsOp mdA o = 2
        · rw [if_pos hc] at hv ⊢
          rw [Bool.and_eq_true] at hv ⊢
          simp only [hc, decide_true, if_true] at a3
          subst a3
          exact ⟨hv.1, chkR_eq l a1 (shift_at hh) hv.2⟩
        · rw [if_neg hc] at hv ⊢
          rw [Bool.and_eq_true, Bool.and_eq_true] at hv ⊢
          simp only [hc, decide_false, Bool.false_eq_true, if_false] at a3
          subst a3
          obtain rfl := fop_keeps ho' hc
          exact ⟨⟨hv.1.1, allR_ok ho' hv.1.2⟩, chkR_eq l a1 hh hv.2⟩
      · cases hq
    · rename_i hw
      rw [hw]
      simp only
      obtain ⟨vs1, hs1, a1, rfl, a3⟩ := consR_ex hq
      have hv : (if clsOp mdA o = 2 then decide (k = (wn i).1) && chkR ops wn c R N hf l vs1 (Nat.succ i) (fput N env o.dst (.tup [])) (Nat.succ k)
        else (decide ((wn i).1 ≤ k) && decide (k ≤ (wn i).2)) && chkR ops wn c R N hf l vs1 (Nat.succ i) (fput N env o.dst (.tup [])) k) = true := hv
      by_cases hc : clsOp mdA o = 2
      · rw [if_pos hc] at hv ⊢
        rw [Bool.and_eq_true] at hv ⊢
        simp only [hc, decide_true, if_true] at a3
        subst a3
        exact ⟨hv.1, chkR_eq l a1 (shift_at hh) hv.2⟩
      · rw [if_neg hc] at hv ⊢
        rw [Bool.and_eq_true] at hv ⊢
        simp only [hc, decide_false, Bool.false_eq_true, if_false] at a3
        subst a3
        exact ⟨hv.1, chkR_eq l a1 hh hv.2⟩
    · cases hq

noncomputable def winV (ops : Array Oper) (c : Cf) (R : FRec) (N : Nat) (env : Br AV) (h : HT) (x : Option (List (Option AV) × List HT × Br AV × HT)) : Option (Br AV × HT) :=
  match x with
  | some (vs, hs, env', h') => Bool.rec (motive := fun _ => Option (Br AV × HT)) none (Bool.rec (motive := fun _ => Option (Br AV × HT)) none (some (env', h')) (chkR ops (winOf mdA ops) c R N (fun q => (h :: hs).getD q HT.none) ops.toList vs 0 env 0)) (drawOkOf (okW mdA ops (winOf mdA ops)) ops)
  | none => none
noncomputable def regWF (ops : Array Oper) : SqF := fun c R N env h => winV ops c R N env h (seqR ops ops.toList c R N env h)
theorem getD_at {h : HT} {hs : List HT} : ∀ j x, (h :: hs)[j]? = some x → (h :: hs).getD (0 + j) HT.none = x := fun j x hj => by
  rw [Nat.zero_add, List.getD_eq_getElem?_getD, hj]; rfl
theorem regWF_eq {c : Cf} {R : FRec} {N : Nat} {ops : Array Oper} {env : Br AV} {h : HT} {r : Br AV × HT} (hv : regWF ops c R N env h = some r) : fregW R c.P c.G N ops env h = some r := by
  unfold regWF winV at hv
  unfold fregW
  split at hv
  · rename_i vs hs env' h' hq
    rw [seqR_eq _ hq]
    simp only
    cases hd : drawOkOf (okW mdA ops (winOf mdA ops)) ops with
    | false => rw [hd] at hv; cases hv
    | true =>
      rw [hd] at hv
      have hv : Bool.rec (motive := fun _ => Option (Br AV × HT)) none (some (env', h')) (chkR ops (winOf mdA ops) c R N (fun q => (h :: hs).getD q HT.none) ops.toList vs 0 env 0) = some r := hv
      cases hc : chkR ops (winOf mdA ops) c R N (fun q => (h :: hs).getD q HT.none) ops.toList vs 0 env 0 with
      | false => rw [hc] at hv; cases hv
      | true =>
        rw [hc] at hv
        rw [if_pos ⟨rfl, chkR_eq _ hq getD_at hc⟩]
        exact hv
  · cases hv

/-! ### Code -/
def finS (x : Option (Br AV × HT)) : Option (Exit × Br AV × HT) :=
  match x with
  | some (env, h) => some (.normal, env, h)
  | none => none
noncomputable def regF (ops : Array Oper) (d : Bool) : CdF := fun c R N env h =>
  finS (Bool.rec (motive := fun _ => Option (Br AV × HT)) (opsF ops ops.toList c R N env h) (Bool.rec (motive := fun _ => Option (Br AV × HT)) (regWF ops c R N env h) (opsF ops ops.toList c R N env h) (drawOk mdA ops)) d)
def noC : CdF := fun _ _ _ _ _ => none
def endC (e : Exit) : CdF := fun _ _ _ env h => some (e, env, h)
def thenE (ih : CdF) (c : Cf) (R : FRec) (N : Nat) (x : Option (Exit × Br AV × HT)) : Option (Exit × Br AV × HT) :=
  match x with
  | some (.normal, env, h) => ih c R N env h
  | r => r
def seqC (a b : Code) (ia ib : CdF) : CdF := fun c R N env h => thenE ib c R N (ia c R N env h)
noncomputable def condV (x y : Option (Exit × Br AV × HT)) (v : Option AV) : Option (Exit × Br AV × HT) :=
  Option.rec (motive := fun _ => Option (Exit × Br AV × HT)) none (fun b => BV.rec (motive := fun _ => Option (Exit × Br AV × HT)) none x y none (bv b)) v
noncomputable def condC (o : Operand) (x y : Code) (ix iy : CdF) : CdF := fun c R N env h => condV (ix c R N env h) (iy c R N env h) (ev1 c env o)
def blockV (id : Nat) (x : Option (Exit × Br AV × HT)) : Option (Exit × Br AV × HT) :=
  match x with
  | some (.exit id', env, h) => match Nat.beq id' id with
    | true => some (.normal, env, h)
    | false => some (.exit id', env, h)
  | r => r
def blockC (id : Nat) (b : Code) (ib : CdF) : CdF := fun c R N env h => blockV id (ib c R N env h)
noncomputable def loopN (ib : CdF) (c : Cf) (R : FRec) (N n : Nat) : Br AV → HT → Option (Exit × Br AV × HT) :=
  Nat.rec (motive := fun _ => Br AV → HT → Option (Exit × Br AV × HT)) (fun _ _ => none) (fun _ ih env h => match ib c R N env h with
    | some (.normal, env', h') => ih env' h'
    | r => r) n
noncomputable def loopC (b : Code) (ib : CdF) : CdF := fun c R N env h => loopN ib c R N c.n env h
noncomputable def cdF (code : Code) : CdF :=
  Code.rec (motive := fun _ => CdF) (endC .normal) (fun _ ops d => regF ops d) seqC condC blockC loopC (fun _ _ _ _ _ _ => noC) (fun id => endC (.exit id)) (fun _ _ => noC) (fun _ => endC .normal) (fun _ => noC) (endC .ret) (fun _ => noC) code

theorem finS_eq {x : Option (Br AV × HT)} {r : Exit × Br AV × HT} (h : finS x = some r) : ∃ env h', x = some (env, h') ∧ r = (.normal, env, h') := by
  unfold finS at h
  split at h
  · rename_i env h'; cases h; exact ⟨env, h', rfl, rfl⟩
  · cases h

theorem cdF_eq {c : Cf} {R : FRec} {N : Nat} : ∀ (code : Code) {env : Br AV} {h : HT} {r : Exit × Br AV × HT}, cdF code c R N env h = some r → fcode R c.P c.G c.n N code env h = some r
  | .skip, env, h, r, hv => hv
  | .label _, env, h, r, hv => hv
  | .exit _, env, h, r, hv => hv
  | .ret, env, h, r, hv => hv
  | .region _ ops d, env, h, r, hv => by
    obtain ⟨env', h', h1, rfl⟩ := finS_eq (x := Bool.rec (motive := fun _ => Option (Br AV × HT)) (opsF ops ops.toList c R N env h) (Bool.rec (motive := fun _ => Option (Br AV × HT)) (regWF ops c R N env h) (opsF ops ops.toList c R N env h) (drawOk mdA ops)) d) hv
    simp only [fcode]
    cases d with
    | false => rw [opsF_eq _ h1]
    | true =>
      simp only
      have h1 : Bool.rec (motive := fun _ => Option (Br AV × HT)) (regWF ops c R N env h) (opsF ops ops.toList c R N env h) (drawOk mdA ops) = some (env', h') := h1
      cases hd : drawOk mdA ops with
      | true => rw [hd] at h1; simp only; rw [opsF_eq _ h1]
      | false => rw [hd] at h1; simp only; rw [regWF_eq h1]
  | .seq a b, env, h, r, hv => by
    have hv : thenE (cdF b) c R N (cdF a c R N env h) = some r := hv
    unfold thenE at hv
    simp only [fcode]
    split at hv
    · rename_i env' h' ha
      rw [cdF_eq a ha]
      exact cdF_eq b hv
    · rename_i x hx
      rw [cdF_eq a hv]
      obtain ⟨e, env', h'⟩ := r
      cases e with
      | normal => exact absurd hv (hx _ _)
      | _ => rfl
  | .cond o x y, env, h, r, hv => by
    have hv : condV (cdF x c R N env h) (cdF y c R N env h) (ev1 c env o) = some r := hv
    unfold condV at hv
    rw [ev1_eq] at hv
    simp only [fcode]
    cases hb : fev c.G env o with
    | none => rw [hb] at hv; cases hv
    | some b =>
      rw [hb] at hv
      have hv : BV.rec (motive := fun _ => Option (Exit × Br AV × HT)) none (cdF x c R N env h) (cdF y c R N env h) none (bv b) = some r := hv
      cases hbv : bv b with
      | no => rw [hbv] at hv; cases hv
      | sk => rw [hbv] at hv; cases hv
      | tt => rw [hbv] at hv; rw [bv_tt hbv]; exact cdF_eq x hv
      | ff => rw [hbv] at hv; rw [bv_ff hbv]; exact cdF_eq y hv
  | .block id b, env, h, r, hv => by
    have hv : blockV id (cdF b c R N env h) = some r := hv
    unfold blockV at hv
    simp only [fcode]
    split at hv
    · rename_i id' env' h' hb
      rw [cdF_eq b hb]
      exact hv
    · rename_i x hx
      rw [cdF_eq b hv]
      obtain ⟨e, env', h'⟩ := r
      cases e with
      | exit id' => exact absurd hv (hx _ _ _)
      | _ => rfl
  | .loop b, env, h, r, hv => by
    have hv : loopN (cdF b) c R N c.n env h = some r := hv
    simp only [fcode]
    have key : ∀ (n : Nat) {env : Br AV} {h : HT} {r : Exit × Br AV × HT}, loopN (cdF b) c R N n env h = some r → floop (fcode R c.P c.G c.n N b) n env h = some r := by
      intro n
      induction n with
      | zero => intro env h r hv; cases hv
      | succ n ih =>
        intro env h r hv
        have hv : (match cdF b c R N env h with
          | some (.normal, env', h') => loopN (cdF b) c R N n env' h'
          | r => r) = some r := hv
        simp only [floop]
        split at hv
        · rename_i env' h' hb
          rw [cdF_eq b hb]
          exact ih hv
        · rename_i x hx
          rw [cdF_eq b hv]
          obtain ⟨e, env', h'⟩ := r
          cases e with
          | normal => exact absurd hv (hx _ _)
          | _ => rfl
    exact key c.n hv
  | .rangeFunc .., env, h, r, hv => by cases hv
  | .scope .., env, h, r, hv => by cases hv
  | .goto .., env, h, r, hv => by cases hv
  | .refuse .., env, h, r, hv => by cases hv

/-! ### Calls -/
noncomputable def codeV (c : Cf) (R : FRec) (fn : Func) (args : List AV) (h : HT) (code : Code) : Option (AV × HT) :=
  Bool.rec (motive := fun _ => Option (AV × HT)) none (ffin c.P fn (cdF code c R fn.ntmps (fenv fn.ntmps args) h)) (Nat.ble args.length fn.ntmps)
noncomputable def bodyV (c : Cf) (R : FRec) (args : List AV) (h : HT) (fn : Func) : Option (AV × HT) :=
  Option.rec (motive := fun _ => Option (AV × HT)) none (codeV c R fn args h) fn.body
noncomputable def runV (c : Cf) (R : FRec) (f : Nat) (args : List AV) (h : HT) : Option (AV × HT) :=
  Option.rec (motive := fun _ => Option (AV × HT)) none (bodyV c R args h) (c.P.funcs[f]?)
abbrev KnownT := Nat → Option (List AV → HT → Option (AV × HT))
def KSim (O : KnownT) (O' : Known) : Prop := (∀ f, O f = none → O' f = none) ∧ ∀ f k, O f = some k → ∃ k', O' f = some k' ∧ ∀ xs h r h', h.ok → k xs h = some (r, h') → h'.ok ∧ k' xs h.den = some (r, h'.den)
noncomputable def runF (c : Cf) (O : KnownT) (d : Nat) : FRec :=
  Nat.rec (motive := fun _ => FRec) (fun _ _ _ => none) (fun _ ih f args h => Option.rec (motive := fun _ => Option (AV × HT)) (runV c ih f args h) (fun k => k args h) (O f)) d

theorem runF_eq (c : Cf) (O : KnownT) (O' : Known) (hO : KSim O O') : ∀ (d : Nat), FSim (runF c O d) (erunO c.P (fun _ => mdA) c.G O' c.n d)
  | 0 => fun g xs h r h' k hv => by cases hv
  | d + 1 => fun f args h r h' k hv => by
    have hv : Option.rec (motive := fun _ => Option (AV × HT)) (runV c (runF c O d) f args h) (fun k => k args h) (O f) = some (r, h') := hv
    simp only [erunO]
    cases hp : O f with
    | some p =>
      rw [hp] at hv
      obtain ⟨k', h1, h2⟩ := hO.2 _ _ hp
      rw [h1]
      exact h2 _ _ _ _ k hv
    | none =>
      rw [hp] at hv
      rw [hO.1 _ hp]
      simp only
      have hv : runV c (runF c O d) f args h = some (r, h') := hv
      unfold runV at hv
      cases hf : c.P.funcs[f]? with
      | none => rw [hf] at hv; cases hv
      | some fn =>
        rw [hf] at hv
        have hv : bodyV c (runF c O d) args h fn = some (r, h') := hv
        unfold bodyV at hv
        simp only
        cases hb : fn.body with
        | none => rw [hb] at hv; cases hv
        | some code =>
          rw [hb] at hv
          have hv : codeV c (runF c O d) fn args h code = some (r, h') := hv
          unfold codeV at hv
          simp only
          cases hl : Nat.ble args.length fn.ntmps with
          | false => rw [hl] at hv; cases hv
          | true =>
            rw [hl] at hv
            have hv : ffin c.P fn (cdF code c (runF c O d) fn.ntmps (fenv fn.ntmps args) h) = some (r, h') := hv
            obtain ⟨e1, e2⟩ := fenv_eq (Nat.le_of_ble_eq_true hl)
            cases hc : cdF code c (runF c O d) fn.ntmps (fenv fn.ntmps args) h with
            | none => rw [hc] at hv; cases hv
            | some p =>
              obtain ⟨x, env', h1⟩ := p
              rw [hc] at hv
              obtain ⟨a, b, cc⟩ := fcode_eq (runF_eq c O O' hO d) code e1 k (cdF_eq code hc)
              rw [e2] at cc
              rw [cc]
              exact ffin_eq a b hv
end Go.Vi
