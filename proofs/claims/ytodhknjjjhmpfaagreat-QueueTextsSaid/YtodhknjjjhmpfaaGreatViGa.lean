/- Vi, part Ga: calls that are computed, with what must be equal written down, and with truths that are given. -/
import Derived.Test.YtodhknjjjhmpfaaGreatViFi
set_option autoImplicit false
set_option linter.unusedVariables false
set_option linter.unusedSimpArgs false
set_option maxRecDepth 100000
namespace Go.Vi

/-- What must be the same. -/
abbrev Obls := List (AV × AV)
def oksL (L : Obls) : Prop := ∀ p ∈ L, AV.same p.1 p.2 = true
theorem oksL.left {L L' : Obls} (h : oksL (L ++ L')) : oksL L := fun p hp => h p (List.mem_append_left _ hp)
theorem oksL.right {L L' : Obls} (h : oksL (L ++ L')) : oksL L' := fun p hp => h p (List.mem_append_right _ hp)
/-- Slots whose truth is given. -/
abbrev Ora := Nat → Option Bool
abbrev RG := Option ((AV × HT) × Obls)
abbrev GRec := Nat → List AV → HT → RG
abbrev OpG := Cf → GRec → Br AV → HT → RG
open Classical in
/-- The calls as they are if all is the same that must be. -/
noncomputable def frG (R : GRec) : FRec := fun g xs h => match R g xs h with
  | some (r, L) => if oksL L then some r else none
  | none => none
theorem frG_of {R : GRec} {g : Nat} {xs : List AV} {h : HT} {r : AV × HT} {L : Obls} (hv : R g xs h = some (r, L)) (hL : oksL L) : frG R g xs h = some r := by
  unfold frG; rw [hv]; simp only; rw [if_pos hL]
theorem frG_ex {R : GRec} {g : Nat} {xs : List AV} {h : HT} {r : AV × HT} (hv : frG R g xs h = some r) : ∃ L, R g xs h = some (r, L) ∧ oksL L := by
  unfold frG at hv
  split at hv
  · rename_i r' L hr
    split at hv
    · rename_i hL; cases hv; exact ⟨L, hr, hL⟩
    · cases hv
  · cases hv

noncomputable def plO (x : Option (AV × HT)) : RG := Option.rec (motive := fun _ => RG) none (fun r => some (r, [])) x
theorem plO_ok {x : Option (AV × HT)} {r : AV × HT} {L : Obls} (h : plO x = some (r, L)) : x = some r := by
  cases x with
  | none => cases h
  | some a => cases h; rfl
def noR : FRec := fun _ _ _ => none

/-! ### Operations -/
noncomputable def enterG (c : Cf) (R : GRec) (h : HT) (g : Nat) (xs : List AV) : RG :=
  Bool.rec (motive := fun _ => RG) (plO (keep h (vext2T c.P h g xs))) (R g xs h) (enterOk c.P g)
noncomputable def callVG (c : Cf) (R : GRec) (env : Br AV) (h : HT) (args : List Operand) (fv : AV) : RG :=
  ClV.rec (motive := fun _ => RG) none (fun g cs => Option.rec (motive := fun _ => RG) none (fun xs => enterG c R h g (xs ++ cs)) (evs1 c env args)) (clv fv)
noncomputable def callG (f : Operand) (args : Array Operand) : OpG := fun c R env h => Option.rec (motive := fun _ => RG) none (callVG c R env h args.toList) (ev1 c env f)
noncomputable def invG (c : Cf) (R : GRec) (h : HT) (name : String) (xs : List AV) (v : AV) : RG := match v with
  | .iface t v => match methOf c.P t name with
    | some g => if enterOk c.P g = true then R g (v :: xs) h else none
    | none => none
  | _ => none
noncomputable def invokeG (rv : Operand) (name : String) (args : Array Operand) : OpG := fun c R env h =>
  Option.rec (motive := fun _ => RG) none (fun v => Option.rec (motive := fun _ => RG) none (fun xs => invG c R h name xs v) (evs1 c env args.toList)) (ev1 c env rv)
noncomputable def callOpG (cl : Call) : OpG :=
  Call.rec (motive := fun _ => OpG) (fun callee args ts => Callee.rec (motive := fun _ => OpG) (fun f => callG f args) (fun rv name => invokeG rv name args) (fun b c _ env h => plO (builtinF b args ts c noR env h)) callee) cl
def askO (w : Ora) : Operand → Option Bool
  | .tmp t => w t
  | _ => none
noncomputable def pickG (w : Ora) (x a b : Operand) : OpG := fun c _ env h => match askO w x with
  | none => plO (pickF x a b c noR env h)
  | some t => match ev1 c env x with
    | none => none
    | some v => match keep h (ev1 c env (match t with | true => a | false => b)) with
      | none => none
      | some r => some (r, [(v, .bool t)])
noncomputable def opG (w : Ora) (op : Op) : OpG := match op with
  | .call cl => callOpG cl
  | .pick x a b => pickG w x a b
  | op => fun c _ env h => plO (opF op c noR env h)
theorem pickG_ok {w : Ora} {x a b : Operand} {c : Cf} {R : GRec} {F : FRec} {env : Br AV} {h : HT} {r : AV × HT} {L : Obls} (hv : pickG w x a b c R env h = some (r, L)) (hL : oksL L) : opF (.pick x a b) c F env h = some r := by
  unfold pickG at hv
  split at hv
  · exact plO_ok hv
  · rename_i t ht
    split at hv
    · cases hv
    · rename_i v hx
      split at hv
      · cases hv
      · rename_i r1 hk
        cases hv
        have hs := AV.same_eq (hL (v, .bool t) (List.mem_cons_self ..))
        simp only at hs
        subst hs
        show with1 c env x (pickV c env h a b) = some r
        unfold with1
        rw [hx]
        show pickV c env h a b (.bool t) = some r
        cases t with
        | true => exact hk
        | false => exact hk

theorem opF_noR {op : Op} (ho : ∀ cl, op ≠ .call cl) (c : Cf) (R R' : FRec) (env : Br AV) (h : HT) : opF op c R env h = opF op c R' env h := by
  cases op <;> first
    | rfl
    | exact absurd rfl (ho _)
theorem callVG_ok {c : Cf} {R : GRec} {env : Br AV} {h : HT} {args : List Operand} {fv : AV} {r : AV × HT} {L : Obls} (hv : callVG c R env h args fv = some (r, L)) (hL : oksL L) : callV c (frG R) env h args fv = some r := by
  unfold callVG at hv
  unfold callV
  cases hc : clv fv with
  | no => rw [hc] at hv; cases hv
  | clo g cs =>
    rw [hc] at hv
    have hv : Option.rec (motive := fun _ => RG) none (fun xs => enterG c R h g (xs ++ cs)) (evs1 c env args) = some (r, L) := hv
    show Option.rec (motive := fun _ => Option (AV × HT)) none (fun xs => enterF c (frG R) h g (xs ++ cs)) (evs1 c env args) = some r
    cases hx : evs1 c env args with
    | none => rw [hx] at hv; cases hv
    | some xs =>
      rw [hx] at hv
      have hv : Bool.rec (motive := fun _ => RG) (plO (keep h (vext2T c.P h g (xs ++ cs)))) (R g (xs ++ cs) h) (enterOk c.P g) = some (r, L) := hv
      show Bool.rec (motive := fun _ => Option (AV × HT)) (keep h (vext2T c.P h g (xs ++ cs))) (frG R g (xs ++ cs) h) (enterOk c.P g) = some r
      cases he : enterOk c.P g with
      | true => rw [he] at hv; exact frG_of hv hL
      | false => rw [he] at hv; exact plO_ok hv
theorem opG_ok {w : Ora} {op : Op} {c : Cf} {R : GRec} {env : Br AV} {h : HT} {r : AV × HT} {L : Obls} (hv : opG w op c R env h = some (r, L)) (hL : oksL L) : opF op c (frG R) env h = some r := by
  unfold opG at hv
  split at hv
  · rename_i cl
    obtain ⟨callee, args, ts⟩ := cl
    cases callee with
    | value f =>
      have hv : Option.rec (motive := fun _ => RG) none (callVG c R env h args.toList) (ev1 c env f) = some (r, L) := hv
      show Option.rec (motive := fun _ => Option (AV × HT)) none (callV c (frG R) env h args.toList) (ev1 c env f) = some r
      cases hf : ev1 c env f with
      | none => rw [hf] at hv; cases hv
      | some fv => rw [hf] at hv; exact callVG_ok hv hL
    | builtin b => exact plO_ok hv
    | invoke rv name =>
      have hv : Option.rec (motive := fun _ => RG) none (fun v => Option.rec (motive := fun _ => RG) none (fun xs => invG c R h name xs v) (evs1 c env args.toList)) (ev1 c env rv) = some (r, L) := hv
      show Option.rec (motive := fun _ => Option (AV × HT)) none (fun v => Option.rec (motive := fun _ => Option (AV × HT)) none (fun xs => invV c (frG R) h name xs v) (evs1 c env args.toList)) (ev1 c env rv) = some r
      cases hf : ev1 c env rv with
      | none => rw [hf] at hv; cases hv
      | some v =>
        rw [hf] at hv
        have hv : Option.rec (motive := fun _ => RG) none (fun xs => invG c R h name xs v) (evs1 c env args.toList) = some (r, L) := hv
        show Option.rec (motive := fun _ => Option (AV × HT)) none (fun xs => invV c (frG R) h name xs v) (evs1 c env args.toList) = some r
        cases hx : evs1 c env args.toList with
        | none => rw [hx] at hv; cases hv
        | some xs =>
          rw [hx] at hv
          have hv : invG c R h name xs v = some (r, L) := hv
          show invV c (frG R) h name xs v = some r
          unfold invG at hv
          unfold invV
          cases v with
          | iface t w =>
            simp only at hv ⊢
            cases hg : methOf c.P t name with
            | none => rw [hg] at hv; cases hv
            | some g =>
              rw [hg] at hv
              simp only at hv ⊢
              by_cases hen : enterOk c.P g = true
              · rw [if_pos hen] at hv ⊢
                exact frG_of hv hL
              · rw [if_neg hen] at hv
                cases hv
          | _ => cases hv
  · exact pickG_ok hv hL
  · rename_i h0 h1
    rw [opF_noR (fun cl e => h0 cl e) c (frG R) noR]
    exact plO_ok hv
theorem opG_fop {w : Ora} {o : Oper} {c : Cf} {R : GRec} {env : Br AV} {h : HT} {r : AV × HT} {L : Obls} (hv : opG w o.op c R env h = some (r, L)) (hL : oksL L) : fop (frG R) c.P c.G env h o = some r := opF_eq (opG_ok hv hL)

/-! ### Whether an operation is done -/
noncomputable def wantG (w : Ora) (g : Option (Nat × Bool)) (ops : Array Oper) (env : Br AV) : Option (Bool × Obls) :=
  match g with
  | none => some (true, [])
  | some (j, want) => match (ops[j]?).bind (·.dst) with
    | none => none
    | some t => match w t with
      | none => match fwant (some (j, want)) ops env with
        | some b => some (b, [])
        | none => none
      | some b => match env.get t with
        | some v => some (b == want, [(v, .bool b)])
        | none => none
theorem wantG_ok {w : Ora} {g : Option (Nat × Bool)} {ops : Array Oper} {env : Br AV} {b : Bool} {L : Obls} (hv : wantG w g ops env = some (b, L)) (hL : oksL L) : fwant g ops env = some b := by
  unfold wantG at hv
  split at hv
  · cases hv; rfl
  · rename_i j want
    split at hv
    · cases hv
    · rename_i t ht
      split at hv
      · split at hv
        · rename_i b' hb; cases hv; exact hb
        · cases hv
      · rename_i b' hb
        split at hv
        · rename_i v hg
          cases hv
          have hs := AV.same_eq (hL (v, .bool b') (List.mem_cons_self ..))
          simp only at hs
          subst hs
          unfold fwant
          simp only [ht, Option.bind_some, hg]
        · cases hv

/-! ### Regions -/
abbrev RS := Option ((Br AV × HT) × Obls)
noncomputable def opsG (ops : Array Oper) (w : Ora) (c : Cf) (R : GRec) (N : Nat) : List Oper → Br AV → HT → RS
  | [], env, h => some ((env, h), [])
  | o :: r, env, h => match wantG w o.guard ops env with
    | some (true, L) => match opG w o.op c R env h with
      | some ((v, h'), L1) => match opsG ops w c R N r (fput N env o.dst v) h' with
        | some (x, L2) => some (x, L ++ (L1 ++ L2))
        | none => none
      | none => none
    | some (false, L) => match opsG ops w c R N r (fput N env o.dst (.tup [])) h with
      | some (x, L2) => some (x, L ++ L2)
      | none => none
    | none => none
theorem opsG_ok {ops : Array Oper} {w : Ora} {c : Cf} {R : GRec} {N : Nat} : ∀ (l : List Oper) {env : Br AV} {h : HT} {r : Br AV × HT} {L : Obls}, opsG ops w c R N l env h = some (r, L) → oksL L → fseq (frG R) c.P c.G N ops l env h = some r
  | [], env, h, r, L, hv, hL => by cases hv; rfl
  | o :: l, env, h, r, L, hv, hL => by
    simp only [opsG] at hv
    simp only [fseq]
    split at hv
    · rename_i L0 hw
      split at hv
      · rename_i v h' L1 ho
        split at hv
        · rename_i x L2 hr
          cases hv
          rw [wantG_ok hw hL.left]
          simp only
          rw [opG_fop ho hL.right.left]
          exact opsG_ok l hr hL.right.right
        · cases hv
      · cases hv
    · rename_i L0 hw
      split at hv
      · rename_i x L2 hr
        cases hv
        rw [wantG_ok hw hL.left]
        exact opsG_ok l hr hL.right
      · cases hv
    · cases hv

noncomputable def seqG (ops : Array Oper) (w : Ora) (c : Cf) (R : GRec) (N : Nat) : List Oper → Br AV → HT → Option ((List (Option AV) × List HT × Br AV × HT) × Obls)
  | [], env, h => some (([], [], env, h), [])
  | o :: r, env, h => match wantG w o.guard ops env with
    | some (true, L) => match opG w o.op c R env h with
      | some ((v, h'), L1) => match seqG ops w c R N r (fput N env o.dst v) h' with
        | some ((vs, hs, e, h2), L2) => some ((some v :: vs, if clsOp mdA o = 2 then h' :: hs else hs, e, h2), L ++ (L1 ++ L2))
        | none => none
      | none => none
    | some (false, L) => match seqG ops w c R N r (fput N env o.dst (.tup [])) h with
      | some ((vs, hs, e, h2), L2) => some ((none :: vs, if clsOp mdA o = 2 then h :: hs else hs, e, h2), L ++ L2)
      | none => none
    | none => none
theorem seqG_ok {ops : Array Oper} {w : Ora} {c : Cf} {R : GRec} {N : Nat} : ∀ (l : List Oper) {env : Br AV} {h : HT} {vs : List (Option AV)} {r : List HT × Br AV × HT} {L : Obls}, seqG ops w c R N l env h = some ((vs, r), L) → oksL L → fseqH (frG R) c.P c.G N ops l env h = some r
  | [], env, h, vs, r, L, hv, hL => by cases hv; rfl
  | o :: l, env, h, vs, r, L, hv, hL => by
    simp only [seqG] at hv
    simp only [fseqH]
    split at hv
    · rename_i L0 hw
      split at hv
      · rename_i v h' L1 ho
        split at hv
        · rename_i vs hs e h2 L2 hr
          cases hv
          rw [wantG_ok hw hL.left]
          simp only
          rw [opG_fop ho hL.right.left]
          simp only
          rw [seqG_ok l hr hL.right.right]
        · cases hv
      · cases hv
    · rename_i L0 hw
      split at hv
      · rename_i vs hs e h2 L2 hr
        cases hv
        rw [wantG_ok hw hL.left]
        simp only
        rw [seqG_ok l hr hL.right]
      · cases hv
    · cases hv

noncomputable def allO (w : Ora) (c : Cf) (R : GRec) (env : Br AV) (o : Oper) (v : AV) (h : Nat → HT) (lo : Nat) : List Nat → Option Obls
  | [] => some []
  | q :: r => match allO w c R env o v h lo r with
    | some L => match Nat.blt q lo with
      | true => some L
      | false => match opG w o.op c R env (h q) with
        | some ((v', _), L1) => some ((v', v) :: (L1 ++ L))
        | none => none
    | none => none
theorem allO_ok {w : Ora} {c : Cf} {R : GRec} {env : Br AV} {o : Oper} {v : AV} {h : Nat → HT} {lo : Nat} : ∀ (l : List Nat) {L : Obls}, allO w c R env o v h lo l = some L → oksL L → (l.all fun q => decide (q < lo) || match fop (frG R) c.P c.G env (h q) o with
    | some (v', _) => AV.same v' v
    | none => false) = true
  | [], L, _, _ => rfl
  | q :: r, L, hv, hL => by
    simp only [allO] at hv
    split at hv
    case h_2 => cases hv
    rename_i L1 h1
    rw [List.all_cons, Bool.and_eq_true]
    split at hv
    · rename_i hb
      cases hv
      have hb : q < lo := by simpa [Nat.blt_eq] using hb
      exact ⟨by simp [hb], allO_ok r h1 hL⟩
    · split at hv
      case h_2 => cases hv
      rename_i v' h' L2 ho
      cases hv
      have hR : oksL (L2 ++ L1) := fun p hp => hL p (List.mem_cons_of_mem _ hp)
      refine ⟨?_, allO_ok r h1 hR.right⟩
      rw [Bool.or_eq_true]
      right
      rw [opG_fop ho hR.left]
      exact hL (v', v) (List.mem_cons_self ..)
/-- Values that are seen to be the same are not written down. -/
noncomputable def allS (w : Ora) (c : Cf) (R : GRec) (env : Br AV) (o : Oper) (v : AV) (h : Nat → HT) (lo : Nat) (l : List Nat) : Option Obls :=
  match pureOp o.op && simpleV v with
  | true => some []
  | false => match allO w c R env o v h lo l with
    | some L => some (L.filter fun p => match p.2 with
      | .str _ | .list .. | .int .. | .bool _ => true
      | _ => !AV.same p.1 p.2)
    | none => none
theorem allS_ok {w : Ora} {c : Cf} {R : GRec} {env : Br AV} {o : Oper} {v : AV} {h0 h1 : HT} {h : Nat → HT} {lo : Nat} {l : List Nat} {L : Obls} (ho : fop (frG R) c.P c.G env h0 o = some (v, h1)) (hv : allS w c R env o v h lo l = some L) (hL : oksL L) :
    (l.all fun q => decide (q < lo) || match fop (frG R) c.P c.G env (h q) o with
    | some (v', _) => AV.same v' v
    | none => false) = true := by
  unfold allS at hv
  split at hv
  · rename_i hp
    rw [Bool.and_eq_true] at hp
    rw [List.all_eq_true]
    intro q _
    rw [Bool.or_eq_true]
    right
    rw [pure_at hp.1 ho (h q)]
    exact simple_same hp.2
  · split at hv
    case h_2 => cases hv
    rename_i L1 h2
    cases hv
    refine allO_ok l h2 fun p hp => ?_
    cases hs : AV.same p.1 p.2 with
    | true => rfl
    | false =>
      rw [← hs]
      refine hL p (List.mem_filter.2 ⟨hp, ?_⟩)
      split <;> first | rfl | (rw [hs]; rfl)

noncomputable def chkO (ops : Array Oper) (w : Ora) (wn : Nat → Nat × Nat) (c : Cf) (R : GRec) (N : Nat) (h : Nat → HT) : List Oper → List (Option AV) → Nat → Br AV → Nat → Option Obls
  | [], _, _, _, _ => some []
  | _ :: _, [], _, _, _ => none
  | o :: r, some v :: vs, i, env, k => if clsOp mdA o = 2 then (if k = (wn i).1 then chkO ops w wn c R N h r vs (Nat.succ i) (fput N env o.dst v) (Nat.succ k) else none)
        else (if (wn i).1 ≤ k ∧ k ≤ (wn i).2 then match allS w c R env o v h (wn i).1 (List.range ((wn i).2 + 1)), chkO ops w wn c R N h r vs (Nat.succ i) (fput N env o.dst v) k with
          | some L, some L' => some (L ++ L')
          | _, _ => none else none)
  | o :: r, none :: vs, i, env, k => if clsOp mdA o = 2 then (if k = (wn i).1 then chkO ops w wn c R N h r vs (Nat.succ i) (fput N env o.dst (.tup [])) (Nat.succ k) else none)
        else (if (wn i).1 ≤ k ∧ k ≤ (wn i).2 then chkO ops w wn c R N h r vs (Nat.succ i) (fput N env o.dst (.tup [])) k else none)
theorem chkO_ok {c : Cf} {R : GRec} {N : Nat} {ops : Array Oper} {w : Ora} {wn : Nat → Nat × Nat} {hf : Nat → HT} : ∀ (l : List Oper) {i k : Nat} {env : Br AV} {h : HT} {vs : List (Option AV)} {hs : List HT} {env' : Br AV} {h' : HT} {L0 L : Obls},
    seqG ops w c R N l env h = some ((vs, hs, env', h'), L0) → oksL L0 → (∀ j x, (h :: hs)[j]? = some x → hf (k + j) = x) → chkO ops w wn c R N hf l vs i env k = some L → oksL L → fchkW (frG R) c.P c.G N ops wn hf l i env k = true
  | [], i, k, env, h, vs, hs, env', h', L0, L, hq, hL0, hh, hv, hL => rfl
  | o :: r, i, k, env, h, vs, hs, env', h', L0, L, hq, hL0, hh, hv, hL => by
    have hk : hf k = h := hh 0 h rfl
    simp only [seqG] at hq
    simp only [fchkW]
    split at hq
    · rename_i La hw
      split at hq
      case h_2 => cases hq
      rename_i v h1 Lb ho
      split at hq
      case h_2 => cases hq
      rename_i vs1 hs1 e1 h2 Lc hr
      simp only [Option.some.injEq, Prod.mk.injEq] at hq
      obtain ⟨⟨rfl, rfl, rfl, rfl⟩, rfl⟩ := hq
      have ho' := opG_fop ho hL0.right.left
      rw [wantG_ok hw hL0.left]
      simp only
      rw [hk, ho']
      simp only [chkO] at hv ⊢
      by_cases hc : clsOp mdA o = 2
      · rw [if_pos hc] at hv ⊢
        split at hv
        case isFalse => cases hv
        rename_i hkk
        rw [if_pos hc] at hh
        rw [Bool.and_eq_true]
        exact ⟨decide_eq_true hkk, chkO_ok r hr hL0.right.right (shift_at hh) hv hL⟩
      · rw [if_neg hc] at hv ⊢
        split at hv
        case isFalse => cases hv
        rename_i hkk
        split at hv
        case h_2 => cases hv
        rename_i L1 L2 hs hrr
        cases hv
        rw [if_neg hc] at hh
        obtain rfl := fop_keeps ho' hc
        rw [Bool.and_eq_true, Bool.and_eq_true, Bool.and_eq_true]
        exact ⟨⟨⟨decide_eq_true hkk.1, decide_eq_true hkk.2⟩, allS_ok ho' hs hL.left⟩, chkO_ok r hr hL0.right.right hh hrr hL.right⟩
    · rename_i La hw
      split at hq
      case h_2 => cases hq
      rename_i vs1 hs1 e1 h2 Lc hr
      simp only [Option.some.injEq, Prod.mk.injEq] at hq
      obtain ⟨⟨rfl, rfl, rfl, rfl⟩, rfl⟩ := hq
      rw [wantG_ok hw hL0.left]
      simp only [chkO] at hv ⊢
      by_cases hc : clsOp mdA o = 2
      · rw [if_pos hc] at hv ⊢
        split at hv
        case isFalse => cases hv
        rename_i hkk
        rw [if_pos hc] at hh
        rw [Bool.and_eq_true]
        exact ⟨decide_eq_true hkk, chkO_ok r hr hL0.right (shift_at hh) hv hL⟩
      · rw [if_neg hc] at hv ⊢
        split at hv
        case isFalse => cases hv
        rename_i hkk
        rw [if_neg hc] at hh
        rw [Bool.and_eq_true, Bool.and_eq_true]
        exact ⟨⟨decide_eq_true hkk.1, decide_eq_true hkk.2⟩, chkO_ok r hr hL0.right hh hv hL⟩
    · cases hq

noncomputable def regO (ops : Array Oper) (w : Ora) (c : Cf) (R : GRec) (N : Nat) (env : Br AV) (h : HT) : RS :=
  match seqG ops w c R N ops.toList env h with
  | some ((vs, hs, env', h'), L) => match drawOkOf (okW mdA ops (winOf mdA ops)) ops with
    | true => match chkO ops w (winOf mdA ops) c R N (fun q => (h :: hs).getD q HT.none) ops.toList vs 0 env 0 with
      | some L' => some ((env', h'), L ++ L')
      | none => none
    | false => none
  | none => none
theorem regO_ok {ops : Array Oper} {w : Ora} {c : Cf} {R : GRec} {N : Nat} {env : Br AV} {h : HT} {r : Br AV × HT} {L : Obls} (hv : regO ops w c R N env h = some (r, L)) (hL : oksL L) : fregW (frG R) c.P c.G N ops env h = some r := by
  unfold regO at hv
  unfold fregW
  split at hv
  case h_2 => cases hv
  rename_i vs hs env' h' L1 hq
  split at hv
  case h_2 => cases hv
  rename_i hd
  split at hv
  case h_2 => cases hv
  rename_i L2 hc
  cases hv
  rw [seqG_ok _ hq hL.left]
  simp only
  rw [if_pos ⟨hd, chkO_ok _ hq hL.left getD_at hc hL.right⟩]

/-! ### Code -/
abbrev RC := Option ((Exit × Br AV × HT) × Obls)
noncomputable def loopO (f : Br AV → HT → RC) (n : Nat) : Br AV → HT → RC :=
  Nat.rec (motive := fun _ => Br AV → HT → RC) (fun _ _ => none) (fun _ ih env h => match f env h with
    | some ((.normal, env', h'), L) => match ih env' h' with
      | some (r, L') => some (r, L ++ L')
      | none => none
    | r => r) n
def finG (x : RS) : RC := match x with
  | some ((e, h), L) => some ((.normal, e, h), L)
  | none => none
noncomputable def cdO (c : Cf) (w : Ora) (R : GRec) (N : Nat) : Code → Br AV → HT → RC
  | .region _ ops d, env, h => finG (match d with
    | true => match drawOk mdA ops with
      | true => opsG ops w c R N ops.toList env h
      | false => regO ops w c R N env h
    | false => opsG ops w c R N ops.toList env h)
  | .seq a b, env, h => match cdO c w R N a env h with
    | some ((.normal, env', h'), L) => match cdO c w R N b env' h' with
      | some (r, L') => some (r, L ++ L')
      | none => none
    | r => r
  | .cond o a b, env, h => match askO w o with
    | none => match fev c.G env o with
      | some (.bool true) => cdO c w R N a env h
      | some (.bool false) => cdO c w R N b env h
      | _ => none
    | some t => match fev c.G env o with
      | some v => match (match t with | true => cdO c w R N a env h | false => cdO c w R N b env h) with
        | some (r, L) => some (r, (v, .bool t) :: L)
        | none => none
      | none => none
  | .block id b, env, h => match cdO c w R N b env h with
    | some ((.exit id', env', h'), L) => match Nat.beq id' id with
      | true => some ((.normal, env', h'), L)
      | false => some ((.exit id', env', h'), L)
    | r => r
  | .loop b, env, h => loopO (cdO c w R N b) c.n env h
  | .skip, env, h => some ((.normal, env, h), [])
  | .label _, env, h => some ((.normal, env, h), [])
  | .exit id, env, h => some ((.exit id, env, h), [])
  | .ret, env, h => some ((.ret, env, h), [])
  | _, _, _ => none
theorem finG_ok {x : RS} {r : Exit × Br AV × HT} {L : Obls} (h : finG x = some (r, L)) : ∃ e h', x = some ((e, h'), L) ∧ r = (.normal, e, h') := by
  unfold finG at h
  split at h
  · rename_i e h' L1; cases h; exact ⟨e, h', rfl, rfl⟩
  · cases h
theorem cdO_ok {c : Cf} {w : Ora} {R : GRec} {N : Nat} : ∀ (x : Code) {env : Br AV} {h : HT} {r : Exit × Br AV × HT} {L : Obls}, cdO c w R N x env h = some (r, L) → oksL L → fcode (frG R) c.P c.G c.n N x env h = some r
  | .skip, env, h, r, L, hv, hL => by cases hv; rfl
  | .label _, env, h, r, L, hv, hL => by cases hv; rfl
  | .exit _, env, h, r, L, hv, hL => by cases hv; rfl
  | .ret, env, h, r, L, hv, hL => by cases hv; rfl
  | .rangeFunc .., env, h, r, L, hv, hL => by cases hv
  | .scope .., env, h, r, L, hv, hL => by cases hv
  | .goto .., env, h, r, L, hv, hL => by cases hv
  | .refuse .., env, h, r, L, hv, hL => by cases hv
  | .region _ ops d, env, h, r, L, hv, hL => by
    simp only [cdO] at hv
    obtain ⟨e, h', h1, rfl⟩ := finG_ok hv
    simp only [fcode]
    cases d with
    | false => simp only at h1 ⊢; rw [opsG_ok _ h1 hL]
    | true =>
      simp only at h1 ⊢
      split at h1
      · rename_i hd; rw [hd]; simp only; rw [opsG_ok _ h1 hL]
      · rename_i hd; rw [hd]; simp only; rw [regO_ok h1 hL]
  | .seq a b, env, h, r, L, hv, hL => by
    simp only [cdO] at hv
    simp only [fcode]
    split at hv
    · rename_i env' h' L1 h1
      split at hv
      case h_2 => cases hv
      rename_i r2 L2 h2
      cases hv
      rw [cdO_ok a h1 hL.left]
      exact cdO_ok b h2 hL.right
    · rename_i hx
      rw [cdO_ok a hv hL]
      obtain ⟨e, env', h'⟩ := r
      cases e <;> first | rfl | exact absurd hv (hx _ _ _)
  | .cond o a b, env, h, r, L, hv, hL => by
    simp only [cdO] at hv
    simp only [fcode]
    split at hv
    · split at hv
      · rename_i he; rw [he]; exact cdO_ok a hv hL
      · rename_i he; rw [he]; exact cdO_ok b hv hL
      · cases hv
    · rename_i t ht
      split at hv
      case h_2 => cases hv
      rename_i v he
      split at hv
      case h_2 => cases hv
      rename_i r1 L1 h1
      cases hv
      have hs := AV.same_eq (hL (v, .bool t) (List.mem_cons_self ..))
      simp only at hs
      subst hs
      have hL1 : oksL L1 := fun p hp => hL p (List.mem_cons_of_mem _ hp)
      rw [he]
      cases t with
      | true => exact cdO_ok a h1 hL1
      | false => exact cdO_ok b h1 hL1
  | .block id b, env, h, r, L, hv, hL => by
    simp only [cdO] at hv
    simp only [fcode]
    split at hv
    · rename_i id' env' h' L1 h1
      split at hv
      · rename_i hb; cases hv; rw [cdO_ok b h1 hL]; simp only; rw [hb]
      · rename_i hb; cases hv; rw [cdO_ok b h1 hL]; simp only; rw [hb]
    · rename_i hx
      rw [cdO_ok b hv hL]
      obtain ⟨e, env', h'⟩ := r
      cases e <;> first | rfl | exact absurd hv (hx _ _ _ _)
  | .loop b, env, h, r, L, hv, hL => by
    simp only [fcode]
    have key : ∀ (n : Nat) {env : Br AV} {h : HT} {L : Obls}, loopO (cdO c w R N b) n env h = some (r, L) → oksL L → floop (fcode (frG R) c.P c.G c.n N b) n env h = some r := by
      intro n
      induction n with
      | zero => intro env h L hv _; cases hv
      | succ n ih =>
        intro env h L hv hL
        have hv : (match cdO c w R N b env h with
          | some ((.normal, env', h'), L) => match loopO (cdO c w R N b) n env' h' with
            | some (r, L') => some (r, L ++ L')
            | none => none
          | r => r) = some (r, L) := hv
        simp only [floop]
        split at hv
        · rename_i env' h' L1 h1
          split at hv
          case h_2 => cases hv
          rename_i r2 L2 h2
          cases hv
          rw [cdO_ok b h1 hL.left]
          exact ih h2 hL.right
        · rename_i hx
          rw [cdO_ok b hv hL]
          obtain ⟨e, env', h'⟩ := r
          cases e <;> first | rfl | exact absurd hv (hx _ _ _)
    exact key c.n hv hL

/-! ### Calls -/
noncomputable def bodyO (c : Cf) (w : Ora) (R : GRec) (args : List AV) (h : HT) (fn : Func) : RG :=
  match fn.body with
  | none => none
  | some code => match Nat.ble args.length fn.ntmps with
    | false => none
    | true => match cdO c w R fn.ntmps code (fenv fn.ntmps args) h with
      | some (x, L) => match ffin c.P fn (some x) with
        | some r => some (r, L)
        | none => none
      | none => none
/-- Calls: those of W with what is written down, the others as they are. -/
noncomputable def runG (c : Cf) (O : KnownT) (W : Nat → Option Ora) (d : Nat) : GRec :=
  Nat.rec (motive := fun _ => GRec) (fun _ _ _ => none) (fun n ih f args h => match W f with
    | none => plO (runF c O (Nat.succ n) f args h)
    | some w => match c.P.funcs[f]? with
      | none => none
      | some fn => bodyO c w ih args h fn) d
theorem runG_eq (c : Cf) (O : KnownT) (O' : Known) (hO : KSim O O') (W : Nat → Option Ora) (hW : ∀ f, (W f).isSome = true → O' f = none) : ∀ (d : Nat), FSim (frG (runG c O W d)) (erunO c.P (fun _ => mdA) c.G O' c.n d)
  | 0 => fun g xs h r h' k hv => by obtain ⟨L, h1, _⟩ := frG_ex hv; cases h1
  | d + 1 => fun f args h r h' k hv => by
    obtain ⟨L, h1, hL⟩ := frG_ex hv
    have h1 : (match W f with
      | none => plO (runF c O (Nat.succ d) f args h)
      | some w => match c.P.funcs[f]? with
        | none => none
        | some fn => bodyO c w (runG c O W d) args h fn) = some ((r, h'), L) := h1
    split at h1
    · exact runF_eq c O O' hO (d + 1) f args h r h' k (plO_ok h1)
    · rename_i w hw
      simp only [erunO]
      rw [hW f (by rw [hw]; rfl)]
      simp only
      split at h1
      · cases h1
      · rename_i fn hf
        rw [hf]
        simp only
        unfold bodyO at h1
        split at h1
        · cases h1
        · rename_i code hb
          rw [hb]
          simp only
          split at h1
          · cases h1
          · rename_i hl
            obtain ⟨e1, e2⟩ := fenv_eq (Nat.le_of_ble_eq_true hl)
            split at h1
            case h_2 => cases h1
            rename_i x L1 hc
            split at h1
            case h_2 => cases h1
            rename_i r1 hfin
            cases h1
            obtain ⟨ex, env', h2⟩ := x
            obtain ⟨a, b, cc⟩ := fcode_eq (runG_eq c O O' hO W hW d) code e1 k (cdO_ok code hc hL)
            rw [e2] at cc
            rw [cc]
            exact ffin_eq a b hfin
/-- What a call gives, as a triple. -/
theorem runG_xs {c : Cf} {O : KnownT} {O' : Known} (hO : KSim O O') (hK : KnownOk c.P c.G O') {W : Nat → Option Ora} (hW : ∀ f, (W f).isSome = true → O' f = none) {d f : Nat} {args : List AV} {h h' : HT} {r : AV} {L : Obls} (k : h.ok)
    (hv : runG c O W d f args h = some ((r, h'), L)) (hL : oksL L) : XS c.P c.G f args h.den fun r1 H1 => r1 = r ∧ H1 = h'.den :=
  erunO_ok c.P _ _ O' hK c.n d f args h.den r h'.den ((runG_eq c O O' hO W hW d) f args h r h' k (frG_of hv hL)).2
end Go.Vi
