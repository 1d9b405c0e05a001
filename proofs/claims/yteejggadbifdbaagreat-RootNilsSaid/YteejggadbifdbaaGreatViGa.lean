/- Vi, part Ga: calls that are computed, with what must be equal written down, and with truths that are given. -/
import Derived.Test.YteejggadbifdbaaGreatViFi
section
set_option autoImplicit false
set_option linter.unusedVariables false
set_option linter.unusedSimpArgs false
set_option maxRecDepth 100000
namespace Go.Vi

/-- What must be the same. -/
abbrev Obls := List (AV × AV)
def oksL (L : Obls) : Prop := ∀ p ∈ L, AV.same p.1 p.2 = true
theorem oksL.left {L L' : Obls} (h : oksL (L ++ L')) : oksL L := fun p hp => h p (List.mem_append_left _ hp)
theorem oksL.right {L L' : Obls} (h : oksL (L ++ L')) : oksL L' := fun p hp => h p (List.mem_append_right _ hp)
/-- Slots whose truth is given. -/
abbrev Ora := Nat → Option Bool
abbrev RG := Option ((AV × HT) × Obls)
abbrev GRec := Nat → List AV → HT → RG
abbrev OpG := Cf → GRec → Br AV → HT → RG
open Classical in
/-- The calls as they are if all is the same that must be. -/
noncomputable def frG (R : GRec) : FRec := fun g xs h => match R g xs h with
  | some (r, L) => if oksL L then some r else none
  | none => none
theorem frG_of {R : GRec} {g : Nat} {xs : List AV} {h : HT} {r : AV × HT} {L : Obls} (hv : R g xs h = some (r, L)) (hL : oksL L) : frG R g xs h = some r := by
  unfold frG; rw [hv]; simp only; rw [if_pos hL]
theorem frG_ex {R : GRec} {g : Nat} {xs : List AV} {h : HT} {r : AV × HT} (hv : frG R g xs h = some r) : ∃ L, R g xs h = some (r, L) ∧ oksL L := by
  unfold frG at hv
  split at hv
  · rename_i r' L hr
    split at hv
    · rename_i hL; cases hv; exact ⟨L, hr, hL⟩
    · cases hv
  · cases hv

noncomputable def plO (x : Option (AV × HT)) : RG := Option.rec (motive := fun _ => RG) none (fun r => some (r, [])) x
theorem plO_ok {x : Option (AV × HT)} {r : AV × HT} {L : Obls} (h : plO x = some (r, L)) : x = some r := by
  cases x with
  | none => cases h
  | some a => cases h; rfl
def noR : FRec := fun _ _ _ => none

/-! ### Operations -/
noncomputable def enterG (c : Cf) (R : GRec) (h : HT) (g : Nat) (xs : List AV) : RG :=
  Bool.rec (motive := fun _ => RG) (plO (keep h (vext2T c.P h g xs))) (R g xs h) (enterOk c.P g)
noncomputable def callVG (c : Cf) (R : GRec) (env : Br AV) (h : HT) (args : List Operand) (fv : AV) : RG :=
  ClV.rec (motive := fun _ => RG) none (fun g cs => Option.rec (motive := fun _ => RG) none (fun xs => enterG c R h g (xs ++ cs)) (evs1 c env args)) (clv fv)
noncomputable def callG (f : Operand) (args : Array Operand) : OpG := fun c R env h => Option.rec (motive := fun _ => RG) none (callVG c R env h args.toList) (ev1 c env f)
noncomputable def invG (c : Cf) (R : GRec) (h : HT) (name : String) (xs : List AV) (v : AV) : RG := match v with
  | .iface t v => match methOf c.P t name with
    | some g => if enterOk c.P g = true then R g (v :: xs) h else none
    | none => none
  | _ => none
noncomputable def invokeG (rv : Operand) (name : String) (args : Array Operand) : OpG := fun c R env h =>
  Option.rec (motive := fun _ => RG) none (fun v => Option.rec (motive := fun _ => RG) none (fun xs => invG c R h name xs v) (evs1 c env args.toList)) (ev1 c env rv)
noncomputable def callOpG (cl : Call) : OpG :=
  Call.rec (motive := fun _ => OpG) (fun callee args ts => Callee.rec (motive := fun _ => OpG) (fun f => callG f args) (fun rv name => invokeG rv name args) (fun b c _ env h => plO (builtinF b args ts c noR env h)) callee) cl
def askO (w : Ora) : Operand → Option Bool
  | .tmp t => w t
  | _ => none
noncomputable def pickG (w : Ora) (x a b : Operand) : OpG := fun c _ env h => match askO w x with
  | none => plO (pickF x a b c noR env h)
  | some t => match ev1 c env x with
    | none => none
    | some v => match keep h (ev1 c env (match t with | true => a | false => b)) with
      | none => none
      | some r => some (r, [(v, .bool t)])
noncomputable def opG (w : Ora) (op : Op) : OpG := match op with
  | .call cl => callOpG cl
  | .pick x a b => pickG w x a b
  | op => fun c _ env h => plO (opF op c noR env h)
theorem pickG_ok {w : Ora} {x a b : Operand} {c : Cf} {R : GRec} {F : FRec} {env : Br AV} {h : HT} {r : AV × HT} {L : Obls} (hv : pickG w x a b c R env h = some (r, L)) (hL : oksL L) : opF (.pick x a b) c F env h = some r := by
  unfold pickG at hv
  split at hv
  · exact plO_ok hv
  · rename_i t ht
    split at hv
    · cases hv
    · rename_i v hx
      split at hv
      · cases hv
      · rename_i r1 hk
        cases hv
        have hs := AV.same_eq (hL (v, .bool t) (List.mem_cons_self ..))
        simp only at hs
        subst hs
        show with1 c env x (pickV c env h a b) = some r
        unfold with1
        rw [hx]
        show pickV c env h a b (.bool t) = some r
        cases t with
        | true => exact hk
        | false => exact hk

theorem opF_noR {op : Op} (ho : ∀ cl, op ≠ .call cl) (c : Cf) (R R' : FRec) (env : Br AV) (h : HT) : opF op c R env h = opF op c R' env h := by
  cases op <;> first
    | rfl
    | exact absurd rfl (ho _)
theorem callVG_ok {c : Cf} {R : GRec} {env : Br AV} {h : HT} {args : List Operand} {fv : AV} {r : AV × HT} {L : Obls} (hv : callVG c R env h args fv = some (r, L)) (hL : oksL L) : callV c (frG R) env h args fv = some r := by
  unfold callVG at hv
  unfold callV
  cases hc : clv fv with
  | no => rw [hc] at hv; cases hv
  | clo g cs =>
    rw [hc] at hv
    have hv : Option.rec (motive := fun _ => RG) none (fun xs => enterG c R h g (xs ++ cs)) (evs1 c env args) = some (r, L) := hv
    show Option.rec (motive := fun _ => Option (AV × HT)) none (fun xs => enterF c (frG R) h g (xs ++ cs)) (evs1 c env args) = some r
    cases hx : evs1 c env args with
    | none => rw [hx] at hv; cases hv
    | some xs =>
      rw [hx] at hv
      have hv : Bool.rec (motive := fun _ => RG) (plO (keep h (vext2T c.P h g (xs ++ cs)))) (R g (xs ++ cs) h) (enterOk c.P g) = some (r, L) := hv
      show Bool.rec (motive := fun _ => Option (AV × HT)) (keep h (vext2T c.P h g (xs ++ cs))) (frG R g (xs ++ cs) h) (enterOk c.P g) = some r
      cases he : enterOk c.P g with
      | true => rw [he] at hv; exact frG_of hv hL
      | false => rw [he] at hv; exact plO_ok hv
theorem opG_ok {w : Ora} {op : Op} {c : Cf} {R : GRec} {env : Br AV} {h : HT} {r : AV × HT} {L : Obls} (hv : opG w op c R env h = some (r, L)) (hL : oksL L) : opF op c (frG R) env h = some r := by
  unfold opG at hv
  split at hv
  · rename_i cl
    obtain ⟨callee, args, ts⟩ := cl
    cases callee with
    | value f =>
      have hv : Option.rec (motive := fun _ => RG) none (callVG c R env h args.toList) (ev1 c env f) = some (r, L) := hv
      show Option.rec (motive := fun _ => Option (AV × HT)) none (callV c (frG R) env h args.toList) (ev1 c env f) = some r
      cases hf : ev1 c env f with
      | none => rw [hf] at hv; cases hv
      | some fv => rw [hf] at hv; exact callVG_ok hv hL
    | builtin b => exact plO_ok hv
    | invoke rv name =>
      have hv : Option.rec (motive := fun _ => RG) none (fun v => Option.rec (motive := fun _ => RG) none (fun xs => invG c R h name xs v) (evs1 c env args.toList)) (ev1 c env rv) = some (r, L) := hv
      show Option.rec (motive := fun _ => Option (AV × HT)) none (fun v => Option.rec (motive := fun _ => Option (AV × HT)) none (fun xs => invV c (frG R) h name xs v) (evs1 c env args.toList)) (ev1 c env rv) = some r
      cases hf : ev1 c env rv with
      | none => rw [hf] at hv; cases hv
      | some v =>
        rw [hf] at hv
        have hv : Option.rec (motive := fun _ => RG) none (fun xs => invG c R h name xs v) (evs1 c env args.toList) = some (r, L) := hv
        show Option.rec (motive := fun _ => Option (AV × HT)) none (fun xs => invV c (frG R) h name xs v) (evs1 c env args.toList) = some r
        cases hx : evs1 c env args.toList with
        | none => rw [hx] at hv; cases hv
        | some xs =>
          rw [hx] at hv
          have hv : invG c R h name xs v = some (r, L) := hv
          show invV c (frG R) h name xs v = some r
          unfold invG at hv
          unfold invV
          cases v with
          | iface t w =>
            simp only at hv ⊢
            cases hg : methOf c.P t name with
            | none => rw [hg] at hv; cases hv
            | some g =>
              rw [hg] at hv
              simp only at hv ⊢
              by_cases hen : enterOk c.P g = true
              · rw [if_pos hen] at hv ⊢
                exact frG_of hv hL
              · rw [if_neg hen] at hv
                cases hv
          | _ => cases hv
  · exact pickG_ok hv hL
  · rename_i h0 h1
    rw [opF_noR (fun cl e => h0 cl e) c (frG R) noR]
    exact plO_ok hv
theorem opG_fop {w : Ora} {o : Oper} {c : Cf} {R : GRec} {env : Br AV} {h : HT} {r : AV × HT} {L : Obls} (hv : opG w o.op c R env h = some (r, L)) (hL : oksL L) : fop (frG R) c.P c.G env h o = some r := opF_eq (opG_ok hv hL)

/-! ### Whether an operation is done -/
noncomputable def wantG (w : Ora) (g : Option (Nat × Bool)) (ops : Array Oper) (env : Br AV) : Option (Bool × Obls) :=
  match g with
  | none => some (true, [])
  | some (j, want) => match (ops[j]?).bind (·.dst) with
    | none => none
    | some t => match w t with
      | none => match fwant (some (j, want)) ops env with
        | some b => some (b, [])
        | none => none
      | some b => match env.get t with
        | some v => some (b == want, [(v, .bool b)])
        | none => none
theorem wantG_ok {w : Ora} {g : Option (Nat × Bool)} {ops : Array Oper} {env : Br AV} {b : Bool} {L : Obls} (hv : wantG w g ops env = some (b, L)) (hL : oksL L) : fwant g ops env = some b := by
  unfold wantG at hv
  split at hv
  · cases hv; rfl
  · rename_i j want
    split at hv
    · cases hv
    · rename_i t ht
      split at hv
      · split at hv
        · rename_i b' hb; cases hv; exact hb
        · cases hv
      · rename_i b' hb
        split at hv
        · rename_i v hg
          cases hv
          have hs := AV.same_eq (hL (v, .bool b') (List.mem_cons_self ..))
          simp only at hs
          subst hs
          unfold fwant
          simp only [ht, Option.bind_some, hg]
        · cases hv

/-! ### Regions -/
abbrev RS := Option ((Br AV × HT) × Obls)
noncomputable def opsG (ops : Array Oper) (w : Ora) (c : Cf) (R : GRec) (N : Nat) : List Oper → Br AV → HT → RS
  | [], env, h => some ((env, h), [])
  | o :: r, env, h => match wantG w o.guard ops env with
    | some (true, L) => match opG w o.op c R env h with
      | some ((v, h'), L1) => match opsG ops w c R N r (fput N env o.dst v) h' with
        | some (x, L2) => some (x, L ++ (L1 ++ L2))
        | none => none
      | none => none
    | some (false, L) => match opsG ops w c R N r (fput N env o.dst (.tup [])) h with
      | some (x, L2) => some (x, L ++ L2)
      | none => none
    | none => none
theorem opsG_ok {ops : Array Oper} {w : Ora} {c : Cf} {R : GRec} {N : Nat} : ∀ (l : List Oper) {env : Br AV} {h : HT} {r : Br AV × HT} {L : Obls}, opsG ops w c R N l env h = some (r, L) → oksL L → fseq (frG R) c.P c.G N ops l env h = some r
  | [], env, h, r, L, hv, hL => by cases hv; rfl
  | o :: l, env, h, r, L, hv, hL => by
    simp only [opsG] at hv
    simp only [fseq]
    split at hv
    · rename_i L0 hw
      split at hv
      · rename_i v h' L1 ho
        split at hv
        · rename_i x L2 hr
          cases hv
          rw [wantG_ok hw hL.left]
          simp only
          rw [opG_fop ho hL.right.left]
          exact opsG_ok l hr hL.right.right
        · cases hv
      · cases hv
    · rename_i L0 hw
      split at hv
      · rename_i x L2 hr
        cases hv
        rw [wantG_ok hw hL.left]
        exact opsG_ok l hr hL.right
      · cases hv
    · cases hv

noncomputable def seqG (ops : Array Oper) (w : Ora) (c : Cf) (R : GRec) (N : Nat) : List Oper → Br AV → HT → Option ((List (Option AV) × List HT × Br AV × HT) × Obls)
  | [], env, h => some (([], [], env, h), [])
  | o :: r, env, h => match wantG w o.guard ops env with
    | some (true, L) => match opG w o.op c R env h with
      | some ((v, h'), L1) => match seqG ops w c R N r (fput N env o.dst v) h' with
        | some ((vs, hs, e, h2), L2) => some ((some v :: vs, if clsOp mdA o = 2 then h' :: hs else hs, e, h2), L ++ (L1 ++ L2))
        | none => none
      | none => none
    | some (false, L) => match seqG ops w c R N r (fput N env o.dst (.tup [])) h with
      | some ((vs, hs, e, h2), L2) => some ((none :: vs, if clsOp mdA o = 2 then h :: hs else hs, e, h2), L ++ L2)
      | none => none
    | none => none
theorem seqG_ok {ops : Array Oper} {w : Ora} {c : Cf} {R : GRec} {N : Nat} : ∀ (l : List Oper) {env : Br AV} {h : HT} {vs : List (Option AV)} {r : List HT × Br AV × HT} {L : Obls}, seqG ops w c R N l env h = some ((vs, r), L) → oksL L → fseqH (frG R) c.P c.G N ops l env h = some r
  | [], env, h, vs, r, L, hv, hL => by cases hv; rfl
  | o :: l, env, h, vs, r, L, hv, hL => by
    simp only [seqG] at hv
    simp only [fseqH]
    split at hv
    · rename_i L0 hw
      split at hv
      · rename_i v h' L1 ho
        split at hv
        · rename_i vs hs e h2 L2 hr
          cases hv
          rw [wantG_ok hw hL.left]
          simp only
          rw [opG_fop ho hL.right.left]
          simp only
          rw [seqG_ok l hr hL.right.right]
        · cases hv
      · cases hv
    · rename_i L0 hw
      split at hv
      · rename_i vs hs e h2 L2 hr
        cases hv
        rw [wantG_ok hw hL.left]
        simp only
        rw [seqG_ok l hr hL.right]
      · cases hv
    · cases hv

noncomputable def allO (w : Ora) (c : Cf) (R : GRec) (env : Br AV) (o : Oper) (v : AV) (h : Nat → HT) (lo : Nat) : List Nat → Option Obls
  | [] => some []
  | q :: r => match allO w c R env o v h lo r with
    | some L => match Nat.blt q lo with
      | true => some L
      | false => match opG w o.op c R env (h q) with
        | some ((v', _), L1) => some ((v', v) :: (L1 ++ L))
        | none => none
    | none => none
theorem allO_ok {w : Ora} {c : Cf} {R : GRec} {env : Br AV} {o : Oper} {v : AV} {h : Nat → HT} {lo : Nat} : ∀ (l : List Nat) {L : Obls}, allO w c R env o v h lo l = some L → oksL L → (l.all fun q => decide (q < lo) || match fop (frG R) c.P c.G env (h q) o with
    | some (v', _) => AV.same v' v
    | none => false) = true
  | [], L, _, _ => rfl
  | q :: r, L, hv, hL => by
    simp only [allO] at hv
    split at hv
    case h_2 => cases hv
    rename_i L1 h1
    rw [List.all_cons, Bool.and_eq_true]
    split at hv
    · rename_i hb
      cases hv
      have hb : q < lo := by simpa [Nat.blt_eq] using hb
      exact ⟨by simp [hb], allO_ok r h1 hL⟩
    · split at hv
      case h_2 => cases hv
      rename_i v' h' L2 ho
      cases hv
      have hR : oksL (L2 ++ L1) := fun p hp => hL p (List.mem_cons_of_mem _ hp)
      refine ⟨?_, allO_ok r h1 hR.right⟩
      rw [Bool.or_eq_true]
      right
      rw [opG_fop ho hR.left]
      exact hL (v', v) (List.mem_cons_self ..)
/-- Values that are seen to be the same are not written down. -/
noncomputable def allS (w : Ora) (c : Cf) (R : GRec) (env : Br AV) (o : Oper) (v : AV) (h : Nat → HT) (lo : Nat) (l : List Nat) : Option Obls :=
  match pureOp o.op && simpleV v with
  | true => some []
  | false => match allO w c R env o v h lo l with
    | some L => some (L.filter fun p => match p.2 with
      | .str _ | .list .. | .int .. | .bool _ => true
      | _ => !AV.same p.1 p.2)
    | none => none
theorem allS_ok {w : Ora} {c : Cf} {R : GRec} {env : Br AV} {o : Oper} {v : AV} {h0 h1 : HT} {h : Nat → HT} {lo : Nat} {l : List Nat} {L : Obls} (ho : fop (frG R) c.P c.G env h0 o = some (v, h1)) (hv : allS w c R env o v h lo l = some L) (hL : oksL L) :
    (l.all fun q => decide (q < lo) || match fop (frG R) c.P c.G env (h q) o with
    | some (v', _) => AV.same v' v
    | none => false) = true := by
  unfold allS at hv
  split at hv
  · rename_i hp
    rw [Bool.and_eq_true] at hp
    rw [List.all_eq_true]
    intro q _
    rw [Bool.or_eq_true]
    right
    rw [pure_at hp.1 ho (h q)]
    exact simple_same hp.2
  · split at hv
    case h_2 => cases hv
    rename_i L1 h2
    cases hv
    refine allO_ok l h2 fun p hp => ?_
    cases hs : AV.same p.1 p.2 with
    | true => rfl
    | false =>
      rw [← hs]
      refine hL p (List.mem_filter.2 ⟨hp, ?_⟩)
      split <;> first | rfl | (rw [hs]; rfl)

noncomputable def chkO (ops : Array Oper) (w : Ora) (wn : Nat → Nat × Nat) (c : Cf) (R : GRec) (N : Nat) (h : Nat → HT) : List Oper → List (Option AV) → Nat → Br AV → Nat → Option Obls
  | [], _, _, _, _ => some []
  | _ :: _, [], _, _, _ => none
  | o :: r, some v :: vs, i, env, k => if clsOp mdA o = 2 then (if k = (wn i).1 then chkO ops w wn c R N h r vs (Nat.succ i) (fput N env o.dst v) (Nat.succ k) else none)
        else (if (wn i).1 ≤ k ∧ k ≤ (wn i).2 then match allS w c R env o v h (wn i).1 (List.range ((wn i).2 + 1)), chkO ops w wn c R N h r vs (Nat.succ i) (fput N env o.dst v) k with
          | some L, some L' => some (L ++ L')
          | _, _ => none else none)
  | o :: r, none :: vs, i, env, k => if clsOp mdA o = 2 then (if k = (wn i).1 then chkO ops w wn c R N h r vs (Nat.succ i) (fput N env o.dst (.tup [])) (Nat.succ k) else none)
        else (if (wn i).1 ≤ k ∧ k ≤ (wn i).2 then chkO ops w wn c R N h r vs (Nat.succ i) (fput N env o.dst (.tup [])) k else none)
theorem chkO_ok {c : Cf} {R : GRec} {N : Nat} {ops : Array Oper} {w : Ora} {wn : Nat → Nat × Nat} {hf : Nat → HT} : ∀ (l : List Oper) {i k : Nat} {env : Br AV} {h : HT} {vs : List (Option AV)} {hs : List HT} {env' : Br AV} {h' : HT} {L0 L : Obls},
    seqG ops w c R N l env h = some ((vs, hs, env', h'), L0) → oksL L0 → (∀ j x, (h :: hs)[j]? = some x → hf (k + j) = x) → chkO ops w wn c R N hf l vs i env k = some L → oksL L → fchkW (frG R) c.P c.G N ops wn hf l i env k = true
  | [], i, k, env, h, vs, hs, env', h', L0, L, hq, hL0, hh, hv, hL => rfl
  | o :: r, i, k, env, h, vs, hs, env', h', L0, L, hq, hL0, hh, hv, hL => by
    have hk : hf k = h := hh 0 h rfl
    simp only [seqG] at hq
    simp only [fchkW]
    split at hq
    · rename_i La hw
      split at hq
      case h_2 => cases hq
      rename_i v h1 Lb ho
      split at hq
      case h_2 => cases hq
      rename_i vs1 hs1 e1 h2 Lc hr
      simp only [Option.some.injEq, Prod.mk.injEq] at hq
      obtain ⟨⟨rfl, rfl, rfl, rfl⟩, rfl⟩ := hq
      have ho' := opG_fop ho hL0.right.left
      rw [wantG_ok hw hL0.left]
      simp only
      rw [hk, ho']
      simp only [chkO] at hv ⊢
      by_cases hc : clsOp mdA o = 2
      · rw [if_pos hc] at hv ⊢
        split at hv
        case isFalse => cases hv
        rename_i hkk
        rw [if_pos hc] at hh
        rw [Bool.and_eq_true]
        exact ⟨decide_eq_true hkk, chkO_ok r hr hL0.right.right (shift_at hh) hv hL⟩
      · rw [if_neg hc] at hv ⊢
        split at hv
        case isFalse => cases hv
        rename_i hkk
        split at hv
        case h_2 => cases hv
        rename_i L1 L2 hs hrr
        cases hv
        rw [if_neg hc] at hh
        obtain rfl := fop_keeps ho' hc
        rw [Bool.and_eq_true, Bool.and_eq_true, Bool.and_eq_true]
        exact ⟨⟨⟨decide_eq_true hkk.1, decide_eq_true hkk.2⟩, allS_ok ho' hs hL.left⟩, chkO_ok r hr hL0.right.right hh hrr hL.right⟩
    · rename_i La hw
      split at hq
      case h_2 => cases hq
      rename_i vs1 hs1 e1 h2 Lc hr
      simp only [Option.some.injEq, Prod.mk.injEq] at hq
      obtain ⟨⟨rfl, rfl, rfl, rfl⟩, rfl⟩ := hq
      rw [wantG_ok hw hL0.left]
      simp only [chkO] at hv ⊢
      by_cases hc : clsOp mdA o = 2
      · rw [if_pos hc] at hv ⊢
        split at hv
        case isFalse => cases hv
        rename_i hkk
        rw [if_pos hc] at hh
        rw [Bool.and_eq_true]
        exact ⟨decide_eq_true hkk, chkO_ok r hr hL0.right (shift_at hh) hv hL⟩
      · rw [if_neg hc] at hv ⊢
        split at hv
        case isFalse => cases hv
        rename_i hkk
        rw [if_neg hc] at hh
        rw [Bool.and_eq_true, Bool.and_eq_true]
        exact ⟨⟨decide_eq_true hkk.1, decide_eq_true hkk.2⟩, chkO_ok r hr hL0.right hh hv hL⟩
    · cases hq

noncomputable def regO (ops : Array Oper) (w : Ora) (c : Cf) (R : GRec) (N : Nat) (env : Br AV) (h : HT) : RS :=
  match seqG ops w c R N ops.toList env h with
  | some ((vs, hs, env', h'), L) => match drawOkOf (okW mdA ops (winOf mdA ops)) ops with
    | true => match chkO ops w (winOf mdA ops) c R N (fun q => (h :: hs).getD q HT.none) ops.toList vs 0 env 0 with
      | some L' => some ((env', h'), L ++ L')
      | none => none
    | false => none
  | none => none
theorem regO_ok {ops : Array Oper} {w : Ora} {c : Cf} {R : GRec} {N : Nat} {env : Br AV} {h : HT} {r : Br AV × HT} {L : Obls} (hv : regO ops w c R N env h = some (r, L)) (hL : oksL L) : fregW (frG R) c.P c.G N ops env h = some r := by
  unfold regO at hv
  unfold fregW
  split at hv
  case h_2 => cases hv
  rename_i vs hs env' h' L1 hq
  split at hv
  case h_2 => cases hv
  rename_i hd
  split at hv
  case h_2 => cases hv
  rename_i L2 hc
  cases hv
  rw [seqG_ok _ hq hL.left]
  simp only
  rw [if_pos ⟨hd, chkO_ok _ hq hL.left getD_at hc hL.right⟩]

/-! ### Code -/
abbrev RC := Option ((Exit × Br AV × HT) × Obls)
noncomputable def loopO (f : Br AV → HT → RC) (n : Nat) : Br AV → HT → RC :=
  Nat.rec (motive := fun _ => Br AV → HT → RC) (fun _ _ => none) (fun _ ih env h => match f env h with
    | some ((.normal, env', h'), L) => match ih env' h' with
      | some (r, L') => some (r, L ++ L')
      | none => none
    | r => r) n
def finG (x : RS) : RC := match x with
  | some ((e, h), L) => some ((.normal, e, h), L)
  | none => none
noncomputable def cdO (c : Cf) (w : Ora) (R : GRec) (N : Nat) : Code → Br AV → HT → RC
  | .region _ ops d, env, h => finG (match d with
    | true => match drawOk mdA ops with
      | true => opsG ops w c R N ops.toList env h
      | false => regO ops w c R N env h
    | false => opsG ops w c R N ops.toList env h)
  | .seq a b, env, h => match cdO c w R N a env h with
    | some ((.normal, env', h'), L) => match cdO c w R N b env' h' with
      | some (r, L') => some (r, L ++ L')
      | none => none
    | r => r
  | .cond o a b, env, h => match askO w o with
    | none => match fev c.G env o with
      | some (.bool true) => cdO c w R N a env h
      | some (.bool false) => cdO c w R N b env h
      | _ => none
    | some t => match fev c.G env o with
      | some v => match (match t with | true => cdO c w R N a env h | false => cdO c w R N b env h) with
        | some (r, L) => some (r, (v, .bool t) :: L)
        | none => none
      | none => none
  | .block id b, env, h => match cdO c w R N b env h with
    | some ((.exit id', env', h'), L) => match Nat.beq id' id with
      | true => some ((.normal, env', h'), L)
      | false => some ((.exit id', env', h'), L)
    | r => r
  | .loop b, env, h => loopO (cdO c w R N b) c.n env h
  | .skip, env, h => some ((.normal, env, h), [])
  | .label _, env, h => some ((.normal, env, h), [])
  | .exit id, env, h => some ((.exit id, env, h), [])
  | .ret, env, h => some ((.ret, env, h), [])
  | _, _, _ => none
theorem finG_ok {x : RS} {r : Exit × Br AV × HT} {L : Obls} (h : finG x = some (r, L)) : ∃ e h', x = some ((e, h'), L) ∧ r = (.normal, e, h') := by
  unfold finG at h
  split at h
  · rename_i e h' L1; cases h; exact ⟨e, h', rfl, rfl⟩
  · cases h
theorem cdO_ok {c : Cf} {w : Ora} {R : GRec} {N : Nat} : ∀ (x : Code) {env : Br AV} {h : HT} {r : Exit × Br AV × HT} {L : Obls}, cdO c w R N x env h = some (r, L) → oksL L → fcode (frG R) c.P c.G c.n N x env h = some r
  | .skip, env, h, r, L, hv, hL => by cases hv; rfl
  | .label _, env, h, r, L, hv, hL => by cases hv; rfl
  | .exit _, env, h, r, L, hv, hL => by cases hv; rfl
  | .ret, env, h, r, L, hv, hL => by cases hv; rfl
  | .rangeFunc .., env, h, r, L, hv, hL => by cases hv
  | .scope .., env, h, r, L, hv, hL => by cases hv
  | .goto .., env, h, r, L, hv, hL => by cases hv
  | .refuse .., env, h, r, L, hv, hL => by cases hv
  | .region _ ops d, env, h, r, L, hv, hL => by
    simp only [cdO] at hv
    obtain ⟨e, h', h1, rfl⟩ := finG_ok hv
    simp only [fcode]
    cases d with
    | false => simp only at h1 ⊢; rw [opsG_ok _ h1 hL]
    | true =>
      simp only at h1 ⊢
      split at h1
      · rename_i hd; rw [hd]; simp only; rw [opsG_ok _ h1 hL]
      · rename_i hd; rw [hd]; simp only; rw [regO_ok h1 hL]
  | .seq a b, env, h, r, L, hv, hL => by
    simp only [cdO] at hv
    simp only [fcode]
    split at hv
    · rename_i env' h' L1 h1
      split at hv
      case h_2 => cases hv
      rename_i r2 L2 h2
      cases hv
      rw [cdO_ok a h1 hL.left]
      exact cdO_ok b h2 hL.right
    · rename_i hx
      rw [cdO_ok a hv hL]
      obtain ⟨e, env', h'⟩ := r
      cases e <;> first | rfl | exact absurd hv (hx _ _ _)
  | .cond o a b, env, h, r, L, hv, hL => by
    simp only [cdO] at hv
    simp only [fcode]
    split at hv
    · split at hv
      · rename_i he; rw [he]; exact cdO_ok a hv hL
      · rename_i he; rw [he]; exact cdO_ok b hv hL
      · cases hv
    · rename_i t ht
      split at hv
      case h_2 => cases hv
      rename_i v he
      split at hv
      case h_2 => cases hv
      rename_i r1 L1 h1
      cases hv
      have hs := AV.same_eq (hL (v, .bool t) (List.mem_cons_self ..))
      simp only at hs
      subst hs
      have hL1 : oksL L1 := fun p hp => hL p (List.mem_cons_of_mem _ hp)
      rw [he]
      cases t with
      | true => exact cdO_ok a h1 hL1
      | false => exact cdO_ok b h1 hL1
  | .block id b, env, h, r, L, hv, hL => by
    simp only [cdO] at hv
    simp only [fcode]
    split at hv
    · rename_i id' env' h' L1 h1
      split at hv
      · rename_i hb; cases hv; rw [cdO_ok b h1 hL]; simp only; rw [hb]
      · rename_i hb; cases hv; rw [cdO_ok b h1 hL]; simp only; rw [hb]
    · rename_i hx
      rw [cdO_ok b hv hL]
      obtain ⟨e, env', h'⟩ := r
      cases e <;> first | rfl | exact absurd hv (hx _ _ _ _)
  | .loop b, env, h, r, L, hv, hL => by
    simp only [fcode]
    have key : ∀ (n : Nat) {env : Br AV} {h : HT} {L : Obls}, loopO (cdO c w R N b) n env h = some (r, L) → oksL L → floop (fcode (frG R) c.P c.G c.n N b) n env h = some r := by
      intro n
      induction n with
      | zero => intro env h L hv _; cases hv
      | succ n ih =>
        intro env h L hv hL
        have hv : (match cdO c w R N b env h with
          | some ((.normal, env', h'), L) => match loopO (cdO c w R N b) n env' h' with
            | some (r, L') => some (r, L ++ L')
            | none => none
          | r => r) = some (r, L) := hv
        simp only [floop]
        split at hv
        · rename_i env' h' L1 h1
          split at hv
          case h_2 => cases hv
          rename_i r2 L2 h2
          cases hv
          rw [cdO_ok b h1 hL.left]
          exact ih h2 hL.right
        · rename_i hx
          rw [cdO_ok b hv hL]
          obtain ⟨e, env', h'⟩ := r
          cases e <;> first | rfl | exact absurd hv (hx _ _ _)
    exact key c.n hv hL

/-! ### Calls -/
noncomputable def bodyO (c : Cf) (w : Ora) (R : GRec) (args : List AV) (h : HT) (fn : Func) : RG :=
  match fn.body with
  | none => none
  | some code => match Nat.ble args.length fn.ntmps with
    | false => none
    | true => match cdO c w R fn.ntmps code (fenv fn.ntmps args) h with
      | some (x, L) => match ffin c.P fn (some x) with
        | some r => some (r, L)
        | none => none
      | none => none
/-- Calls: those of W with what is written down, the others as they are. -/
noncomputable def runG (c : Cf) (O : KnownT) (W : Nat → Option Ora) (d : Nat) : GRec :=
  Nat.rec (motive := fun _ => GRec) (fun _ _ _ => none) (fun n ih f args h => match W f with
    | none => plO (runF c O (Nat.succ n) f args h)
    | some w => match c.P.funcs[f]? with
      | none => none
      | some fn => bodyO c w ih args h fn) d
theorem runG_eq (c : Cf) (O : KnownT) (O' : Known) (hO : KSim O O') (W : Nat → Option Ora) (hW : ∀ f, (W f).isSome = true → O' f = none) : ∀ (d : Nat), FSim (frG (runG c O W d)) (erunO c.P (fun _ => mdA) c.G O' c.n d)
  | 0 => fun g xs h r h' k hv => by obtain ⟨L, h1, _⟩ := frG_ex hv; cases h1
  | d + 1 => fun f args h r h' k hv => by
    obtain ⟨L, h1, hL⟩ := frG_ex hv
    have h1 : (match W f with
      | none => plO (runF c O (Nat.succ d) f args h)
      | some w => match c.P.funcs[f]? with
        | none => none
        | some fn => bodyO c w (runG c O W d) args h fn) = some ((r, h'), L) := h1
    split at h1
    · exact runF_eq c O O' hO (d + 1) f args h r h' k (plO_ok h1)
    · rename_i w hw
      simp only [erunO]
      rw [hW f (by rw [hw]; rfl)]
      simp only
      split at h1
      · cases h1
      · rename_i fn hf
        rw [hf]
        simp only
        unfold bodyO at h1
        split at h1
        · cases h1
        · rename_i code hb
          rw [hb]
          simp only
          split at h1
          · cases h1
          · rename_i hl
            obtain ⟨e1, e2⟩ := fenv_eq (Nat.le_of_ble_eq_true hl)
            split at h1
            case h_2 => cases h1
            rename_i x L1 hc
            split at h1
            case h_2 => cases h1
            rename_i r1 hfin
            cases h1
            obtain ⟨ex, env', h2⟩ := x
            obtain ⟨a, b, cc⟩ := fcode_eq (runG_eq c O O' hO W hW d) code e1 k (cdO_ok code hc hL)
            rw [e2] at cc
            rw [cc]
            exact ffin_eq a b hfin
/-- What a call gives, as a triple. -/
theorem runG_xs {c : Cf} {O : KnownT} {O' : Known} (hO : KSim O O') (hK : KnownOk c.P c.G O') {W : Nat → Option Ora} (hW : ∀ f, (W f).isSome = true → O' f = none) {d f : Nat} {args : List AV} {h h' : HT} {r : AV} {L : Obls} (k : h.ok)
    (hv : runG c O W d f args h = some ((r, h'), L)) (hL : oksL L) : XS c.P c.G f args h.den fun r1 H1 => r1 = r ∧ H1 = h'.den :=
  erunO_ok c.P _ _ O' hK c.n d f args h.den r h'.den ((runG_eq c O O' hO W hW d) f args h r h' k (frG_of hv hL)).2
end Go.Vi
end
section
set_option autoImplicit false
set_option linter.unusedVariables false
set_option linter.unusedSimpArgs false
set_option maxRecDepth 100000
namespace Go.Vi
open Go

/-- What code does from a state, whatever the machine's side is. -/
def Pc (P : Program) (G : Glob) (nb : Nat) (code : Code) (Q : Qv) (env : List AV) (H : Hp) : Prop :=
  ∀ (c : Cx) (a : Act), Sim c H → nb ≤ H.length → GOK c G → EnvR c env a.tmps → a.defers = [] → code.wp P (Post nb c H Q) a c.w
section
variable {P : Program} {G : Glob} {nb : Nat} {Q : Qv} {env env2 : List AV} {H H2 : Hp} {x y : Code}
theorem Pc.of {md : Oper → Md} (h : vcode (XS P G) P md G nb x Q env H) : Pc P G nb x Q env H := fun c a s hn hg he hd => vcode_sound x Q env H h c a s hn hg he hd
theorem Pc.mono {Q' : Qv} (h : Pc P G nb x Q env H) (hq : ∀ e env H, Q e env H → Q' e env H) : Pc P G nb x Q' env H := fun c a s hn hg he hd =>
  wp_mono (h c a s hn hg he hd) fun e a w hp => hp.mono hq
theorem Pc.seq (h : Pc P G nb x (thenQ (fun env H => Pc P G nb y Q env H) Q) env H) : Pc P G nb (.seq x y) Q env H := fun c a s hn hg he hd => by
  refine wp_seq (wp_mono (h c a s hn hg he hd) fun e a' w' hp => ?_)
  cases e with
  | normal =>
    obtain ⟨env', H', c', rfl, t, h3, h4, h5⟩ := hp
    exact wp_mono (h5 c' a' t.sim t.len (hg.fo t) h3 h4) fun e a w hp => hp.transF t
  | _ => exact hp
theorem Pc.ren {σ : List Nat} (r : Renames nb σ H H2) (hE : RenE σ env env2) (hN : ∀ y ∈ env, valN nb H y) (h : Pc P G nb x Q env H) : Pc P G nb x Q env2 H2 := fun c a s hn hg he hd =>
  wp_mono (h (renCx nb σ H c) a (r.sim s) r.len hg.ren (he.ren hE hN) hd) fun e a w hp => hp.transF (Fo.ren r s)
theorem XS.bodyP {f : Nat} {fn : Func} {code : Code} {args : List AV} {H : Hp} {K : AV → Hp → Prop} (hf : P.funcs[f]? = some fn) (hb : fn.body = some code)
    (h : Pc P G H.length code (fnQ P fn K) (args ++ List.replicate (fn.ntmps - args.length) .undef) H) : XS P G f args H K := by
  intro c Vs s hg hl hr
  refine calls_of_wp hf hb ?_
  have he : EnvR c (args ++ List.replicate (fn.ntmps - args.length) .undef) (Vs.toArray ++ Array.replicate (fn.ntmps - Vs.toArray.size) undef) := by
    refine ⟨by simp [hl], fun t x V hx hV => ?_⟩
    by_cases ht : t < args.length
    · rw [List.getElem?_append_left ht] at hx
      rw [Array.getElem?_append_left (by simpa [← hl] using ht)] at hV
      exact hr t x V hx (by simpa using hV)
    · rw [List.getElem?_append_right (by omega)] at hx
      have := List.mem_of_getElem? hx
      rw [List.eq_of_mem_replicate this]
      exact .undef V
  refine wp_mono (h c _ s (Nat.le_refl _) hg he rfl) fun e a w hp => ?_
  obtain ⟨env', H', c', rfl, t, h3, h4, h5⟩ := hp
  have t := t.to s
  have fin : (match vres P H' fn env' with | some r => K r H' | none => False) → a.defers = [] ∧ ∃ v, (results fn a.tmps).run P c'.w = .ok v c'.w ∧ ∃ r H'' c'' V, Ending.returned v = .returned V ∧ c'.w = c''.w ∧ To c H c'' H'' ∧ Rel c'' r V ∧ K r H'' := by
    intro h5
    split at h5
    · rename_i r hv
      obtain ⟨V, v1, v2⟩ := vres_sound (P := P) t.sim h3 hv
      exact ⟨h4, V, v1, r, H', c', V, rfl, rfl, t, v2, h5⟩
    · exact h5.elim
  cases e with
  | normal => exact fin h5
  | ret => exact fin h5
  | _ => exact h5.elim
end

/-! ### Whether one state is another one under new names, computed -/
def sameM : List (Int × AV) → List (Int × AV) → Bool
  | [], [] => true
  | x :: r, y :: s => decide (x.1 = y.1) && AV.same x.2 y.2 && sameM r s
  | _, _ => false
theorem sameM_eq : ∀ {a b : List (Int × AV)}, sameM a b = true → a = b
  | [], [], _ => rfl
  | [], _ :: _, h => by cases h
  | _ :: _, [], h => by cases h
  | (k, x) :: r, (k', y) :: s, h => by
    simp only [sameM, Bool.and_eq_true, decide_eq_true_eq] at h
    obtain ⟨⟨rfl, h2⟩, h3⟩ := h
    rw [AV.same_eq h2, sameM_eq h3]
def sameO : VO → VO → Bool
  | .arr T sz r, .arr T' sz' r' => Nat.beq T T' && Nat.beq sz sz' && sameLL r r'
  | .one T cs, .one T' cs' => Nat.beq T T' && sameL cs cs'
  | .map es, .map es' => sameM es es'
  | .frz sz r, .frz sz' r' => Nat.beq sz sz' && sameLL r r'
  | _, _ => false
theorem sameO_eq {a b : VO} (h : sameO a b = true) : a = b := by
  cases a <;> cases b <;> simp only [sameO, Bool.and_eq_true, Bool.false_eq_true] at h
  · obtain ⟨⟨h1, h2⟩, h3⟩ := h
    rw [Nat.eq_of_beq_eq_true h1, Nat.eq_of_beq_eq_true h2, sameLL_eq h3]
  · obtain ⟨h1, h3⟩ := h
    rw [Nat.eq_of_beq_eq_true h1, sameLL_eq h3]
  · rw [sameM_eq h]
  · obtain ⟨h1, h3⟩ := h
    rw [Nat.eq_of_beq_eq_true h1, sameL_eq h3]
noncomputable def renOB (σ : List Nat) (o o' : VO) : Bool := match renO σ o with
  | some z => sameO z o'
  | none => false
noncomputable def renHB (σ : List Nat) (g : Nat → Option VO) : List Nat → Hp → Bool
  | [], [] => true
  | l :: s, o :: r => (match g l with
    | some o' => renOB σ o o'
    | none => false) && renHB σ g s r
  | _, _ => false
theorem renHB_ok {σ : List Nat} {H2 : Hp} {g : Nat → Option VO} (hg : ∀ l, g l = H2[l]?) : ∀ {s : List Nat} {H : Hp}, renHB σ g s H = true → RenH σ H2 s H
  | [], [], _ => trivial
  | l :: s, o :: r, h => by
    simp only [renHB, Bool.and_eq_true] at h
    refine ⟨.inr ?_, renHB_ok hg h.2⟩
    have h1 := h.1
    split at h1
    · rename_i o' ho'
      unfold renOB at h1
      split at h1
      · rename_i z hz
        obtain rfl := sameO_eq h1
        exact ⟨_, (hg l).symm.trans ho', hz⟩
      · cases h1
    · cases h1
  | [], _ :: _, h => by cases h
  | _ :: _, [], h => by cases h
def isU : AV → Bool
  | .undef => true
  | _ => false
noncomputable def renEB (σ : List Nat) (g : Nat → Option AV) : Nat → List AV → Bool
  | _, [] => true
  | i, y :: r => (match isU y with
    | true => true
    | false => match g i, ren1 σ y with
      | some x, some z => AV.same z x
      | _, _ => false) && renEB σ g (Nat.succ i) r
theorem renEB_ok {σ : List Nat} {g : Nat → Option AV} : ∀ {i : Nat} {e e2 : List AV}, renEB σ g i e = true → e.length = e2.length → (∀ j, g (i + j) = e2[j]?) → RenE σ e e2
  | i, [], [], _, _, _ => trivial
  | i, y :: r, x :: s, h, hl, hg => by
    simp only [renEB, Bool.and_eq_true] at h
    refine ⟨?_, renEB_ok (i := i + 1) h.2 (by simpa using hl) (fun j => by have := hg (j + 1); rw [show i + 1 + j = i + (j + 1) by omega]; simpa using this)⟩
    have h1 := h.1
    split at h1
    · rename_i hu
      left
      cases y <;> first | rfl | cases hu
    · split at h1
      · rename_i x' z hx hz
        right
        have := hg 0
        rw [Nat.add_zero, hx] at this
        cases this
        rw [hz, AV.same_eq h1]
      · cases h1
  | i, [], _ :: _, _, hl, _ => by simp at hl
  | i, _ :: _, [], _, hl, _ => by simp at hl
def leafQ (m : Nat) : AV → Bool
  | .ptr l _ _ | .row _ l _ _ | .sub l _ _ _ _ | .mapr l => Nat.blt l m
  | _ => true
def valB' (m : Nat) : AV → Bool
  | .agg cs | .clo _ cs => cs.all (leafQ m)
  | x => leafQ m x
def objB' (m : Nat) : VO → Bool
  | .arr _ _ rows => rows.all fun r => r.all (leafQ m)
  | .one _ cs => cs.all (leafQ m)
  | .map es => es.all fun e => leafQ m e.2
  | _ => false
theorem blt_lt {a b : Nat} (h : Nat.blt a b = true) : a < b := by rwa [Nat.blt_eq] at h
theorem leafQ_ok {H : Hp} (hl : ∀ l, l < H.length → live H l) {x : AV} (h : leafQ H.length x = true) : leafN 0 H x := by
  cases x with
  | ptr l i k => exact .inr (hl _ (blt_lt h))
  | row t l i n => exact .inr (hl _ (blt_lt h))
  | sub l i k e n => exact .inr (hl _ (blt_lt h))
  | mapr l => exact .inr (hl _ (blt_lt h))
  | _ => trivial
theorem valB_ok {H : Hp} (hl : ∀ l, l < H.length → live H l) {x : AV} (h : valB' H.length x = true) : valN 0 H x := by
  cases x with
  | agg cs => exact fun y hy => leafQ_ok hl (List.all_eq_true.1 h y hy)
  | clo f cs => exact fun y hy => leafQ_ok hl (List.all_eq_true.1 h y hy)
  | ptr l i k => exact leafQ_ok (x := .ptr l i k) hl h
  | row t l i n => exact leafQ_ok (x := .row t l i n) hl h
  | sub l i k e n => exact leafQ_ok (x := .sub l i k e n) hl h
  | mapr l => exact leafQ_ok (x := .mapr l) hl h
  | _ => trivial
theorem objB_ok {H : Hp} (hl : ∀ l, l < H.length → live H l) {o : VO} (h : objB' H.length o = true) : objN 0 H o := by
  cases o with
  | arr T sz rows => exact fun r hr x hx => leafQ_ok hl (List.all_eq_true.1 (List.all_eq_true.1 h r hr) x hx)
  | one T cs => exact fun x hx => leafQ_ok hl (List.all_eq_true.1 h x hx)
  | map es => exact fun e he => leafQ_ok hl (List.all_eq_true.1 h e he)
  | _ => trivial
def incrB : List Nat → Bool
  | a :: b :: r => Nat.blt a b && incrB (b :: r)
  | _ => true
theorem incrB_ok : ∀ {l : List Nat}, incrB l = true → l.Pairwise (· < ·)
  | [], _ => .nil
  | [a], _ => List.pairwise_singleton _ _
  | a :: b :: r, h => by
    simp only [incrB, Bool.and_eq_true, Nat.blt_eq] at h
    have ih := incrB_ok h.2
    refine List.Pairwise.cons (fun x hx => ?_) ih
    rcases List.mem_cons.1 hx with rfl | hx
    · exact h.1
    · exact Nat.lt_trans h.1 (List.rel_of_pairwise_cons ih hx)
theorem nodup_incr {l : List Nat} (h : incrB l = true) : l.Nodup := (incrB_ok h).imp fun h => Nat.ne_of_lt h
/-- A state, written out. -/
structure Stt where
  e : List AV
  H : Hp
/-- The state is what has been computed, under new names: the l-th object was σ's l-th. -/
noncomputable def chkS (σ : List Nat) (S : Stt) (p : Br AV × HT) : Bool :=
  incrB σ && (renHB σ (fun l => Option.rec (motive := fun _ => Option VO) none (fun o => some (VT.den o)) (p.2.t.get l)) σ S.H && (S.H.all (objB' S.H.length) && (S.e.all (valB' S.H.length) && renEB σ p.1.get 0 S.e)))
def liveB : VO → Bool
  | .arr .. | .map _ | .one .. => true
  | _ => false
theorem objB_live {m : Nat} {o : VO} (h : objB' m o = true) : o.live = true := by cases o <;> first | rfl | cases h
theorem chkS_ok {σ : List Nat} {S : Stt} {p : Br AV × HT} {N : Nat} (he : p.1.ex N) (hh : p.2.ok) (hN : S.e.length = N) (h : chkS σ S p = true) :
    Renames 0 σ S.H p.2.den ∧ RenE σ S.e (p.1.toL N) ∧ ∀ y ∈ S.e, valN 0 S.H y := by
  simp only [chkS, Bool.and_eq_true] at h
  obtain ⟨h1, h2, h3, h4, h5⟩ := h
  have hl : ∀ l, l < S.H.length → live S.H l := fun l hlt => ⟨_, List.getElem?_eq_getElem hlt, objB_live (List.all_eq_true.1 h3 _ (List.getElem_mem hlt))⟩
  refine ⟨⟨nodup_incr h1, fun l h => by omega, renHB_ok (fun l => ?_) h2, fun o ho => objB_ok hl (List.all_eq_true.1 h3 o ho), Nat.zero_le _⟩, renEB_ok h5 (by rw [hN, he.len]) (fun j => ?_), fun y hy => valB_ok hl (List.all_eq_true.1 h4 y hy)⟩
  · rw [hh.get]
    cases p.2.t.get l <;> rfl
  · rw [Nat.zero_add, he.toL_get]

/-! ### A state that is written out, as trees -/
noncomputable def vtOf : VO → VT
  | .arr T sz [r] => match Nat.beq r.length sz, Nat.ble r.length 40 with
    | true, false => .big T r.length (Br.ofL r)
    | _, _ => .arr T sz 1 (Br.ofL [r])
  | .arr T sz rows => .arr T sz rows.length (Br.ofL rows)
  | .frz sz rows => .frz sz rows.length (Br.ofL rows)
  | .map es => .map es
  | .iter m n s => .iter m n s
  | .one T cs => .one T cs
  | .dead => .dead
theorem vtOf_ok (o : VO) : (vtOf o).ok ∧ (vtOf o).den = o := by
  unfold vtOf
  split
  · rename_i T sz r
    split
    · rename_i hb _
      have hb := Nat.eq_of_beq_eq_true hb
      subst hb
      obtain ⟨a, b⟩ := Br.ofL_ex r
      exact ⟨a, by simp only [VT.den, b]⟩
    · obtain ⟨a, b⟩ := Br.ofL_ex [r]
      exact ⟨a, by have b : (Br.ofL [r]).toL 1 = _ := b; simp only [VT.den, b]⟩
  · rename_i T sz rows hne
    obtain ⟨a, b⟩ := Br.ofL_ex rows
    exact ⟨a, by simp only [VT.den, b]⟩
  · rename_i sz rows
    obtain ⟨a, b⟩ := Br.ofL_ex rows
    exact ⟨a, by simp only [VT.den, b]⟩
  all_goals exact ⟨trivial, rfl⟩
noncomputable def htOf (H : Hp) : HT := ⟨H.length, Br.ofL (H.map vtOf)⟩
theorem htOf_ok (H : Hp) : (htOf H).ok ∧ (htOf H).den = H := by
  obtain ⟨a, b⟩ := Br.ofL_ex (H.map vtOf)
  rw [List.length_map] at a b
  refine ⟨⟨a, fun l o h => ?_⟩, ?_⟩
  · have h : (Br.ofL (H.map vtOf)).get l = some o := h
    rw [← a.toL_get, b, List.getElem?_map] at h
    obtain ⟨z, _, rfl⟩ := Option.map_eq_some_iff.1 h
    exact (vtOf_ok z).1
  · show ((Br.ofL (H.map vtOf)).toL H.length).map VT.den = H
    rw [b, List.map_map]
    refine List.ext_getElem? fun i => ?_
    rw [List.getElem?_map]
    cases H[i]? with
    | none => rfl
    | some o => exact congrArg some (vtOf_ok o).2
noncomputable def envOf (l : List AV) : Br AV := Br.ofL l

/-- Short forms for written states. -/
def bL (l : List Int) : List (List AV) := l.map fun n => [.int .u8 n]
def rp {α : Type} (n : Nat) (x : α) : List α := List.replicate n x

/-! ### A piece -/
noncomputable def nrmF (x : Option (Exit × Br AV × HT)) : Option (Br AV × HT) := match x with
  | some (.normal, e, h) => some (e, h)
  | _ => none
/-- A piece of code from one written state to the next. -/
noncomputable def pieceB (c : Cf) (F : FRec) (x : Code) (S : Stt) (σ : List Nat) (S' : Stt) : Bool :=
  Option.rec (motive := fun _ => Bool) false (fun p => chkS σ S' p) (nrmF (cdF x c F S.e.length (envOf S.e) (htOf S.H)))
theorem piece_ok {c : Cf} {F : FRec} {R' : Rec} (hF : FSim F R') (hR : RecOk c.P c.G R') {x y : Code} {S S' : Stt} {σ : List Nat} {Q : Qv} (hl : S.e.length = S'.e.length) (h : pieceB c F x S σ S' = true)
    (hn : Pc c.P c.G 0 y Q S'.e S'.H) : Pc c.P c.G 0 (.seq x y) Q S.e S.H := by
  unfold pieceB at h
  cases hx : nrmF (cdF x c F S.e.length (envOf S.e) (htOf S.H)) with
  | none => rw [hx] at h; cases h
  | some p =>
    rw [hx] at h
    have h : chkS σ S' p = true := h
    obtain ⟨a1, a2⟩ := Br.ofL_ex S.e
    obtain ⟨b1, b2⟩ := htOf_ok S.H
    unfold nrmF at hx
    split at hx
    case h_2 => cases hx
    rename_i e h' hc
    cases hx
    obtain ⟨d1, d2, d3⟩ := fcode_eq hF x a1 b1 (cdF_eq x hc)
    rw [a2, b2] at d3
    obtain ⟨r1, r2, r3⟩ := chkS_ok d1 d2 hl.symm h
    refine Pc.seq (Pc.of (md := mdA) (ecode_sound hR x _ _ _ _ _ _ d3 ?_))
    exact hn.ren r1 r2 r3
/-- So many parts of a chain, one behind the other. -/
noncomputable def runK (c : Cf) (F : FRec) (N : Nat) : Nat → Code → Br AV × HT → Option (Br AV × HT)
  | 0, _, p => some p
  | k + 1, .seq a b, p => Option.rec (motive := fun _ => Option (Br AV × HT)) none (fun q => runK c F N k b q) (nrmF (cdF a c F N p.1 p.2))
  | _ + 1, _, _ => none
def restK : Nat → Code → Code
  | 0, c => c
  | k + 1, .seq _ b => restK k b
  | _ + 1, c => c
theorem runK_ok {c : Cf} {F : FRec} {R' : Rec} (hF : FSim F R') (hR : RecOk c.P c.G R') {N : Nat} : ∀ (k : Nat) (x : Code) {p p' : Br AV × HT}, p.1.ex N → p.2.ok → runK c F N k x p = some p' →
    p'.1.ex N ∧ p'.2.ok ∧ ∀ Q : Qv, Pc c.P c.G 0 (restK k x) Q (p'.1.toL N) p'.2.den → Pc c.P c.G 0 x Q (p.1.toL N) p.2.den
  | 0, x, p, p', he, hh, hv => by cases hv; exact ⟨he, hh, fun Q h => h⟩
  | k + 1, .seq a b, p, p', he, hh, hv => by
    have hv : Option.rec (motive := fun _ => Option (Br AV × HT)) none (fun q => runK c F N k b q) (nrmF (cdF a c F N p.1 p.2)) = some p' := hv
    cases hx : nrmF (cdF a c F N p.1 p.2) with
    | none => rw [hx] at hv; cases hv
    | some q =>
      rw [hx] at hv
      have hv : runK c F N k b q = some p' := hv
      unfold nrmF at hx
      split at hx
      case h_2 => cases hx
      rename_i e h' hc
      cases hx
      obtain ⟨d1, d2, d3⟩ := fcode_eq hF a he hh (cdF_eq a hc)
      obtain ⟨r1, r2, r3⟩ := runK_ok hF hR k b d1 d2 hv
      exact ⟨r1, r2, fun Q h => Pc.seq (Pc.of (md := mdA) (ecode_sound hR a _ _ _ _ _ _ d3 (r3 Q h)))⟩
  | k + 1, .skip, p, p', he, hh, hv => by cases hv
  | k + 1, .label _, p, p', he, hh, hv => by cases hv
  | k + 1, .exit _, p, p', he, hh, hv => by cases hv
  | k + 1, .ret, p, p', he, hh, hv => by cases hv
  | k + 1, .region .., p, p', he, hh, hv => by cases hv
  | k + 1, .cond .., p, p', he, hh, hv => by cases hv
  | k + 1, .block .., p, p', he, hh, hv => by cases hv
  | k + 1, .loop _, p, p', he, hh, hv => by cases hv
  | k + 1, .rangeFunc .., p, p', he, hh, hv => by cases hv
  | k + 1, .scope .., p, p', he, hh, hv => by cases hv
  | k + 1, .goto .., p, p', he, hh, hv => by cases hv
  | k + 1, .refuse .., p, p', he, hh, hv => by cases hv
noncomputable def pieceK (c : Cf) (F : FRec) (k : Nat) (x : Code) (S : Stt) (σ : List Nat) (S' : Stt) : Bool :=
  Option.rec (motive := fun _ => Bool) false (fun p => chkS σ S' p) (runK c F S.e.length k x (envOf S.e, htOf S.H))
theorem pieceK_ok {c : Cf} {F : FRec} {R' : Rec} (hF : FSim F R') (hR : RecOk c.P c.G R') {k : Nat} {x : Code} {S S' : Stt} {σ : List Nat} {Q : Qv} (hl : S.e.length = S'.e.length) (h : pieceK c F k x S σ S' = true)
    (hn : Pc c.P c.G 0 (restK k x) Q S'.e S'.H) : Pc c.P c.G 0 x Q S.e S.H := by
  unfold pieceK at h
  cases hx : runK c F S.e.length k x (envOf S.e, htOf S.H) with
  | none => rw [hx] at h; cases h
  | some p =>
    rw [hx] at h
    have h : chkS σ S' p = true := h
    obtain ⟨a1, a2⟩ := Br.ofL_ex S.e
    obtain ⟨b1, b2⟩ := htOf_ok S.H
    obtain ⟨d1, d2, d3⟩ := runK_ok hF hR k x (p := (envOf S.e, htOf S.H)) a1 b1 hx
    have d3 := d3 Q
    have e1 : (envOf S.e, htOf S.H).1.toL S.e.length = S.e := a2
    have e2 : (envOf S.e, htOf S.H).2.den = S.H := b2
    rw [e1, e2] at d3
    obtain ⟨r1, r2, r3⟩ := chkS_ok d1 d2 hl.symm h
    exact d3 (hn.ren r1 r2 r3)
/-- The last piece: what comes back. -/
noncomputable def lastB (c : Cf) (F : FRec) (fn : Func) (x : Code) (S : Stt) : Option AV :=
  Option.rec (motive := fun _ => Option AV) none (fun p => some p.1) (ffin c.P fn (cdF x c F S.e.length (envOf S.e) (htOf S.H)))
theorem last_ok {c : Cf} {F : FRec} {R' : Rec} (hF : FSim F R') (hR : RecOk c.P c.G R') {fn : Func} {x : Code} {S : Stt} {r : AV} (h : lastB c F fn x S = some r) : Pc c.P c.G 0 x (fnQ c.P fn fun v _ => v = r) S.e S.H := by
  unfold lastB at h
  cases hx : cdF x c F S.e.length (envOf S.e) (htOf S.H) with
  | none => rw [hx] at h; cases h
  | some p =>
    obtain ⟨ex, e, h'⟩ := p
    rw [hx] at h
    obtain ⟨a1, a2⟩ := Br.ofL_ex S.e
    obtain ⟨b1, b2⟩ := htOf_ok S.H
    obtain ⟨d1, d2, d3⟩ := fcode_eq hF x a1 b1 (cdF_eq x hx)
    rw [a2, b2] at d3
    cases hf : ffin c.P fn (some (ex, e, h')) with
    | none => rw [hf] at h; cases h
    | some q =>
      obtain ⟨v, h2⟩ := q
      rw [hf] at h
      cases h
      obtain ⟨_, d5⟩ := ffin_eq d1 d2 hf
      simp only [efin] at d5
      refine Pc.of (md := mdA) (ecode_sound hR x _ _ _ _ _ _ d3 ?_)
      cases ex <;> first
        | (cases d5; done)
        | (obtain ⟨z, z1, z2⟩ := map_some d5
           simp only [fnQ, z1]
           exact (Prod.mk.inj z2).1)
end Go.Vi
end
section
set_option autoImplicit false
set_option linter.unusedVariables false
set_option linter.unusedSimpArgs false
set_option maxRecDepth 100000
namespace Go.Vi
open Go
section
variable {P : Program} {G : Glob} {nb : Nat} {Q : Qv} {env env2 : List AV} {H H2 : Hp} {x y : Code}
theorem Pc.cond {o : Operand} {t : Bool} (h : ev G env o = some (.bool t)) (hA : t = true → Pc P G nb x Q env H) (hB : t = false → Pc P G nb y Q env H) : Pc P G nb (.cond o x y) Q env H := fun c a s hn hg he hd => by
  have hr := ev_sound he hg o _ h
  have hv : a.eval o = .bool t := by
    generalize a.eval o = V at hr
    cases hr
    rfl
  refine wp_cond hv ?_
  cases t with
  | true => exact hA rfl c a s hn hg he hd
  | false => exact hB rfl c a s hn hg he hd
theorem Pc.block {id : Nat} (h : Pc P G nb x (blockQ id Q) env H) : Pc P G nb (.block id x) Q env H := fun c a s hn hg he hd => by
  refine wp_block (wp_mono (h c a s hn hg he hd) fun e a' w' hp => ?_)
  cases e with
  | exit id' =>
    obtain ⟨env', H', c', h1, t, h3, h4, h5⟩ := hp
    simp only [Exit.inBlock, blockQ] at h5 ⊢
    split at h5
    · rename_i hid; rw [if_pos hid]; exact ⟨env', H', c', h1, t, h3, h4, h5⟩
    · rename_i hid; rw [if_neg hid]; exact ⟨env', H', c', h1, t, h3, h4, h5⟩
  | _ => exact hp
/-- A loop's round begins. -/
def PcL (P : Program) (G : Glob) (nb : Nat) (x : Code) (Q : Qv) (env : List AV) (H : Hp) : Prop :=
  ∀ (c : Cx) (a : Act), Sim c H → nb ≤ H.length → GOK c G → EnvR c env a.tmps → a.defers = [] → ∀ (b : Frame) (k : List Item) (cs : List Frame),
    ∃ e a' w', Post nb c H Q e a' w' ∧ Arrives P (lone (b.at a (.code x :: .inLoop x :: k)) cs c.w) b k cs e a' w'
theorem PcL.round (h : Pc P G nb x (thenQ (fun env H => PcL P G nb x Q env H) Q) env H) : PcL P G nb x Q env H := fun c a s hn hg he hd b k cs => by
  obtain ⟨e, a1, w1, hq, harr⟩ := h c a s hn hg he hd b (.inLoop x :: k) cs
  cases e with
  | normal =>
    obtain ⟨env', H', c', rfl, t, h3, h4, h5⟩ := hq
    obtain ⟨e2, a2, w2, hq2, harr2⟩ := h5 c' a1 t.sim t.len (hg.fo t) h3 h4 b k cs
    exact ⟨e2, a2, w2, hq2.transF t, .of_steps (Steps.trans harr (.one step_inLoop)) harr2⟩
  | exit id => exact ⟨_, a1, w1, hq, .pass (x := .inLoop x) rfl (fun _ _ => .inl (by simp)) harr⟩
  | goto l => exact ⟨_, a1, w1, hq, .pass (x := .inLoop x) rfl (fun _ _ => .inl (by simp)) harr⟩
  | ret => exact ⟨_, a1, w1, hq, .pass (x := .inLoop x) rfl (fun _ _ => .inl (by simp)) harr⟩
  | panic ch => exact ⟨_, a1, w1, hq, .pass (x := .inLoop x) rfl (fun _ _ => .inl (by simp)) harr⟩
  | outgrown => exact ⟨_, a1, w1, hq, .pass (x := .inLoop x) rfl (fun _ _ => .inl (by simp)) harr⟩
theorem PcL.ren {σ : List Nat} (r : Renames nb σ H H2) (hE : RenE σ env env2) (hN : ∀ y ∈ env, valN nb H y) (h : PcL P G nb x Q env H) : PcL P G nb x Q env2 H2 := fun c a s hn hg he hd b k cs => by
  obtain ⟨e2, a2, w2, hq2, harr2⟩ := h (renCx nb σ H c) a (r.sim s) r.len hg.ren (he.ren hE hN) hd b k cs
  exact ⟨e2, a2, w2, hq2.transF (Fo.ren r s), harr2⟩
theorem Pc.loop (h : PcL P G nb x Q env H) : Pc P G nb (.loop x) Q env H := fun c a s hn hg he hd b k cs => by
  obtain ⟨e, a', w', hq, harr⟩ := h c a s hn hg he hd b k cs
  exact ⟨e, a', w', hq, .of_steps (.one step_loop) harr⟩
theorem Pc.ret (h : Q .ret env H) : Pc P G nb .ret Q env H := Pc.of (md := mdA) h
end

/-! ### States over objects that stay: the first nb keep their names -/
def lowB (nb : Nat) : Nat → List Nat → Bool
  | i, l :: r => match Nat.blt i nb with
    | true => Nat.beq l i && lowB nb (Nat.succ i) r
    | false => true
  | i, [] => Nat.ble nb i
theorem lowB_ok {nb : Nat} : ∀ {i : Nat} {σ : List Nat}, lowB nb i σ = true → ∀ l, i + l < nb → σ[l]? = some (i + l)
  | i, [], h, l, hl => by
    have : nb ≤ i := Nat.le_of_ble_eq_true h
    omega
  | i, a :: r, h, l, hl => by
    simp only [lowB] at h
    have hi : Nat.blt i nb = true := by rw [Nat.blt_eq]; omega
    rw [hi] at h
    simp only [Bool.and_eq_true] at h
    obtain ⟨h1, h2⟩ := h
    have h1 := Nat.eq_of_beq_eq_true h1
    cases l with
    | zero => simp [h1]
    | succ l =>
      have := lowB_ok h2 l (by omega)
      rw [List.getElem?_cons_succ, this]
      congr 1
      omega
def isDead : VO → Bool
  | .dead => true
  | _ => false
noncomputable def renHN (σ : List Nat) (g : Nat → Option VO) : List Nat → Hp → Bool
  | [], [] => true
  | l :: s, o :: r => (match isDead o with
    | true => true
    | false => match g l with
      | some o' => renOB σ o o'
      | none => false) && renHN σ g s r
  | _, _ => false
theorem renHN_ok {σ : List Nat} {H2 : Hp} {g : Nat → Option VO} (hg : ∀ l, g l = H2[l]?) : ∀ {s : List Nat} {H : Hp}, renHN σ g s H = true → RenH σ H2 s H
  | [], [], _ => trivial
  | l :: s, o :: r, h => by
    simp only [renHN, Bool.and_eq_true] at h
    refine ⟨?_, renHN_ok hg h.2⟩
    have h1 := h.1
    split at h1
    · rename_i hd
      left
      cases o <;> first | rfl | cases hd
    · split at h1
      · rename_i o' ho'
        unfold renOB at h1
        split at h1
        · rename_i z hz
          obtain rfl := sameO_eq h1
          exact .inr ⟨_, (hg l).symm.trans ho', hz⟩
        · cases h1
      · cases h1
  | [], _ :: _, h => by cases h
  | _ :: _, [], h => by cases h
/-- Objects behind the first nb live; those before may be dead. -/
def objsB (nb m : Nat) : Nat → Hp → Bool
  | _, [] => true
  | i, o :: r => (objB' m o || (Nat.blt i nb && isDead o)) && objsB nb m (Nat.succ i) r
theorem objsB_ok {nb m : Nat} : ∀ {i : Nat} {H : Hp}, objsB nb m i H = true → ∀ j o, H[j]? = some o → objB' m o = true ∨ (i + j < nb ∧ o = .dead)
  | i, [], h, j, o, hj => by cases hj
  | i, a :: r, h, j, o, hj => by
    simp only [objsB, Bool.and_eq_true, Bool.or_eq_true] at h
    cases j with
    | zero =>
      simp at hj
      subst hj
      rcases h.1 with h1 | ⟨h1, h2⟩
      · exact .inl h1
      · refine .inr ⟨blt_lt h1, ?_⟩
        cases a <;> first | rfl | cases h2
    | succ j =>
      have := objsB_ok h.2 j o (by simpa using hj)
      rcases this with h1 | ⟨h1, h2⟩
      · exact .inl h1
      · exact .inr ⟨by omega, h2⟩
noncomputable def chkN (nb : Nat) (σ : List Nat) (S : Stt) (p : Br AV × HT) : Bool :=
  (incrB σ && (lowB nb 0 σ && Nat.ble nb S.H.length)) && (renHN σ (fun l => Option.rec (motive := fun _ => Option VO) none (fun o => some (VT.den o)) (p.2.t.get l)) σ S.H && (objsB nb S.H.length 0 S.H && (S.e.all (valB' S.H.length) && renEB σ p.1.get 0 S.e)))
theorem leafN_ok {nb : Nat} {H : Hp} (hl : ∀ l, l < H.length → l < nb ∨ live H l) {x : AV} (h : leafQ H.length x = true) : leafN nb H x := by
  cases x with
  | ptr l i k => exact hl _ (blt_lt h)
  | row t l i n => exact hl _ (blt_lt h)
  | sub l i k e n => exact hl _ (blt_lt h)
  | mapr l => exact hl _ (blt_lt h)
  | _ => trivial
theorem valN_ok {nb : Nat} {H : Hp} (hl : ∀ l, l < H.length → l < nb ∨ live H l) {x : AV} (h : valB' H.length x = true) : valN nb H x := by
  cases x with
  | agg cs => exact fun y hy => leafN_ok hl (List.all_eq_true.1 h y hy)
  | clo f cs => exact fun y hy => leafN_ok hl (List.all_eq_true.1 h y hy)
  | ptr l i k => exact leafN_ok (x := .ptr l i k) hl h
  | row t l i n => exact leafN_ok (x := .row t l i n) hl h
  | sub l i k e n => exact leafN_ok (x := .sub l i k e n) hl h
  | mapr l => exact leafN_ok (x := .mapr l) hl h
  | _ => trivial
theorem objN_ok {nb : Nat} {H : Hp} (hl : ∀ l, l < H.length → l < nb ∨ live H l) {o : VO} (h : objB' H.length o = true) : objN nb H o := by
  cases o with
  | arr T sz rows => exact fun r hr x hx => leafN_ok hl (List.all_eq_true.1 (List.all_eq_true.1 h r hr) x hx)
  | one T cs => exact fun x hx => leafN_ok hl (List.all_eq_true.1 h x hx)
  | map es => exact fun e he => leafN_ok hl (List.all_eq_true.1 h e he)
  | _ => trivial
theorem chkN_ok {nb : Nat} {σ : List Nat} {S : Stt} {p : Br AV × HT} {N : Nat} (he : p.1.ex N) (hh : p.2.ok) (hN : S.e.length = N) (h : chkN nb σ S p = true) :
    Renames nb σ S.H p.2.den ∧ RenE σ S.e (p.1.toL N) ∧ ∀ y ∈ S.e, valN nb S.H y := by
  simp only [chkN, Bool.and_eq_true] at h
  obtain ⟨⟨h1, hlow, hlen⟩, h2, h3, h4, h5⟩ := h
  have ho := objsB_ok h3
  have hl : ∀ l, l < S.H.length → l < nb ∨ live S.H l := fun l hlt => by
    rcases ho l _ (List.getElem?_eq_getElem hlt) with h | ⟨h, _⟩
    · exact .inr ⟨_, List.getElem?_eq_getElem hlt, objB_live h⟩
    · exact .inl (by omega)
  refine ⟨⟨nodup_incr h1, fun l h => by have := lowB_ok hlow l (by omega); rwa [Nat.zero_add] at this, renHN_ok (fun l => ?_) h2, fun o hm => ?_, Nat.le_of_ble_eq_true hlen⟩, renEB_ok h5 (by rw [hN, he.len]) (fun j => ?_), fun y hy => valN_ok hl (List.all_eq_true.1 h4 y hy)⟩
  · rw [hh.get]
    cases p.2.t.get l <;> rfl
  · obtain ⟨j, hj⟩ := List.mem_iff_getElem?.1 hm
    rcases ho j o hj with h | ⟨_, rfl⟩
    · exact objN_ok hl h
    · trivial
  · rw [Nat.zero_add, he.toL_get]
theorem runK_okN {c : Cf} {F : FRec} {R' : Rec} (hF : FSim F R') (hR : RecOk c.P c.G R') {nb N : Nat} : ∀ (k : Nat) (x : Code) {p p' : Br AV × HT}, p.1.ex N → p.2.ok → runK c F N k x p = some p' →
    p'.1.ex N ∧ p'.2.ok ∧ ∀ Q : Qv, Pc c.P c.G nb (restK k x) Q (p'.1.toL N) p'.2.den → Pc c.P c.G nb x Q (p.1.toL N) p.2.den
  | 0, x, p, p', he, hh, hv => by cases hv; exact ⟨he, hh, fun Q h => h⟩
  | k + 1, .seq a b, p, p', he, hh, hv => by
    have hv : Option.rec (motive := fun _ => Option (Br AV × HT)) none (fun q => runK c F N k b q) (nrmF (cdF a c F N p.1 p.2)) = some p' := hv
    cases hx : nrmF (cdF a c F N p.1 p.2) with
    | none => rw [hx] at hv; cases hv
    | some q =>
      rw [hx] at hv
      have hv : runK c F N k b q = some p' := hv
      unfold nrmF at hx
      split at hx
      case h_2 => cases hx
      rename_i e h' hc
      cases hx
      obtain ⟨d1, d2, d3⟩ := fcode_eq hF a he hh (cdF_eq a hc)
      obtain ⟨r1, r2, r3⟩ := runK_okN hF hR k b d1 d2 hv
      exact ⟨r1, r2, fun Q h => Pc.seq (Pc.of (md := mdA) (ecode_sound hR a _ _ _ _ _ _ d3 (r3 Q h)))⟩
  | k + 1, .skip, p, p', he, hh, hv => by cases hv
  | k + 1, .label _, p, p', he, hh, hv => by cases hv
  | k + 1, .exit _, p, p', he, hh, hv => by cases hv
  | k + 1, .ret, p, p', he, hh, hv => by cases hv
  | k + 1, .region .., p, p', he, hh, hv => by cases hv
  | k + 1, .cond .., p, p', he, hh, hv => by cases hv
  | k + 1, .block .., p, p', he, hh, hv => by cases hv
  | k + 1, .loop _, p, p', he, hh, hv => by cases hv
  | k + 1, .rangeFunc .., p, p', he, hh, hv => by cases hv
  | k + 1, .scope .., p, p', he, hh, hv => by cases hv
  | k + 1, .goto .., p, p', he, hh, hv => by cases hv
  | k + 1, .refuse .., p, p', he, hh, hv => by cases hv
noncomputable def pieceN (c : Cf) (F : FRec) (nb k : Nat) (x : Code) (S : Stt) (σ : List Nat) (S' : Stt) : Bool :=
  Option.rec (motive := fun _ => Bool) false (fun p => chkN nb σ S' p) (runK c F S.e.length k x (envOf S.e, htOf S.H))
theorem pieceN_ok {c : Cf} {F : FRec} {R' : Rec} (hF : FSim F R') (hR : RecOk c.P c.G R') {nb k : Nat} {x : Code} {S S' : Stt} {σ : List Nat} {Q : Qv} (hl : S.e.length = S'.e.length) (h : pieceN c F nb k x S σ S' = true)
    (hn : Pc c.P c.G nb (restK k x) Q S'.e S'.H) : Pc c.P c.G nb x Q S.e S.H := by
  unfold pieceN at h
  cases hx : runK c F S.e.length k x (envOf S.e, htOf S.H) with
  | none => rw [hx] at h; cases h
  | some p =>
    rw [hx] at h
    have h : chkN nb σ S' p = true := h
    obtain ⟨a1, a2⟩ := Br.ofL_ex S.e
    obtain ⟨b1, b2⟩ := htOf_ok S.H
    obtain ⟨d1, d2, d3⟩ := runK_okN hF hR (nb := nb) k x (p := (envOf S.e, htOf S.H)) a1 b1 hx
    have d3 := d3 Q
    have e1 : (envOf S.e, htOf S.H).1.toL S.e.length = S.e := a2
    have e2 : (envOf S.e, htOf S.H).2.den = S.H := b2
    rw [e1, e2] at d3
    obtain ⟨r1, r2, r3⟩ := chkN_ok d1 d2 hl.symm h
    exact d3 (hn.ren r1 r2 r3)

/-! ### A call known at one state -/
def sameHpB : Hp → Hp → Bool
  | [], [] => true
  | o :: r, p :: s => (sameO o p || (isDead o && isDead p)) && sameHpB r s
  | _, _ => false
theorem sameHpB_eq : ∀ {a b : Hp}, sameHpB a b = true → a = b
  | [], [], _ => rfl
  | [], _ :: _, h => by cases h
  | _ :: _, [], h => by cases h
  | o :: r, p :: s, h => by
    simp only [sameHpB, Bool.and_eq_true, Bool.or_eq_true] at h
    rw [sameHpB_eq h.2]
    rcases h.1 with h1 | ⟨h1, h2⟩
    · rw [sameO_eq h1]
    · cases o <;> first | (cases h1; done) | (cases p <;> first | rfl | (cases h2; done))
/-- Whether a call comes with these arguments over these objects. -/
noncomputable def memoB (xs0 : List AV) (H0 : Hp) (xs : List AV) (H : Hp) : Bool := sameL xs xs0 && sameHpB H H0
noncomputable def memoT (xs0 : List AV) (H0 : Hp) (r : AV) (H1 : Hp) (xs : List AV) (h : HT) : Option (AV × HT) := match memoB xs0 H0 xs h.den with
  | true => some (r, htOf H1)
  | false => none
noncomputable def memoK (xs0 : List AV) (H0 : Hp) (r : AV) (H1 : Hp) (xs : List AV) (H : Hp) : Option (AV × Hp) := match memoB xs0 H0 xs H with
  | true => some (r, H1)
  | false => none
theorem memo_sim {xs0 : List AV} {H0 : Hp} {r0 : AV} {H1 : Hp} : ∀ xs h r h', h.ok → memoT xs0 H0 r0 H1 xs h = some (r, h') → h'.ok ∧ memoK xs0 H0 r0 H1 xs h.den = some (r, h'.den) := fun xs h r h' k hv => by
  unfold memoT at hv
  unfold memoK
  split at hv
  · cases hv
    obtain ⟨a, b⟩ := htOf_ok H1
    exact ⟨a, by rw [b]⟩
  · cases hv
theorem memo_ok {P : Program} {G : Glob} {f : Nat} {xs0 : List AV} {H0 : Hp} {r0 : AV} {H1 : Hp} (h : XS P G f xs0 H0 fun r H => r = r0 ∧ H = H1) (xs : List AV) (H : Hp) (r : AV) (H' : Hp) (hv : memoK xs0 H0 r0 H1 xs H = some (r, H')) :
    XS P G f xs H fun r1 H2 => r1 = r ∧ H2 = H' := by
  unfold memoK at hv
  split at hv
  · rename_i hm
    cases hv
    simp only [memoB, Bool.and_eq_true] at hm
    rw [sameL_eq hm.1, sameHpB_eq hm.2]
    exact h
  · cases hv
end Go.Vi
end
section
set_option autoImplicit false
set_option linter.unusedVariables false
set_option linter.unusedSimpArgs false
set_option maxRecDepth 100000
namespace Go.Vi
open Go
def isN : Exit → Bool
  | .normal => true
  | _ => false
def isX (id : Nat) : Exit → Bool
  | .exit i => Nat.beq i id
  | _ => false
/-- Code from one written state to the next, with this kind of ending. -/
noncomputable def pieceX (c : Cf) (F : FRec) (nb : Nat) (g : Exit → Bool) (y : Code) (S : Stt) (σ : List Nat) (S' : Stt) : Bool :=
  Option.rec (motive := fun _ => Bool) false (fun p => g p.1 && chkN nb σ S' p.2) (cdF y c F S.e.length (envOf S.e) (htOf S.H))
theorem pieceX_ok {c : Cf} {F : FRec} {R' : Rec} (hF : FSim F R') (hR : RecOk c.P c.G R') {nb : Nat} {g : Exit → Bool} {y : Code} {S S' : Stt} {σ : List Nat} {Q : Qv} (hl : S.e.length = S'.e.length) (h : pieceX c F nb g y S σ S' = true)
    (hq : ∀ e env H, g e = true → Renames nb σ S'.H H → RenE σ S'.e env → (∀ y ∈ S'.e, valN nb S'.H y) → Q e env H) : Pc c.P c.G nb y Q S.e S.H := by
  unfold pieceX at h
  cases hx : cdF y c F S.e.length (envOf S.e) (htOf S.H) with
  | none => rw [hx] at h; cases h
  | some p =>
    obtain ⟨ex, e, h'⟩ := p
    rw [hx] at h
    have h : (g ex && chkN nb σ S' (e, h')) = true := h
    rw [Bool.and_eq_true] at h
    obtain ⟨a1, a2⟩ := Br.ofL_ex S.e
    obtain ⟨b1, b2⟩ := htOf_ok S.H
    obtain ⟨d1, d2, d3⟩ := fcode_eq hF y a1 b1 (cdF_eq y hx)
    rw [a2, b2] at d3
    obtain ⟨r1, r2, r3⟩ := chkN_ok d1 d2 hl.symm h.2
    exact Pc.of (md := mdA) (ecode_sound hR y _ _ _ _ _ _ d3 (hq ex _ _ h.1 r1 r2 r3))
theorem isN_eq {e : Exit} (h : isN e = true) : e = .normal := by cases e <;> first | rfl | cases h
theorem isX_eq {id : Nat} {e : Exit} (h : isX id e = true) : e = .exit id := by
  cases e <;> first | cases h | (rw [Nat.eq_of_beq_eq_true h])
/-- A whole round, to the beginning of the next one. -/
theorem round_ok {c : Cf} {F : FRec} {R' : Rec} (hF : FSim F R') (hR : RecOk c.P c.G R') {nb : Nat} {x : Code} {S S' : Stt} {σ : List Nat} {Q : Qv} (hl : S.e.length = S'.e.length) (h : pieceX c F nb isN x S σ S' = true)
    (hn : PcL c.P c.G nb x Q S'.e S'.H) : PcL c.P c.G nb x Q S.e S.H :=
  PcL.round (pieceX_ok hF hR hl h fun e env H hg r1 r2 r3 => by
    obtain rfl := isN_eq hg
    exact hn.ren r1 r2 r3)
/-- The round that leaves the loop. -/
theorem leave_ok {c : Cf} {F : FRec} {R' : Rec} (hF : FSim F R') (hR : RecOk c.P c.G R') {nb id : Nat} {x y : Code} {S S' : Stt} {σ : List Nat} {Q : Qv} (hl : S.e.length = S'.e.length) (h : pieceX c F nb (isX id) x S σ S' = true)
    (hn : Pc c.P c.G nb y Q S'.e S'.H) : PcL c.P c.G nb x (blockQ id (thenQ (fun env H => Pc c.P c.G nb y Q env H) Q)) S.e S.H :=
  PcL.round (pieceX_ok hF hR hl h fun e env H hg r1 r2 r3 => by
    obtain rfl := isX_eq hg
    show (if id = id then _ else _)
    rw [if_pos rfl]
    exact hn.ren r1 r2 r3)
end Go.Vi
end
