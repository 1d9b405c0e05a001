/- Codes run, with what must be equal written down: for values that stand for whatever text. -/
import Derived.Test.YteahbejkncnplaaGreatNyWa
set_option autoImplicit false
set_option linter.unusedVariables false
set_option maxRecDepth 1000000
namespace Go.Vi
open Go Go.Proofs
abbrev Obl := List (AV × AV)
def okL (L : Obl) : Prop := ∀ p ∈ L, AV.same p.1 p.2 = true
/-- Texts, and their bytes. -/
def symb : AV → Bool
  | .str _ => true
  | .list _ _ => true
  | _ => false
noncomputable def allG (c : Cf) (R : FRec) (env : Br AV) (o : Oper) (v : AV) (h : Nat → HT) (lo : Nat) : List Nat → Option Obl
  | [] => some []
  | q :: r => match allG c R env o v h lo r with
    | some L => match Nat.blt q lo with
      | true => some L
      | false => match opF o.op c R env (h q) with
        | some (v', _) => match symb v with
          | true => some ((v', v) :: L)
          | false => match AV.same v' v with
            | true => some L
            | false => none
        | none => none
    | none => none
theorem allG_ok {c : Cf} {R : FRec} {env : Br AV} {o : Oper} {v : AV} {h : Nat → HT} {lo : Nat} : ∀ (l : List Nat) {L : Obl}, allG c R env o v h lo l = some L → okL L → (l.all fun q => decide (q < lo) || sameAt c R env o v (h q)) = true
  | [], L, _, _ => rfl
  | q :: r, L, hv, hL => by
    simp only [allG] at hv
    split at hv
    case h_2 => cases hv
    rename_i L1 h1
    rw [List.all_cons, Bool.and_eq_true]
    split at hv
    · rename_i hb
      cases hv
      have hb : q < lo := by simpa [Nat.blt_eq] using hb
      exact ⟨by simp [hb], allG_ok r h1 hL⟩
    · rename_i hb
      split at hv
      case h_2 => cases hv
      rename_i v' h' ho
      split at hv
      · cases hv
        refine ⟨?_, allG_ok r h1 fun p hp => hL p (List.mem_cons_of_mem _ hp)⟩
        rw [Bool.or_eq_true]
        right
        unfold sameAt
        rw [ho]
        exact hL (v', v) (List.mem_cons_self ..)
      · split at hv
        case h_2 => cases hv
        rename_i hs
        cases hv
        refine ⟨?_, allG_ok r h1 hL⟩
        rw [Bool.or_eq_true]
        right
        unfold sameAt
        rw [ho]
        exact hs
noncomputable def chkG (ops : Array Oper) (wn : Nat → Nat × Nat) (c : Cf) (R : FRec) (N : Nat) (h : Nat → HT) : List Oper → Nat → Br AV → Nat → Option Obl
  | [], _, _, _ => some []
  | o :: r, i, env, k => match fwant o.guard ops env with
    | some true => match opF o.op c R env (h k) with
      | some (v, _) => if clsOp mdA o = 2 then (if k = (wn i).1 then chkG ops wn c R N h r (Nat.succ i) (fput N env o.dst v) (Nat.succ k) else none)
        else (if (wn i).1 ≤ k ∧ k ≤ (wn i).2 then match allG c R env o v h (wn i).1 (List.range ((wn i).2 + 1)), chkG ops wn c R N h r (Nat.succ i) (fput N env o.dst v) k with
          | some L, some L' => some (L ++ L')
          | _, _ => none else none)
      | none => none
    | some false => if clsOp mdA o = 2 then (if k = (wn i).1 then chkG ops wn c R N h r (Nat.succ i) (fput N env o.dst (.tup [])) (Nat.succ k) else none)
        else (if (wn i).1 ≤ k ∧ k ≤ (wn i).2 then chkG ops wn c R N h r (Nat.succ i) (fput N env o.dst (.tup [])) k else none)
    | none => none
theorem chkG_ok {c : Cf} {R : FRec} {N : Nat} {ops : Array Oper} {wn : Nat → Nat × Nat} {h : Nat → HT} : ∀ (l : List Oper) {i k : Nat} {env : Br AV} {L : Obl}, chkG ops wn c R N h l i env k = some L → okL L → chkF ops wn c R N h l i env k = true
  | [], i, k, env, L, hv, hL => rfl
  | o :: r, i, k, env, L, hv, hL => by
    show (match fwant o.guard ops env with
      | some true => match opF o.op c R env (h k) with
        | some (v, _) => if clsOp mdA o = 2 then decide (k = (wn i).1) && chkF ops wn c R N h r (Nat.succ i) (fput N env o.dst v) (Nat.succ k)
          else (decide ((wn i).1 ≤ k) && decide (k ≤ (wn i).2)) && ((List.range ((wn i).2 + 1)).all fun q => decide (q < (wn i).1) || sameAt c R env o v (h q)) && chkF ops wn c R N h r (Nat.succ i) (fput N env o.dst v) k
        | none => false
      | some false => if clsOp mdA o = 2 then decide (k = (wn i).1) && chkF ops wn c R N h r (Nat.succ i) (fput N env o.dst (.tup [])) (Nat.succ k)
        else (decide ((wn i).1 ≤ k) && decide (k ≤ (wn i).2)) && chkF ops wn c R N h r (Nat.succ i) (fput N env o.dst (.tup [])) k
      | none => false) = true
    simp only [chkG] at hv
    split at hv
    · rename_i hw
      try rw [hw]
      split at hv
      case h_2 => cases hv
      rename_i v h1 ho
      try rw [ho]
      try dsimp only
      split at hv
      · rename_i hc
        rw [if_pos hc]
        split at hv
        case isFalse => cases hv
        rename_i hk
        rw [Bool.and_eq_true]
        exact ⟨decide_eq_true hk, chkG_ok r hv hL⟩
      · rename_i hc
        rw [if_neg hc]
        split at hv
        case isFalse => cases hv
        rename_i hk
        split at hv
        case h_2 => cases hv
        rename_i L1 L2 g1 g2
        cases hv
        rw [Bool.and_eq_true, Bool.and_eq_true, Bool.and_eq_true]
        exact ⟨⟨⟨decide_eq_true hk.1, decide_eq_true hk.2⟩, allG_ok _ g1 fun p hp => hL p (List.mem_append_left _ hp)⟩, chkG_ok r g2 fun p hp => hL p (List.mem_append_right _ hp)⟩
    · rename_i hw
      try rw [hw]
      try dsimp only
      split at hv
      · rename_i hc
        rw [if_pos hc]
        split at hv
        case isFalse => cases hv
        rename_i hk
        rw [Bool.and_eq_true]
        exact ⟨decide_eq_true hk, chkG_ok r hv hL⟩
      · rename_i hc
        rw [if_neg hc]
        split at hv
        case isFalse => cases hv
        rename_i hk
        rw [Bool.and_eq_true, Bool.and_eq_true]
        exact ⟨⟨decide_eq_true hk.1, decide_eq_true hk.2⟩, chkG_ok r hv hL⟩
    · cases hv
noncomputable def regG (ops : Array Oper) (c : Cf) (R : FRec) (N : Nat) (env : Br AV) (h : HT) : Option ((Br AV × HT) × Obl) :=
  match seqHF ops ops.toList c R N env h with
  | some (hs, env', h') => match drawOkOf (okW mdA ops (winOf mdA ops)) ops with
    | true => match chkG ops (winOf mdA ops) c R N (fun q => (h :: hs).getD q HT.none) ops.toList 0 env 0 with
      | some L => some ((env', h'), L)
      | none => none
    | false => none
  | none => none
theorem regG_ok {ops : Array Oper} {c : Cf} {R : FRec} {N : Nat} {env : Br AV} {h : HT} {r : Br AV × HT} {L : Obl} (hv : regG ops c R N env h = some (r, L)) (hL : okL L) : regWF ops c R N env h = some r := by
  unfold regG at hv
  unfold regWF winV
  split at hv
  case h_2 => cases hv
  rename_i hs env' h' hq
  rw [hq]
  simp only
  split at hv
  case h_2 => cases hv
  rename_i hd
  rw [hd]
  split at hv
  case h_2 => cases hv
  rename_i L1 hc
  cases hv
  rw [chkG_ok _ hc hL]
abbrev ResG := Option ((Exit × Br AV × HT) × Obl)
noncomputable def plainG (x : Option (Exit × Br AV × HT)) : ResG := match x with
  | some r => some (r, [])
  | none => none
noncomputable def loopG (f : Br AV → HT → ResG) (n : Nat) : Br AV → HT → ResG :=
  Nat.rec (motive := fun _ => Br AV → HT → ResG) (fun _ _ => none) (fun _ ih env h => match f env h with
    | some ((.normal, env', h'), L) => match ih env' h' with
      | some (r, L') => some (r, L ++ L')
      | none => none
    | r => r) n
noncomputable def cdG (c : Cf) (R : FRec) (N : Nat) : Code → Br AV → HT → ResG
  | .region i ops true, env, h => match drawOk mdA ops with
    | true => plainG (cdF (.region i ops true) c R N env h)
    | false => match regG ops c R N env h with
      | some ((e, h'), L) => some ((.normal, e, h'), L)
      | none => none
  | .seq a b, env, h => match cdG c R N a env h with
    | some ((.normal, env', h'), L) => match cdG c R N b env' h' with
      | some (r, L') => some (r, L ++ L')
      | none => none
    | r => r
  | .cond o a b, env, h => match ev1 c env o with
    | some (.bool true) => cdG c R N a env h
    | some (.bool false) => cdG c R N b env h
    | _ => none
  | .block id b, env, h => match cdG c R N b env h with
    | some (r, L) => match blockV id (some r) with
      | some r' => some (r', L)
      | none => none
    | none => none
  | .loop b, env, h => loopG (cdG c R N b) c.n env h
  | x, env, h => plainG (cdF x c R N env h)
theorem plainG_ok {x : Option (Exit × Br AV × HT)} {r : Exit × Br AV × HT} {L : Obl} (h : plainG x = some (r, L)) : x = some r := by
  unfold plainG at h
  split at h <;> cases h
  rfl
theorem cdG_ok {c : Cf} {R : FRec} {N : Nat} : ∀ (x : Code) {env : Br AV} {h : HT} {r : Exit × Br AV × HT} {L : Obl}, cdG c R N x env h = some (r, L) → okL L → cdF x c R N env h = some r
  | .skip, env, h, r, L, hv, hL => plainG_ok hv
  | .label _, env, h, r, L, hv, hL => plainG_ok hv
  | .exit _, env, h, r, L, hv, hL => plainG_ok hv
  | .ret, env, h, r, L, hv, hL => plainG_ok hv
  | .rangeFunc .., env, h, r, L, hv, hL => plainG_ok hv
  | .scope .., env, h, r, L, hv, hL => plainG_ok hv
  | .goto .., env, h, r, L, hv, hL => plainG_ok hv
  | .refuse .., env, h, r, L, hv, hL => plainG_ok hv
  | .region i ops false, env, h, r, L, hv, hL => plainG_ok hv
  | .region i ops true, env, h, r, L, hv, hL => by
    simp only [cdG] at hv
    split at hv
    · exact plainG_ok hv
    · rename_i hd
      split at hv
      case h_2 => cases hv
      rename_i e h' L1 hg
      cases hv
      show finS (Bool.rec (motive := fun _ => Option (Br AV × HT)) (opsF ops ops.toList c R N env h) (Bool.rec (motive := fun _ => Option (Br AV × HT)) (regWF ops c R N env h) (opsF ops ops.toList c R N env h) (drawOk mdA ops)) true) = _
      rw [hd]
      show finS (regWF ops c R N env h) = _
      rw [regG_ok hg hL]
      rfl
  | .seq a b, env, h, r, L, hv, hL => by
    simp only [cdG] at hv
    show thenE (cdF b) c R N (cdF a c R N env h) = some r
    split at hv
    · rename_i env' h' L1 h1
      split at hv
      case h_2 => cases hv
      rename_i r2 L2 h2
      cases hv
      rw [cdG_ok a h1 fun p hp => hL p (List.mem_append_left _ hp)]
      exact cdG_ok b h2 fun p hp => hL p (List.mem_append_right _ hp)
    · rename_i hx
      rw [cdG_ok a hv hL]
      obtain ⟨e, env', h'⟩ := r
      cases e <;> first | rfl | exact absurd hv (hx _ _ _)
  | .cond o a b, env, h, r, L, hv, hL => by
    simp only [cdG] at hv
    show condV (cdF a c R N env h) (cdF b c R N env h) (ev1 c env o) = some r
    split at hv
    · rename_i he; rw [he]; exact cdG_ok a hv hL
    · rename_i he; rw [he]; exact cdG_ok b hv hL
    · cases hv
  | .block id b, env, h, r, L, hv, hL => by
    simp only [cdG] at hv
    show blockV id (cdF b c R N env h) = some r
    split at hv
    case h_2 => cases hv
    rename_i r1 L1 h1
    split at hv
    case h_2 => cases hv
    rename_i r2 h2
    cases hv
    rw [cdG_ok b h1 hL]
    exact h2
  | .loop b, env, h, r, L, hv, hL => by
    have key : ∀ (n : Nat) {env : Br AV} {h : HT} {L : Obl}, loopG (cdG c R N b) n env h = some (r, L) → okL L → loopN (cdF b) c R N n env h = some r := by
      intro n
      induction n with
      | zero => intro env h L hv _; cases hv
      | succ n ih =>
        intro env h L hv hL
        have hv : (match cdG c R N b env h with
          | some ((.normal, env', h'), L) => match loopG (cdG c R N b) n env' h' with
            | some (r, L') => some (r, L ++ L')
            | none => none
          | r => r) = some (r, L) := hv
        show (match cdF b c R N env h with
          | some (.normal, env', h') => loopN (cdF b) c R N n env' h'
          | r => r) = some r
        split at hv
        · rename_i env' h' L1 h1
          split at hv
          case h_2 => cases hv
          rename_i r2 L2 h2
          cases hv
          rw [cdG_ok b h1 fun p hp => hL p (List.mem_append_left _ hp)]
          exact ih h2 fun p hp => hL p (List.mem_append_right _ hp)
        · rename_i hx
          rw [cdG_ok b hv hL]
          obtain ⟨e, env', h'⟩ := r
          cases e <;> first | rfl | exact absurd hv (hx _ _ _)
    exact key c.n hv hL
end Go.Vi
