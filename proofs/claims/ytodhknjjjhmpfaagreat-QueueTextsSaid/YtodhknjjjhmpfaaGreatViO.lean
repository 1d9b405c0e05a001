/- Vi, part O: regions whose order is drawn. -/
import Derived.Test.YtodhknjjjhmpfaaGreatViN
set_option autoImplicit false
set_option linter.unusedVariables false
set_option linter.unusedSimpArgs false
namespace Go.Vi

/-- 0: looks at its operands alone; 1: reads objects too; 2: anything. -/
def clsOp (md : Oper → Md) (o : Oper) : Nat :=
  match o.op with
  | .move _ | .assign _ | .pick .. | .build .. | .nilCheck _ | .binOp .. | .unOp .. | .fieldAddr .. | .field .. | .extract .. | .index .. => 0
  | .load .. | .slice .. | .indexAddr .. | .lookup .. => 1
  | .convert a b _ => if a = b then 2 else 1
  | .buildSlice .. => if md o = .iso then 0 else 2
  | .call { callee := .builtin b, .. } => match b with
    | .len | .min | .max => 1
    | .unsafeSliceData => 0
    | _ => 2
  | .call { callee := .value _, .. } => if md o = .iso then 1 else 2
  | _ => 2

def vst (X : Sem1) (P : Program) (md : Oper → Md) (G : Glob) (ops : Array Oper) (i : Nat) (s s' : List AV × Hp) : Prop :=
  ∃ o, ops[i]? = some o ∧
    ((wantedV o.guard ops s.1 = some true ∧ ∃ v, (clsOp md o ≠ 2 → s'.2 = s.2) ∧ vop X P md G s.1 s.2 o (fun v1 H1 => v1 = v ∧ H1 = s'.2) ∧ s'.1 = putE s.1 o.dst v) ∨
     (wantedV o.guard ops s.1 = some false ∧ s'.2 = s.2 ∧ s'.1 = putE s.1 o.dst (.tup [])))

def vtr (X : Sem1) (P : Program) (md : Oper → Md) (G : Glob) (ops : Array Oper) : List Nat → List AV × Hp → List AV × Hp → Prop
  | [], s, s' => s' = s
  | i :: r, s, s' => ∃ s1, vst X P md G ops i s s1 ∧ vtr X P md G ops r s1 s'

/-- A region, in the text's order, of which each step does one thing. -/
def vseqD (X : Sem1) (P : Program) (md : Oper → Md) (G : Glob) (ops : Array Oper) : List Nat → List AV → Hp → (List AV → Hp → Prop) → Prop
  | [], env, H, K => K env H
  | i :: r, env, H, K => match ops[i]? with
    | none => False
    | some o => match wantedV o.guard ops env with
      | some true => if clsOp md o = 2 then ∃ v H', vop X P md G env H o (fun v1 H1 => v1 = v ∧ H1 = H') ∧ vseqD X P md G ops r (putE env o.dst v) H' K
        else ∃ v, vop X P md G env H o (fun v1 H1 => v1 = v ∧ H1 = H) ∧ vseqD X P md G ops r (putE env o.dst v) H K
      | some false => vseqD X P md G ops r (putE env o.dst (.tup [])) H K
      | none => False

theorem vseqD_tr {X : Sem1} {P : Program} {md : Oper → Md} {G : Glob} {ops : Array Oper} {K : List AV → Hp → Prop} : ∀ (l : List Nat) (env : List AV) (H : Hp), vseqD X P md G ops l env H K → ∃ s', vtr X P md G ops l (env, H) s' ∧ K s'.1 s'.2
  | [], env, H, h => ⟨(env, H), rfl, h⟩
  | i :: r, env, H, h => by
    simp only [vseqD] at h
    split at h
    · exact h.elim
    · rename_i o ho
      split at h
      · rename_i hw
        split at h
        · rename_i hc
          obtain ⟨v, H', h1, h2⟩ := h
          obtain ⟨s', h3, h4⟩ := vseqD_tr r _ _ h2
          exact ⟨s', ⟨(putE env o.dst v, H'), ⟨o, ho, .inl ⟨hw, v, fun h => absurd hc h, h1, rfl⟩⟩, h3⟩, h4⟩
        · rename_i hc
          obtain ⟨v, h1, h2⟩ := h
          obtain ⟨s', h3, h4⟩ := vseqD_tr r _ _ h2
          exact ⟨s', ⟨(putE env o.dst v, H), ⟨o, ho, .inl ⟨hw, v, fun _ => rfl, h1, rfl⟩⟩, h3⟩, h4⟩
      · rename_i hw
        obtain ⟨s', h3, h4⟩ := vseqD_tr r _ _ h
        exact ⟨s', ⟨(putE env o.dst (.tup []), H), ⟨o, ho, .inr ⟨hw, rfl, rfl⟩⟩, h3⟩, h4⟩
      · exact h.elim

theorem vnext_mono {H : Hp} {x : AV} {k k' : AV → Hp → Prop} (h : vnext H x k) (hk : ∀ r H', k r H' → k' r H') : vnext H x k' := by
  unfold vnext at h ⊢
  split at h
  · split at h
    · split at h
      · exact ⟨h.1, fun hj => hk _ _ (h.2.1 hj), fun j e he hj => hk _ _ (h.2.2 j e he hj)⟩
      · exact h.elim
    · exact h.elim
  · exact h.elim
theorem vop_mono {P : Program} {md : Oper → Md} {G : Glob} {env : List AV} {H : Hp} {o : Oper} {k k' : AV → Hp → Prop} (h : vop (XS P G) P md G env H o k) (hk : ∀ r H', k r H' → k' r H') : vop (XS P G) P md G env H o k' := by
  unfold vop at h ⊢
  split at h
  · split at h
    · split at h
      case isFalse hen =>
        rw [if_neg hen]
        obtain ⟨x, h2, h3⟩ := h
        exact ⟨x, h2, hk _ _ h3⟩
      rename_i hen
      rw [if_pos hen]
      have h2 := h
      unfold vcallX at h2 ⊢
      split at h2
      · exact h2.mono hk
      · split at h2
        · refine h2.mono fun r H2 hr => ?_
          split at hr
          · exact hk _ _ hr
          · exact hr.elim
        · exact h2.elim
      · refine h2.mono fun r H2 hr => ?_
        split at hr
        · exact hk _ _ hr
        · exact hr.elim
    · exact h.elim
  · split at h
    · split at h
      · refine ⟨h.1, ?_⟩
        have h2 := h.2
        unfold vcallX at h2 ⊢
        split at h2
        · exact h2.mono hk
        · split at h2
          · refine h2.mono fun r H2 hr => ?_
            split at hr
            · exact hk _ _ hr
            · exact hr.elim
          · exact h2.elim
        · refine h2.mono fun r H2 hr => ?_
          split at hr
          · exact hk _ _ hr
          · exact hr.elim
      · exact h.elim
    · exact h.elim
  · split at h
    · exact vnext_mono h hk
    · exact h.elim
  · split at h
    · exact hk _ _ h
    · exact h.elim

theorem vtr_seq {P : Program} {md : Oper → Md} {G : Glob} {ops : Array Oper} {K : List AV → Hp → Prop} : ∀ (l : List Nat) (s s' : List AV × Hp), vtr (XS P G) P md G ops l s s' → K s'.1 s'.2 → vseq (XS P G) P md G ops l s.1 s.2 K
  | [], s, s', h, hK => by cases h; exact ⟨_, Wk.refl _, hK⟩
  | i :: r, s, s', ⟨s1, ⟨o, ho, hs⟩, hr⟩, hK => by
    simp only [vseq, ho]
    refine ⟨s.1, Wk.refl _, ?_⟩
    rcases hs with ⟨hw, v, hc, hv, he⟩ | ⟨hw, hH, he⟩
    · rw [hw]
      refine vop_mono hv ?_
      rintro v1 H1 ⟨rfl, rfl⟩
      rw [← he]
      exact vtr_seq r s1 s' hr hK
    · rw [hw]
      simp only
      rw [← he, ← hH]
      exact vtr_seq r s1 s' hr hK

/-! ### Two neighbours change places -/
def readsOf (ops : Array Oper) (o : Oper) : List Nat :=
  (o.op.operands.toList.filterMap fun x => match x with | .tmp t => some t | _ => none) ++
    (match o.guard with | some (g, _) => ((ops[g]?).bind (·.dst)).toList | none => [])

theorem wanted_set {ops : Array Oper} {o : Oper} {env : List AV} {d : Nat} {v : AV} (h : d ∉ readsOf ops o) : wantedV o.guard ops (env.set d v) = wantedV o.guard ops env := by
  unfold wantedV
  cases hg : o.guard with
  | none => rfl
  | some p =>
    obtain ⟨j, want⟩ := p
    simp only
    cases hd : (ops[j]?).bind (·.dst) with
    | none => rfl
    | some d' =>
      have hne : d ≠ d' := fun e => h (by simp [readsOf, hg, hd, e])
      simp only [Option.bind_some, List.getElem?_set_ne hne]

theorem ev_set {ops : Array Oper} {o : Oper} {G : Glob} {env : List AV} {d : Nat} {v : AV} (h : d ∉ readsOf ops o) : ∀ x ∈ o.op.operands, ev G (env.set d v) x = ev G env x := by
  intro x hx
  cases x with
  | tmp t =>
    have hne : d ≠ t := fun e => h (by
      simp only [readsOf, List.mem_append, List.mem_filterMap]
      exact .inl ⟨.tmp t, Array.mem_toList_iff.2 hx, by simp [e]⟩)
    simp only [ev, List.getElem?_set_ne hne]
  | _ => rfl

theorem vop_congr {X : Sem1} {P : Program} {md : Oper → Md} {G : Glob} {env env' : List AV} {H : Hp} {o : Oper} {k : AV → Hp → Prop} (h : ∀ x ∈ o.op.operands, ev G env' x = ev G env x) (hv : vop X P md G env H o k) : vop X P md G env' H o k := by
  unfold vop at hv ⊢
  split at hv
  · rename_i f args ts ho
    rw [ho] at h
    have h1 := h f (by simp [Op.operands, Call.operands])
    have h2 := evL_congr (e := ev G env') (e' := ev G env) (l := args.toList) (fun x hx => h x (by simp [Op.operands, Call.operands]; exact .inr (by simpa using hx)))
    rw [h1, h2]
    exact hv
  · rename_i f name args ts ho
    rw [ho] at h
    have h1 := h f (by simp [Op.operands, Call.operands])
    have h2 := evL_congr (e := ev G env') (e' := ev G env) (l := args.toList) (fun x hx => h x (by simp [Op.operands, Call.operands]; exact .inr (by simpa using hx)))
    rw [h1, h2]
    exact hv
  · rename_i x sb ho
    rw [ho] at h
    rw [h x (by simp [Op.operands])]
    exact hv
  · rw [vexec2_congr h]
    exact hv

theorem vop_pure {X : Sem1} {P : Program} {md : Oper → Md} {G : Glob} {env : List AV} {H H' : Hp} {o : Oper} {v : AV} (hc : clsOp md o = 0) (hv : vop X P md G env H o (fun v1 H1 => v1 = v ∧ H1 = H')) :
    ∀ H2, vop X P md G env H2 o (fun v1 H1 => v1 = v ∧ H1 = H2) := by
  intro H2
  obtain ⟨dst, op, type, pos, after, guard⟩ := o
  have key : ∀ (z : Option AV), (match z.map (·, H) with | some (r, H1) => r = v ∧ H1 = H' | none => False) → (match z.map (·, H2) with | some (r, H1) => r = v ∧ H1 = H2 | none => False) := by
    intro z hz
    cases z with
    | none => exact hz.elim
    | some z => exact ⟨hz.1, rfl⟩
  cases op with
  | move x | assign x => simp only [vop, vexec2, vexec] at hv ⊢; exact key _ hv
  | pick a b d =>
    simp only [vop, vexec2, vexec] at hv ⊢
    generalize ev G env a = ya at hv ⊢
    cases ya with
    | none => exact False.elim hv
    | some y => cases y with
      | bool bb => cases bb <;> exact key _ hv
      | _ => exact False.elim hv
  | build t ps =>
    simp only [vop, vexec2, vexec] at hv ⊢
    generalize evP (ev G env) ps.toList = y at hv ⊢
    cases y with
    | none => exact False.elim hv
    | some y => exact key _ hv
  | buildSlice t len ps =>
    simp only [clsOp] at hc
    split at hc
    · rename_i hm
      simp only [vop, vexec2] at hv ⊢
      generalize evP (ev G env) ps.toList = y at hv ⊢
      cases y with
      | none => exact False.elim hv
      | some y =>
        simp only at hv ⊢
        rw [if_pos hm] at hv ⊢
        exact key _ hv
    · cases hc
  | nilCheck x =>
    simp only [vop, vexec2, vexec] at hv ⊢
    generalize ev G env x = y at hv ⊢
    cases y with
    | none => exact False.elim hv
    | some y =>
      simp only at hv ⊢
      by_cases hn : y.notNil = true
      · rw [if_pos hn] at hv ⊢; exact ⟨hv.1, rfl⟩
      · rw [if_neg hn] at hv; exact False.elim hv
  | unOp a b x | fieldAddr a x b | field a x b | extract x a =>
    simp only [vop, vexec2, vexec] at hv ⊢
    generalize ev G env x = y at hv ⊢
    cases y with
    | none => exact False.elim hv
    | some y => exact key _ hv
  | binOp a b x y d | index d x y =>
    simp only [vop, vexec2, vexec] at hv ⊢
    generalize ev G env x = x' at hv ⊢
    generalize ev G env y = y' at hv ⊢
    cases x' with
    | none => exact False.elim hv
    | some x' =>
      cases y' with
      | none => exact False.elim hv
      | some y' => exact key _ hv
  | call c =>
    obtain ⟨callee, args, ts⟩ := c
    cases callee with
    | builtin b =>
      cases b <;> first
        | (cases hc; done)
        | (simp only [vop, vexec2, vexec] at hv ⊢
           generalize evL (ev G env) args.toList = y at hv ⊢
           match y, hv with
           | none, hv => exact False.elim hv
           | some [], hv => exact False.elim hv
           | some [x], hv => exact key (vsliceData x) hv
           | some (x :: x2 :: r), hv => exact False.elim hv)
    | value f => simp only [clsOp] at hc; split at hc <;> cases hc
    | invoke a b => cases hc
  | convert a b x => simp only [clsOp] at hc; split at hc <;> cases hc
  | _ => cases hc

def okPair (md : Oper → Md) (ops : Array Oper) (oj oi : Oper) : Bool :=
  (match oj.dst with | some d => !(readsOf ops oi).contains d && !(oi.dst == some d) | none => true) &&
  (match oi.dst with | some d => !(readsOf ops oj).contains d | none => true) &&
  (clsOp md oj == 0 || clsOp md oi == 0 || (clsOp md oj == 1 && clsOp md oi == 1))

theorem putE_comm {env : List AV} {d d' : Option Tmp} {v v' : AV} (h : ∀ t, d = some t → d' ≠ some t) : putE (putE env d v) d' v' = putE (putE env d' v') d v := by
  cases d with
  | none => rfl
  | some t =>
    cases d' with
    | none => rfl
    | some t' =>
      have hne : t ≠ t' := fun e => h t rfl (by rw [e])
      simp only [putE]
      exact List.set_comm _ _ hne

theorem putE_wanted {ops : Array Oper} {o : Oper} {env : List AV} {d : Option Tmp} {v : AV} (h : ∀ t, d = some t → t ∉ readsOf ops o) : wantedV o.guard ops (putE env d v) = wantedV o.guard ops env := by
  cases d with
  | none => rfl
  | some t => exact wanted_set (h t rfl)

theorem putE_vop {X : Sem1} {P : Program} {md : Oper → Md} {G : Glob} {ops : Array Oper} {o : Oper} {env : List AV} {d : Option Tmp} {v : AV} {H : Hp} {k : AV → Hp → Prop} (h : ∀ t, d = some t → t ∉ readsOf ops o) :
    vop X P md G (putE env d v) H o k ↔ vop X P md G env H o k := by
  cases d with
  | none => exact Iff.rfl
  | some t => exact ⟨fun hv => vop_congr (fun x hx => (ev_set (h t rfl) x hx).symm) hv, fun hv => vop_congr (ev_set (h t rfl)) hv⟩

theorem vst_swap {X : Sem1} {P : Program} {md : Oper → Md} {G : Glob} {ops : Array Oper} {i j : Nat} {s s1 s2 : List AV × Hp} {oi oj : Oper} (hi : ops[i]? = some oi) (hj : ops[j]? = some oj) (hok : okPair md ops oj oi = true)
    (h1 : vst X P md G ops j s s1) (h2 : vst X P md G ops i s1 s2) : ∃ s1', vst X P md G ops i s s1' ∧ vst X P md G ops j s1' s2 := by
  simp only [okPair, Bool.and_eq_true] at hok
  obtain ⟨⟨k1, k2⟩, k3⟩ := hok
  have d1 : ∀ t, oj.dst = some t → t ∉ readsOf ops oi := fun t ht => by rw [ht] at k1; simp at k1; exact k1.1
  have d2 : ∀ t, oj.dst = some t → oi.dst ≠ some t := fun t ht => by rw [ht] at k1; simp at k1; exact k1.2
  have d3 : ∀ t, oi.dst = some t → t ∉ readsOf ops oj := fun t ht => by rw [ht] at k2; simpa using k2
  obtain ⟨env, H⟩ := s
  obtain ⟨env1, H1⟩ := s1
  obtain ⟨env2, H2⟩ := s2
  obtain ⟨o, ho, h1⟩ := h1
  rw [hj] at ho; cases ho
  obtain ⟨o, ho, h2⟩ := h2
  rw [hi] at ho; cases ho
  simp only at h1 h2
  rcases h1 with ⟨w1, v1, c1, p1, e1⟩ | ⟨w1, c1, e1⟩ <;> rcases h2 with ⟨w2, v2, c2, p2, e2⟩ | ⟨w2, c2, e2⟩ <;> subst e1 <;> rw [putE_wanted d1] at w2
  · rw [putE_vop d1] at p2
    have hcl : clsOp md oj = 0 ∨ clsOp md oi = 0 ∨ (clsOp md oj = 1 ∧ clsOp md oi = 1) := by simpa [or_assoc] using k3
    rcases hcl with hcl | hcl | ⟨hc1, hc2⟩
    · have : H1 = H := c1 (by omega)
      subst this
      refine ⟨(putE env oi.dst v2, H2), ⟨oi, hi, .inl ⟨w2, v2, c2, p2, rfl⟩⟩, ⟨oj, hj, .inl ⟨?_, v1, fun _ => rfl, ?_, ?_⟩⟩⟩
      · show wantedV oj.guard ops (putE env oi.dst v2) = _
        rw [putE_wanted d3]; exact w1
      · show vop X P md G (putE env oi.dst v2) H2 oj _
        rw [putE_vop d3]; exact vop_pure hcl p1 H2
      · show env2 = _
        rw [e2]; exact putE_comm d2
    · have : H2 = H1 := c2 (by omega)
      subst this
      refine ⟨(putE env oi.dst v2, H), ⟨oi, hi, .inl ⟨w2, v2, fun _ => rfl, vop_pure hcl p2 H, rfl⟩⟩, ⟨oj, hj, .inl ⟨?_, v1, c1, ?_, ?_⟩⟩⟩
      · show wantedV oj.guard ops (putE env oi.dst v2) = _
        rw [putE_wanted d3]; exact w1
      · show vop X P md G (putE env oi.dst v2) H oj _
        rw [putE_vop d3]; exact p1
      · show env2 = _
        rw [e2]; exact putE_comm d2
    · have a1 : H1 = H := c1 (by omega)
      subst a1
      have a2 : H2 = H1 := c2 (by omega)
      subst a2
      refine ⟨(putE env oi.dst v2, H2), ⟨oi, hi, .inl ⟨w2, v2, fun _ => rfl, p2, rfl⟩⟩, ⟨oj, hj, .inl ⟨?_, v1, fun _ => rfl, ?_, ?_⟩⟩⟩
      · show wantedV oj.guard ops (putE env oi.dst v2) = _
        rw [putE_wanted d3]; exact w1
      · show vop X P md G (putE env oi.dst v2) H2 oj _
        rw [putE_vop d3]; exact p1
      · show env2 = _
        rw [e2]; exact putE_comm d2
  · have : H2 = H1 := c2
    subst this
    refine ⟨(putE env oi.dst (.tup []), H), ⟨oi, hi, .inr ⟨w2, rfl, rfl⟩⟩, ⟨oj, hj, .inl ⟨?_, v1, c1, ?_, ?_⟩⟩⟩
    · show wantedV oj.guard ops (putE env oi.dst _) = _
      rw [putE_wanted d3]; exact w1
    · show vop X P md G (putE env oi.dst _) H oj _
      rw [putE_vop d3]; exact p1
    · show env2 = _
      rw [e2]; exact putE_comm d2
  · have : H1 = H := c1
    subst this
    rw [putE_vop d1] at p2
    refine ⟨(putE env oi.dst v2, H2), ⟨oi, hi, .inl ⟨w2, v2, c2, p2, rfl⟩⟩, ⟨oj, hj, .inr ⟨?_, rfl, ?_⟩⟩⟩
    · show wantedV oj.guard ops (putE env oi.dst v2) = _
      rw [putE_wanted d3]; exact w1
    · show env2 = _
      rw [e2]; exact putE_comm d2
  · have : H1 = H := c1
    subst this
    have : H2 = H1 := c2
    subst this
    refine ⟨(putE env oi.dst (.tup []), H2), ⟨oi, hi, .inr ⟨w2, rfl, rfl⟩⟩, ⟨oj, hj, .inr ⟨?_, rfl, ?_⟩⟩⟩
    · show wantedV oj.guard ops (putE env oi.dst _) = _
      rw [putE_wanted d3]; exact w1
    · show env2 = _
      rw [e2]; exact putE_comm d2

def okIdx (md : Oper → Md) (ops : Array Oper) (j i : Nat) : Bool :=
  match ops[j]?, ops[i]? with
  | some oj, some oi => okPair md ops oj oi
  | _, _ => false

theorem vtr_front {X : Sem1} {P : Program} {md : Oper → Md} {G : Glob} {ops : Array Oper} {i : Nat} {post : List Nat} {s' : List AV × Hp} : ∀ (pre : List Nat) (s : List AV × Hp), (∀ j ∈ pre, okIdx md ops j i = true) → vtr X P md G ops (pre ++ i :: post) s s' → vtr X P md G ops (i :: (pre ++ post)) s s'
  | [], s, hok, h => h
  | j :: pre, s, hok, h => by
    obtain ⟨s1, h1, h2⟩ := h
    obtain ⟨s2, h3, h4⟩ := vtr_front pre s1 (fun x hx => hok x (by simp [hx])) h2
    have hj := hok j (by simp)
    unfold okIdx at hj
    split at hj
    · rename_i oj oi e1 e2
      obtain ⟨s3, h5, h6⟩ := vst_swap e2 e1 hj h1 h3
      exact ⟨s3, h5, s2, h6, h4⟩
    · cases hj

/-- An order that may be had from another by bringing forward. -/
inductive Sch (ok : Nat → Nat → Bool) : List Nat → List Nat → Prop
  | nil : Sch ok [] []
  | cons (i : Nat) (l pre post : List Nat) : (∀ j ∈ pre, ok j i = true) → Sch ok l (pre ++ post) → Sch ok (i :: l) (pre ++ i :: post)

theorem vtr_sch {X : Sem1} {P : Program} {md : Oper → Md} {G : Glob} {ops : Array Oper} {l todo : List Nat} (hs : Sch (okIdx md ops) l todo) : ∀ {s s' : List AV × Hp}, vtr X P md G ops todo s s' → vtr X P md G ops l s s' := by
  induction hs with
  | nil => exact fun h => h
  | cons i l pre post hok _ ih =>
    intro s s' h
    obtain ⟨s1, h1, h2⟩ := vtr_front pre s hok h
    exact ⟨s1, h1, ih h2⟩
end Go.Vi
