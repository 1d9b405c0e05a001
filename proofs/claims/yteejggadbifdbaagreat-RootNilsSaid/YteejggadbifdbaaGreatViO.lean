/- Vi, part O: regions whose order is drawn. -/
import Derived.Test.YteejggadbifdbaaGreatViN
section
set_option autoImplicit false
set_option linter.unusedVariables false
set_option linter.unusedSimpArgs false
namespace Go.Vi

/-- 0: looks at its operands alone; 1: reads objects too; 2: anything. -/
def clsOp (md : Oper → Md) (o : Oper) : Nat :=
  match o.op with
  | .move _ | .assign _ | .pick .. | .build .. | .nilCheck _ | .binOp .. | .unOp .. | .fieldAddr .. | .field .. | .extract .. | .index .. => 0
  | .load .. | .slice .. | .indexAddr .. | .lookup .. => 1
  | .convert a b _ => if a = b then 2 else 1
  | .buildSlice .. => if md o = .iso then 0 else 2
  | .call { callee := .builtin b, .. } => match b with
    | .len | .min | .max => 1
    | .unsafeSliceData => 0
    | _ => 2
  | .call { callee := .value _, .. } => if md o = .iso then 1 else 2
  | _ => 2

def vst (X : Sem1) (P : Program) (md : Oper → Md) (G : Glob) (ops : Array Oper) (i : Nat) (s s' : List AV × Hp) : Prop :=
  ∃ o, ops[i]? = some o ∧
    ((wantedV o.guard ops s.1 = some true ∧ ∃ v, (clsOp md o ≠ 2 → s'.2 = s.2) ∧ vop X P md G s.1 s.2 o (fun v1 H1 => v1 = v ∧ H1 = s'.2) ∧ s'.1 = putE s.1 o.dst v) ∨
     (wantedV o.guard ops s.1 = some false ∧ s'.2 = s.2 ∧ s'.1 = putE s.1 o.dst (.tup [])))

def vtr (X : Sem1) (P : Program) (md : Oper → Md) (G : Glob) (ops : Array Oper) : List Nat → List AV × Hp → List AV × Hp → Prop
  | [], s, s' => s' = s
  | i :: r, s, s' => ∃ s1, vst X P md G ops i s s1 ∧ vtr X P md G ops r s1 s'

/-- A region, in the text's order, of which each step does one thing. -/
def vseqD (X : Sem1) (P : Program) (md : Oper → Md) (G : Glob) (ops : Array Oper) : List Nat → List AV → Hp → (List AV → Hp → Prop) → Prop
  | [], env, H, K => K env H
  | i :: r, env, H, K => match ops[i]? with
    | none => False
    | some o => match wantedV o.guard ops env with
      | some true => if clsOp md o = 2 then ∃ v H', vop X P md G env H o (fun v1 H1 => v1 = v ∧ H1 = H') ∧ vseqD X P md G ops r (putE env o.dst v) H' K
        else ∃ v, vop X P md G env H o (fun v1 H1 => v1 = v ∧ H1 = H) ∧ vseqD X P md G ops r (putE env o.dst v) H K
      | some false => vseqD X P md G ops r (putE env o.dst (.tup [])) H K
      | none => False

theorem vseqD_tr {X : Sem1} {P : Program} {md : Oper → Md} {G : Glob} {ops : Array Oper} {K : List AV → Hp → Prop} : ∀ (l : List Nat) (env : List AV) (H : Hp), vseqD X P md G ops l env H K → ∃ s', vtr X P md G ops l (env, H) s' ∧ K s'.1 s'.2
  | [], env, H, h => ⟨(env, H), rfl, h⟩
  | i :: r, env, H, h => by
    simp only [vseqD] at h
    split at h
    · exact h.elim
    · rename_i o ho
      split at h
      · rename_i hw
        split at h
        · rename_i hc
          obtain ⟨v, H', h1, h2⟩ := h
          obtain ⟨s', h3, h4⟩ := vseqD_tr r _ _ h2
          exact ⟨s', ⟨(putE env o.dst v, H'), ⟨o, ho, .inl ⟨hw, v, fun h => absurd hc h, h1, rfl⟩⟩, h3⟩, h4⟩
        · rename_i hc
          obtain ⟨v, h1, h2⟩ := h
          obtain ⟨s', h3, h4⟩ := vseqD_tr r _ _ h2
          exact ⟨s', ⟨(putE env o.dst v, H), ⟨o, ho, .inl ⟨hw, v, fun _ => rfl, h1, rfl⟩⟩, h3⟩, h4⟩
      · rename_i hw
        obtain ⟨s', h3, h4⟩ := vseqD_tr r _ _ h
        exact ⟨s', ⟨(putE env o.dst (.tup []), H), ⟨o, ho, .inr ⟨hw, rfl, rfl⟩⟩, h3⟩, h4⟩
      · exact h.elim

theorem vnext_mono {H : Hp} {x : AV} {k k' : AV → Hp → Prop} (h : vnext H x k) (hk : ∀ r H', k r H' → k' r H') : vnext H x k' := by
  unfold vnext at h ⊢
  split at h
  · split at h
    · split at h
      · exact ⟨h.1, fun hj => hk _ _ (h.2.1 hj), fun j e he hj => hk _ _ (h.2.2 j e he hj)⟩
      · exact h.elim
    · exact h.elim
  · exact h.elim
theorem vop_mono {P : Program} {md : Oper → Md} {G : Glob} {env : List AV} {H : Hp} {o : Oper} {k k' : AV → Hp → Prop} (h : vop (XS P G) P md G env H o k) (hk : ∀ r H', k r H' → k' r H') : vop (XS P G) P md G env H o k' := by
  unfold vop at h ⊢
  split at h
  · split at h
    · split at h
      case isFalse hen =>
        rw [if_neg hen]
        obtain ⟨x, h2, h3⟩ := h
        exact ⟨x, h2, hk _ _ h3⟩
      rename_i hen
      rw [if_pos hen]
      have h2 := h
      unfold vcallX at h2 ⊢
      split at h2
      · exact h2.mono hk
      · split at h2
        · refine h2.mono fun r H2 hr => ?_
          split at hr
          · exact hk _ _ hr
          · exact hr.elim
        · exact h2.elim
      · refine h2.mono fun r H2 hr => ?_
        split at hr
        · exact hk _ _ hr
        · exact hr.elim
    · exact h.elim
  · split at h
    · split at h
      · refine ⟨h.1, ?_⟩
        have h2 := h.2
        unfold vcallX at h2 ⊢
        split at h2
        · exact h2.mono hk
        · split at h2
          · refine h2.mono fun r H2 hr => ?_
            split at hr
            · exact hk _ _ hr
            · exact hr.elim
          · exact h2.elim
        · refine h2.mono fun r H2 hr => ?_
          split at hr
          · exact hk _ _ hr
          · exact hr.elim
      · exact h.elim
    · exact h.elim
  · split at h
    · exact vnext_mono h hk
    · exact h.elim
  · split at h
    · exact hk _ _ h
    · exact h.elim

theorem vtr_seq {P : Program} {md : Oper → Md} {G : Glob} {ops : Array Oper} {K : List AV → Hp → Prop} : ∀ (l : List Nat) (s s' : List AV × Hp), vtr (XS P G) P md G ops l s s' → K s'.1 s'.2 → vseq (XS P G) P md G ops l s.1 s.2 K
  | [], s, s', h, hK => by cases h; exact ⟨_, Wk.refl _, hK⟩
  | i :: r, s, s', ⟨s1, ⟨o, ho, hs⟩, hr⟩, hK => by
    simp only [vseq, ho]
    refine ⟨s.1, Wk.refl _, ?_⟩
    rcases hs with ⟨hw, v, hc, hv, he⟩ | ⟨hw, hH, he⟩
    · rw [hw]
      refine vop_mono hv ?_
      rintro v1 H1 ⟨rfl, rfl⟩
      rw [← he]
      exact vtr_seq r s1 s' hr hK
    · rw [hw]
      simp only
      rw [← he, ← hH]
      exact vtr_seq r s1 s' hr hK

/-! ### Two neighbours change places -/
def readsOf (ops : Array Oper) (o : Oper) : List Nat :=
  (o.op.operands.toList.filterMap fun x => match x with | .tmp t => some t | _ => none) ++
    (match o.guard with | some (g, _) => ((ops[g]?).bind (·.dst)).toList | none => [])

theorem wanted_set {ops : Array Oper} {o : Oper} {env : List AV} {d : Nat} {v : AV} (h : d ∉ readsOf ops o) : wantedV o.guard ops (env.set d v) = wantedV o.guard ops env := by
  unfold wantedV
  cases hg : o.guard with
  | none => rfl
  | some p =>
    obtain ⟨j, want⟩ := p
    simp only
    cases hd : (ops[j]?).bind (·.dst) with
    | none => rfl
    | some d' =>
      have hne : d ≠ d' := fun e => h (by simp [readsOf, hg, hd, e])
      simp only [Option.bind_some, List.getElem?_set_ne hne]

theorem ev_set {ops : Array Oper} {o : Oper} {G : Glob} {env : List AV} {d : Nat} {v : AV} (h : d ∉ readsOf ops o) : ∀ x ∈ o.op.operands, ev G (env.set d v) x = ev G env x := by
  intro x hx
  cases x with
  | tmp t =>
    have hne : d ≠ t := fun e => h (by
      simp only [readsOf, List.mem_append, List.mem_filterMap]
      exact .inl ⟨.tmp t, Array.mem_toList_iff.2 hx, by simp [e]⟩)
    simp only [ev, List.getElem?_set_ne hne]
  | _ => rfl

theorem vop_congr {X : Sem1} {P : Program} {md : Oper → Md} {G : Glob} {env env' : List AV} {H : Hp} {o : Oper} {k : AV → Hp → Prop} (h : ∀ x ∈ o.op.operands, ev G env' x = ev G env x) (hv : vop X P md G env H o k) : vop X P md G env' H o k := by
  unfold vop at hv ⊢
  split at hv
  · rename_i f args ts ho
    rw [ho] at h
    have h1 := h f (by simp [Op.operands, Call.operands])
    have h2 := evL_congr (e := ev G env') (e' := ev G env) (l := args.toList) (fun x hx => h x (by simp [Op.operands, Call.operands]; exact .inr (by simpa using hx)))
    rw [h1, h2]
    exact hv
  · rename_i f name args ts ho
    rw [ho] at h
    have h1 := h f (by simp [Op.operands, Call.operands])
    have h2 := evL_congr (e := ev G env') (e' := ev G env) (l := args.toList) (fun x hx => h x (by simp [Op.operands, Call.operands]; exact .inr (by simpa using hx)))
    rw [h1, h2]
    exact hv
  · rename_i x sb ho
    rw [ho] at h
    rw [h x (by simp [Op.operands])]
    exact hv
  · rw [vexec2_congr h]
    exact hv

theorem vop_pure {X : Sem1} {P : Program} {md : Oper → Md} {G : Glob} {env : List AV} {H H' : Hp} {o : Oper} {v : AV} (hc : clsOp md o = 0) (hv : vop X P md G env H o (fun v1 H1 => v1 = v ∧ H1 = H')) :
    ∀ H2, vop X P md G env H2 o (fun v1 H1 => v1 = v ∧ H1 = H2) := by
  intro H2
  obtain ⟨dst, op, type, pos, after, guard⟩ := o
  have key : ∀ (z : Option AV), (match z.map (·, H) with | some (r, H1) => r = v ∧ H1 = H' | none => False) → (match z.map (·, H2) with | some (r, H1) => r = v ∧ H1 = H2 | none => False) := by
    intro z hz
    cases z with
    | none => exact hz.elim
    | some z => exact ⟨hz.1, rfl⟩
  cases op with
  | move x | assign x => simp only [vop, vexec2, vexec] at hv ⊢; exact key _ hv
  | pick a b d =>
    simp only [vop, vexec2, vexec] at hv ⊢
    generalize ev G env a = ya at hv ⊢
    cases ya with
    | none => exact False.elim hv
    | some y => cases y with
      | bool bb => cases bb <;> exact key _ hv
      | _ => exact False.elim hv
  | build t ps =>
    simp only [vop, vexec2, vexec] at hv ⊢
    generalize evP (ev G env) ps.toList = y at hv ⊢
    cases y with
    | none => exact False.elim hv
    | some y => exact key _ hv
  | buildSlice t len ps =>
    simp only [clsOp] at hc
    split at hc
    · rename_i hm
      simp only [vop, vexec2] at hv ⊢
      generalize evP (ev G env) ps.toList = y at hv ⊢
      cases y with
      | none => exact False.elim hv
      | some y =>
        simp only at hv ⊢
        rw [if_pos hm] at hv ⊢
        exact key _ hv
    · cases hc
  | nilCheck x =>
    simp only [vop, vexec2, vexec] at hv ⊢
    generalize ev G env x = y at hv ⊢
    cases y with
    | none => exact False.elim hv
    | some y =>
      simp only at hv ⊢
      by_cases hn : (y.notNil || methNN P y) = true
      · rw [if_pos hn] at hv ⊢; exact ⟨hv.1, rfl⟩
      · rw [if_neg hn] at hv; exact False.elim hv
  | unOp a b x | fieldAddr a x b | field a x b | extract x a =>
    simp only [vop, vexec2, vexec] at hv ⊢
    generalize ev G env x = y at hv ⊢
    cases y with
    | none => exact False.elim hv
    | some y => exact key _ hv
  | binOp a b x y d | index d x y =>
    simp only [vop, vexec2, vexec] at hv ⊢
    generalize ev G env x = x' at hv ⊢
    generalize ev G env y = y' at hv ⊢
    cases x' with
    | none => exact False.elim hv
    | some x' =>
      cases y' with
      | none => exact False.elim hv
      | some y' => exact key _ hv
  | call c =>
    obtain ⟨callee, args, ts⟩ := c
    cases callee with
    | builtin b =>
      cases b <;> first
        | (cases hc; done)
        | (simp only [vop, vexec2, vexec] at hv ⊢
           generalize evL (ev G env) args.toList = y at hv ⊢
           match y, hv with
           | none, hv => exact False.elim hv
           | some [], hv => exact False.elim hv
           | some [x], hv => exact key (vsliceData x) hv
           | some (x :: x2 :: r), hv => exact False.elim hv)
    | value f => simp only [clsOp] at hc; split at hc <;> cases hc
    | invoke a b => cases hc
  | convert a b x => simp only [clsOp] at hc; split at hc <;> cases hc
  | _ => cases hc

def okPair (md : Oper → Md) (ops : Array Oper) (oj oi : Oper) : Bool :=
  (match oj.dst with | some d => !(readsOf ops oi).contains d && !(oi.dst == some d) | none => true) &&
  (match oi.dst with | some d => !(readsOf ops oj).contains d | none => true) &&
  (clsOp md oj == 0 || clsOp md oi == 0 || (clsOp md oj == 1 && clsOp md oi == 1))

theorem putE_comm {env : List AV} {d d' : Option Tmp} {v v' : AV} (h : ∀ t, d = some t → d' ≠ some t) : putE (putE env d v) d' v' = putE (putE env d' v') d v := by
  cases d with
  | none => rfl
  | some t =>
    cases d' with
    | none => rfl
    | some t' =>
      have hne : t ≠ t' := fun e => h t rfl (by rw [e])
      simp only [putE]
      exact List.set_comm _ _ hne

theorem putE_wanted {ops : Array Oper} {o : Oper} {env : List AV} {d : Option Tmp} {v : AV} (h : ∀ t, d = some t → t ∉ readsOf ops o) : wantedV o.guard ops (putE env d v) = wantedV o.guard ops env := by
  cases d with
  | none => rfl
  | some t => exact wanted_set (h t rfl)

theorem putE_vop {X : Sem1} {P : Program} {md : Oper → Md} {G : Glob} {ops : Array Oper} {o : Oper} {env : List AV} {d : Option Tmp} {v : AV} {H : Hp} {k : AV → Hp → Prop} (h : ∀ t, d = some t → t ∉ readsOf ops o) :
    vop X P md G (putE env d v) H o k ↔ vop X P md G env H o k := by
  cases d with
  | none => exact Iff.rfl
  | some t => exact ⟨fun hv => vop_congr (fun x hx => (ev_set (h t rfl) x hx).symm) hv, fun hv => vop_congr (ev_set (h t rfl)) hv⟩

theorem vst_swap {X : Sem1} {P : Program} {md : Oper → Md} {G : Glob} {ops : Array Oper} {i j : Nat} {s s1 s2 : List AV × Hp} {oi oj : Oper} (hi : ops[i]? = some oi) (hj : ops[j]? = some oj) (hok : okPair md ops oj oi = true)
    (h1 : vst X P md G ops j s s1) (h2 : vst X P md G ops i s1 s2) : ∃ s1', vst X P md G ops i s s1' ∧ vst X P md G ops j s1' s2 := by
  simp only [okPair, Bool.and_eq_true] at hok
  obtain ⟨⟨k1, k2⟩, k3⟩ := hok
  have d1 : ∀ t, oj.dst = some t → t ∉ readsOf ops oi := fun t ht => by rw [ht] at k1; simp at k1; exact k1.1
  have d2 : ∀ t, oj.dst = some t → oi.dst ≠ some t := fun t ht => by rw [ht] at k1; simp at k1; exact k1.2
  have d3 : ∀ t, oi.dst = some t → t ∉ readsOf ops oj := fun t ht => by rw [ht] at k2; simpa using k2
  obtain ⟨env, H⟩ := s
  obtain ⟨env1, H1⟩ := s1
  obtain ⟨env2, H2⟩ := s2
  obtain ⟨o, ho, h1⟩ := h1
  rw [hj] at ho; cases ho
  obtain ⟨o, ho, h2⟩ := h2
  rw [hi] at ho; cases ho
  simp only at h1 h2
  rcases h1 with ⟨w1, v1, c1, p1, e1⟩ | ⟨w1, c1, e1⟩ <;> rcases h2 with ⟨w2, v2, c2, p2, e2⟩ | ⟨w2, c2, e2⟩ <;> subst e1 <;> rw [putE_wanted d1] at w2
  · rw [putE_vop d1] at p2
    have hcl : clsOp md oj = 0 ∨ clsOp md oi = 0 ∨ (clsOp md oj = 1 ∧ clsOp md oi = 1) := by simpa [or_assoc] using k3
    rcases hcl with hcl | hcl | ⟨hc1, hc2⟩
    · have : H1 = H := c1 (by omega)
      subst this
      refine ⟨(putE env oi.dst v2, H2), ⟨oi, hi, .inl ⟨w2, v2, c2, p2, rfl⟩⟩, ⟨oj, hj, .inl ⟨?_, v1, fun _ => rfl, ?_, ?_⟩⟩⟩
      · show wantedV oj.guard ops (putE env oi.dst v2) = _
        rw [putE_wanted d3]; exact w1
      · show vop X P md G (putE env oi.dst v2) H2 oj _
        rw [putE_vop d3]; exact vop_pure hcl p1 H2
      · show env2 = _
        rw [e2]; exact putE_comm d2
    · have : H2 = H1 := c2 (by omega)
      subst this
      refine ⟨(putE env oi.dst v2, H), ⟨oi, hi, .inl ⟨w2, v2, fun _ => rfl, vop_pure hcl p2 H, rfl⟩⟩, ⟨oj, hj, .inl ⟨?_, v1, c1, ?_, ?_⟩⟩⟩
      · show wantedV oj.guard ops (putE env oi.dst v2) = _
        rw [putE_wanted d3]; exact w1
      · show vop X P md G (putE env oi.dst v2) H oj _
        rw [putE_vop d3]; exact p1
      · show env2 = _
        rw [e2]; exact putE_comm d2
    · have a1 : H1 = H := c1 (by omega)
      subst a1
      have a2 : H2 = H1 := c2 (by omega)
      subst a2
      refine ⟨(putE env oi.dst v2, H2), ⟨oi, hi, .inl ⟨w2, v2, fun _ => rfl, p2, rfl⟩⟩, ⟨oj, hj, .inl ⟨?_, v1, fun _ => rfl, ?_, ?_⟩⟩⟩
      · show wantedV oj.guard ops (putE env oi.dst v2) = _
        rw [putE_wanted d3]; exact w1
      · show vop X P md G (putE env oi.dst v2) H2 oj _
        rw [putE_vop d3]; exact p1
      · show env2 = _
        rw [e2]; exact putE_comm d2
  · have : H2 = H1 := c2
    subst this
    refine ⟨(putE env oi.dst (.tup []), H), ⟨oi, hi, .inr ⟨w2, rfl, rfl⟩⟩, ⟨oj, hj, .inl ⟨?_, v1, c1, ?_, ?_⟩⟩⟩
    · show wantedV oj.guard ops (putE env oi.dst _) = _
      rw [putE_wanted d3]; exact w1
    · show vop X P md G (putE env oi.dst _) H oj _
      rw [putE_vop d3]; exact p1
    · show env2 = _
      rw [e2]; exact putE_comm d2
  · have : H1 = H := c1
    subst this
    rw [putE_vop d1] at p2
    refine ⟨(putE env oi.dst v2, H2), ⟨oi, hi, .inl ⟨w2, v2, c2, p2, rfl⟩⟩, ⟨oj, hj, .inr ⟨?_, rfl, ?_⟩⟩⟩
    · show wantedV oj.guard ops (putE env oi.dst v2) = _
      rw [putE_wanted d3]; exact w1
    · show env2 = _
      rw [e2]; exact putE_comm d2
  · have : H1 = H := c1
    subst this
    have : H2 = H1 := c2
    subst this
    refine ⟨(putE env oi.dst (.tup []), H2), ⟨oi, hi, .inr ⟨w2, rfl, rfl⟩⟩, ⟨oj, hj, .inr ⟨?_, rfl, ?_⟩⟩⟩
    · show wantedV oj.guard ops (putE env oi.dst _) = _
      rw [putE_wanted d3]; exact w1
    · show env2 = _
      rw [e2]; exact putE_comm d2

def okIdx (md : Oper → Md) (ops : Array Oper) (j i : Nat) : Bool :=
  match ops[j]?, ops[i]? with
  | some oj, some oi => okPair md ops oj oi
  | _, _ => false

theorem vtr_front {X : Sem1} {P : Program} {md : Oper → Md} {G : Glob} {ops : Array Oper} {i : Nat} {post : List Nat} {s' : List AV × Hp} : ∀ (pre : List Nat) (s : List AV × Hp), (∀ j ∈ pre, okIdx md ops j i = true) → vtr X P md G ops (pre ++ i :: post) s s' → vtr X P md G ops (i :: (pre ++ post)) s s'
  | [], s, hok, h => h
  | j :: pre, s, hok, h => by
    obtain ⟨s1, h1, h2⟩ := h
    obtain ⟨s2, h3, h4⟩ := vtr_front pre s1 (fun x hx => hok x (by simp [hx])) h2
    have hj := hok j (by simp)
    unfold okIdx at hj
    split at hj
    · rename_i oj oi e1 e2
      obtain ⟨s3, h5, h6⟩ := vst_swap e2 e1 hj h1 h3
      exact ⟨s3, h5, s2, h6, h4⟩
    · cases hj

/-- An order that may be had from another by bringing forward. -/
inductive Sch (ok : Nat → Nat → Bool) : List Nat → List Nat → Prop
  | nil : Sch ok [] []
  | cons (i : Nat) (l pre post : List Nat) : (∀ j ∈ pre, ok j i = true) → Sch ok l (pre ++ post) → Sch ok (i :: l) (pre ++ i :: post)

theorem vtr_sch {X : Sem1} {P : Program} {md : Oper → Md} {G : Glob} {ops : Array Oper} {l todo : List Nat} (hs : Sch (okIdx md ops) l todo) : ∀ {s s' : List AV × Hp}, vtr X P md G ops todo s s' → vtr X P md G ops l s s' := by
  induction hs with
  | nil => exact fun h => h
  | cons i l pre post hok _ ih =>
    intro s s' h
    obtain ⟨s1, h1, h2⟩ := vtr_front pre s hok h
    exact ⟨s1, h1, ih h2⟩
end Go.Vi
end
section
set_option autoImplicit false
set_option linter.unusedVariables false
set_option linter.unusedSimpArgs false
namespace Go.Vi
open Region

def befOk (ops : Array Oper) (b : Array Nat) (o : Oper) (j : Nat) : Bool :=
  o.after.any fun e => binds .any e && (e.on == j || (decide (j < e.on) && (b.getD e.on 0).testBit j))

def edgesOk (m : Region.Mode) (ops : Array Oper) (rank : Nat → Nat) : Bool :=
  (List.range ops.size).all fun i => match ops[i]? with
    | none => false
    | some o => o.after.all fun e => !binds m e || (decide (e.on < ops.size) && decide (rank e.on < rank i))

def pairsOk (ok : Nat → Nat → Bool) (ops : Array Oper) (b : Array Nat) : Bool :=
  (List.range ops.size).all fun i => match ops[i]? with
    | none => false
    | some o => (o.after.all fun e => !binds .any e || decide (e.on < i)) && (List.range i).all fun j => if (b.getD i 0).testBit j then befOk ops b o j else ok j i

def drawOkOf (ok : Nat → Nat → Bool) (ops : Array Oper) : Bool :=
  pairsOk ok ops (before ops) &&
  (if departs ops then edgesOk .text ops id && edgesOk .gc ops (fun i => (linearise .gc ops 0).idxOf i) else true)

def drawOk (md : Oper → Md) (ops : Array Oper) : Bool := drawOkOf (okIdx md ops) ops

theorem range_split {p : Nat → Bool} {i : Nat} : ∀ (l : List Nat), l.Pairwise (· < ·) → i ∈ l → p i = true →
    ∃ pre post, l.filter p = pre ++ i :: post ∧ l.filter (fun x => p x && !(x == i)) = pre ++ post ∧ ∀ j ∈ pre, j < i ∧ p j = true
  | [], _, h, _ => by cases h
  | x :: r, hp, h, hi => by
    have hx : ∀ y ∈ r, x < y := (List.pairwise_cons.1 hp).1
    have hr := (List.pairwise_cons.1 hp).2
    by_cases hxi : x = i
    · subst hxi
      refine ⟨[], r.filter p, by simp [hi], ?_, fun j h => by cases h⟩
      have : ∀ y ∈ r, (p y && !(y == x)) = p y := fun y hy => by
        have : y ≠ x := by have := hx y hy; omega
        simp [this]
      rw [List.filter_cons]
      simp [List.filter_congr this]
    · have hir : i ∈ r := by cases h with | head => exact absurd rfl hxi | tail _ h => exact h
      obtain ⟨pre, post, h1, h2, h3⟩ := range_split r hr hir hi
      by_cases hpx : p x = true
      · refine ⟨x :: pre, post, by simp [hpx, h1], ?_, fun j hj => ?_⟩
        · rw [List.filter_cons]
          simp [hpx, hxi, h2]
        · rcases List.mem_cons.1 hj with rfl | hj
          · exact ⟨hx i hir, hpx⟩
          · exact h3 j hj
      · refine ⟨pre, post, by simp [hpx, h1], ?_, h3⟩
        rw [List.filter_cons]
        simp [hpx, h2]

section
variable {m : Region.Mode} {ok : Nat → Nat → Bool} {ops : Array Oper} {b : Array Nat} {rank : Nat → Nat}

def edgeSet (m : Region.Mode) (ops : Array Oper) (i : Nat) (e : Edge) : Prop := ∃ o, ops[i]? = some o ∧ e ∈ o.after ∧ binds m e = true

theorem binds_any {e : Edge} (h : binds .any e = true) : binds m e = true := by
  unfold binds at h ⊢
  split at h <;> simp_all

theorem pairs_edge (hp : pairsOk ok ops b = true) {i : Nat} {e : Edge} (h : edgeSet .any ops i e) : e.on < i := by
  obtain ⟨o, ho, he, hb⟩ := h
  have hi : i < ops.size := (Array.getElem?_eq_some_iff.1 ho).1
  have := List.all_eq_true.1 hp i (List.mem_range.2 hi)
  rw [ho] at this
  simp only [Bool.and_eq_true, Array.all_eq_true_iff_forall_mem] at this
  have := this.1 e he
  simpa [hb] using this

theorem bef_done (hp : pairsOk ok ops b = true) {D : Nat → Prop} (hD : ∀ d, D d → ∀ e, edgeSet .any ops d e → D e.on) : ∀ (i : Nat), i < ops.size → (∀ e, edgeSet .any ops i e → D e.on) → ∀ j, j < i → (b.getD i 0).testBit j = true → D j := by
  intro i
  induction i using Nat.strongRecOn with
  | _ i ih =>
    intro hi he j hj hb
    have h := List.all_eq_true.1 hp i (List.mem_range.2 hi)
    cases ho : ops[i]? with
    | none => rw [ho] at h; cases h
    | some o =>
      rw [ho] at h
      simp only [Bool.and_eq_true] at h
      have h := List.all_eq_true.1 h.2 j (List.mem_range.2 hj)
      rw [if_pos hb] at h
      unfold befOk at h
      rw [Array.any_eq_true'] at h
      obtain ⟨e, hm, h⟩ := h
      simp only [Bool.and_eq_true, Bool.or_eq_true, beq_iff_eq, decide_eq_true_eq] at h
      obtain ⟨h1, h2⟩ := h
      have hes : edgeSet .any ops i e := ⟨o, ho, hm, h1⟩
      have hlt := pairs_edge hp hes
      rcases h2 with h2 | ⟨h2, h3⟩
      · exact h2 ▸ he e hes
      · exact ih e.on hlt (by omega) (fun e' h' => hD _ (he e hes) e' h') j h2 h3

theorem pairs_pair (hp : pairsOk ok ops b = true) {i j : Nat} (hi : i < ops.size) (hj : j < i) (hb : (b.getD i 0).testBit j = false) : ok j i = true := by
  have h := List.all_eq_true.1 hp i (List.mem_range.2 hi)
  cases ho : ops[i]? with
  | none => rw [ho] at h; cases h
  | some o =>
    rw [ho] at h
    simp only [Bool.and_eq_true] at h
    have h := List.all_eq_true.1 h.2 j (List.mem_range.2 hj)
    rw [hb] at h
    simpa using h

theorem edges_rank (hr : edgesOk m ops rank = true) {i : Nat} {e : Edge} (h : edgeSet m ops i e) : e.on < ops.size ∧ rank e.on < rank i := by
  obtain ⟨o, ho, he, hb⟩ := h
  have hi : i < ops.size := (Array.getElem?_eq_some_iff.1 ho).1
  have := List.all_eq_true.1 hr i (List.mem_range.2 hi)
  rw [ho] at this
  simp only [Array.all_eq_true_iff_forall_mem] at this
  have := this e he
  simpa [hb] using this

def readyB (m : Region.Mode) (ops : Array Oper) (listed : Array Bool) (i : Nat) : Bool :=
  !listed.getD i true && ((ops[i]?).map (·.after.all fun e => !binds m e || listed.getD e.on false)).getD false

theorem go_sch (hp : pairsOk ok ops b = true) (hr : edgesOk m ops rank = true) : ∀ (fuel t : Nat) (listed : Array Bool) (acc : List Nat), listed.size = ops.size →
    (∀ d, d < ops.size → listed.getD d true = true → ∀ e, edgeSet .any ops d e → listed.getD e.on true = true) →
    ((List.range ops.size).filter fun i => !listed.getD i true).length ≤ fuel →
    ∃ l, linearise.go m ops fuel t listed acc = acc.reverse ++ l ∧ Sch ok l ((List.range ops.size).filter fun i => !listed.getD i true)
  | 0, t, listed, acc, hs, hD, hf => by
    have : ((List.range ops.size).filter fun i => !listed.getD i true) = [] := List.length_eq_zero_iff.1 (Nat.le_zero.1 hf)
    rw [this]
    exact ⟨[], by simp [linearise.go], .nil⟩
  | fuel + 1, t, listed, acc, hs, hD, hf => by
    have hun : linearise.go m ops (fuel + 1) t listed acc = match ((List.range ops.size).filter (readyB m ops listed))[t % ((List.range ops.size).filter (readyB m ops listed)).length]? with
      | some i => linearise.go m ops fuel (t / ((List.range ops.size).filter (readyB m ops listed)).length) (listed.setIfInBounds i true) (i :: acc)
      | none => acc.reverse := rfl
    rw [hun]
    generalize hrs : (List.range ops.size).filter (readyB m ops listed) = rs
    have hprog : ∀ (k x : Nat), rank x = k → x < ops.size → listed.getD x true = false → rs ≠ [] := by
      intro k
      induction k using Nat.strongRecOn with
      | _ k ih =>
        intro x hk hx hl
        by_cases hrx : readyB m ops listed x = true
        · intro h0
          have : x ∈ rs := by rw [← hrs]; exact List.mem_filter.2 ⟨List.mem_range.2 hx, hrx⟩
          rw [h0] at this
          cases this
        · have ho : ops[x]? = some ops[x] := Array.getElem?_eq_getElem hx
          simp only [readyB, hl, ho, Option.map_some, Option.getD_some, Bool.not_false, Bool.true_and] at hrx
          rw [Array.all_eq_true_iff_forall_mem] at hrx
          obtain ⟨e, hrx⟩ := Classical.not_forall.1 hrx
          obtain ⟨he, hb⟩ := Classical.not_imp.1 hrx
          simp only [Bool.or_eq_true, Bool.not_eq_true', not_or, Bool.not_eq_false, Bool.not_eq_true] at hb
          obtain ⟨h1, h2⟩ := edges_rank hr (i := x) (e := e) ⟨_, ho, he, hb.1⟩
          refine ih (rank e.on) (by omega) e.on rfl h1 ?_
          have hlt : e.on < listed.size := by omega
          simpa [Array.getD, hlt] using hb.2
    cases hsel : rs[t % rs.length]? with
    | none =>
      simp only
      have hnil : rs = [] := by
        cases rs with
        | nil => rfl
        | cons y ys =>
          have := Nat.mod_lt t (show 0 < (y :: ys).length by simp)
          rw [List.getElem?_eq_getElem this] at hsel
          cases hsel
      refine ⟨[], by simp, ?_⟩
      have : ((List.range ops.size).filter fun i => !listed.getD i true) = [] := by
        rw [List.filter_eq_nil_iff]
        intro x hx hl
        exact hprog _ x rfl (List.mem_range.1 hx) (by simpa using hl) hnil
      rw [this]
      exact .nil
    | some i =>
      simp only
      have hi := List.mem_of_getElem? hsel
      rw [← hrs, List.mem_filter, List.mem_range] at hi
      obtain ⟨hi1, hi2⟩ := hi
      have ho : ops[i]? = some ops[i] := Array.getElem?_eq_getElem hi1
      simp only [readyB, Bool.and_eq_true, ho, Option.map_some, Option.getD_some] at hi2
      obtain ⟨hi2, hi3⟩ := hi2
      rw [Array.all_eq_true_iff_forall_mem] at hi3
      have hedge : ∀ e, edgeSet m ops i e → listed.getD e.on true = true := by
        rintro e ⟨o, ho', he, hb⟩
        rw [ho] at ho'
        cases ho'
        have h1 := hi3 e he
        rw [hb] at h1
        simp only [Bool.not_true, Bool.false_or] at h1
        by_cases hlt : e.on < listed.size
        · simpa [Array.getD, hlt] using h1
        · simp [Array.getD, hlt] at h1
      obtain ⟨pre, post, h1, h2, h3⟩ := range_split (p := fun i => !listed.getD i true) (i := i) (List.range ops.size) List.pairwise_lt_range (List.mem_range.2 hi1) hi2
      have hset : ∀ x, (listed.setIfInBounds i true).getD x true = (listed.getD x true || x == i) := by
        intro x
        by_cases hxi : x = i
        · subst hxi
          simp [Array.getD_eq_getD_getElem?, hs, hi1]
        · simp [Array.getD_eq_getD_getElem?, Array.getElem?_setIfInBounds_ne (Ne.symm hxi), hxi]
      have hfil : ((List.range ops.size).filter fun x => !(listed.setIfInBounds i true).getD x true) = pre ++ post := by
        rw [← h2]
        congr 1
        funext x
        rw [hset]
        simp
      obtain ⟨l, e1, e2⟩ := go_sch hp hr fuel (t / rs.length) (listed.setIfInBounds i true) (i :: acc) (by simp [hs]) (fun d hd hl e he => by
          rw [hset] at hl ⊢
          rcases Bool.or_eq_true_iff.1 hl with hl | hl
          · simp [hD d hd hl e he]
          · have : d = i := by simpa using hl
            subst this
            obtain ⟨o, h1, h2, h3⟩ := he
            simp [hedge e ⟨o, h1, h2, binds_any h3⟩]) (by
          rw [hfil]
          rw [h1] at hf
          simp at hf ⊢
          omega)
      refine ⟨i :: l, by rw [e1]; simp, ?_⟩
      rw [h1]
      rw [hfil] at e2
      refine .cons i l pre post (fun j hj => ?_) e2
      obtain ⟨hj1, hj2⟩ := h3 j hj
      cases hb : (b.getD i 0).testBit j with
      | false => exact pairs_pair hp hi1 hj1 hb
      | true =>
        have := bef_done hp (D := fun d => d < ops.size → listed.getD d true = true) (fun d hd e he => fun hlt => ?_) i hi1 (fun e ⟨o, h1, h2, h3⟩ _ => hedge e ⟨o, h1, h2, binds_any h3⟩) j hj1 hb (by omega)
        · simp [this] at hj2
        · have hdl := pairs_edge hp he
          by_cases hds : d < ops.size
          · exact hD d hds (hd hds) e he
          · obtain ⟨o, h1, _⟩ := he
            have := (Array.getElem?_eq_some_iff.1 h1).1
            omega

theorem lin_sch (hp : pairsOk ok ops b = true) (hr : edgesOk m ops rank = true) (t : Nat) : Sch ok (linearise m ops t) (List.range ops.size) := by
  have hf : ((List.range ops.size).filter fun i => !(Array.replicate ops.size false).getD i true) = List.range ops.size := by
    rw [List.filter_eq_self]
    intro x hx
    simp [Array.getD_eq_getD_getElem?, List.mem_range.1 hx]
  obtain ⟨l, e1, e2⟩ := go_sch hp hr ops.size t (Array.replicate ops.size false) [] (by simp) (fun d hd hl => by simp [Array.getD_eq_getD_getElem?, hd] at hl) (by rw [hf]; simp)
  rw [hf] at e2
  have : linearise m ops t = l := by unfold linearise; rw [e1]; simp
  rw [this]
  exact e2

theorem any_rank (hp : pairsOk ok ops b = true) : edgesOk .any ops id = true := by
  unfold edgesOk
  rw [List.all_eq_true]
  intro i hi
  have hi := List.mem_range.1 hi
  have ho : ops[i]? = some ops[i] := Array.getElem?_eq_getElem hi
  rw [ho]
  simp only
  rw [Array.all_eq_true_iff_forall_mem]
  intro e he
  cases hb : binds .any e with
  | false => rfl
  | true =>
    have := pairs_edge hp (i := i) (e := e) ⟨_, ho, he, hb⟩
    simp [id]
    omega

theorem schedule_sch (h : drawOkOf ok ops = true) (mixed : Bool) (t : Nat) : Sch ok (schedule mixed ops t) (List.range ops.size) := by
  unfold drawOkOf at h
  rw [Bool.and_eq_true] at h
  obtain ⟨hp, h⟩ := h
  unfold schedule
  split
  · exact lin_sch hp (any_rank hp) t
  · rename_i hd
    have hd : departs ops = true := by cases hx : departs ops <;> simp_all
    rw [if_pos hd, Bool.and_eq_true] at h
    split
    · exact lin_sch hp h.1 _
    · exact lin_sch hp h.2 _
end

/-! ### Two changes whose order is open: both orders -/
theorem Sch.perm {ok : Nat → Nat → Bool} {l R : List Nat} (h : Sch ok l R) : l.Perm R := by
  induction h with
  | nil => exact .nil
  | cons i l pre post _ _ ih => exact (List.Perm.cons i ih).trans List.perm_middle.symm
theorem pair_mem {a b : Nat} {l : List Nat} (h : List.Sublist [a, b] l) : a ∈ l ∧ b ∈ l := ⟨h.subset (by simp), h.subset (by simp)⟩
theorem pair_ne {a b : Nat} {l : List Nat} (hn : l.Nodup) (h : List.Sublist [a, b] l) : a ≠ b := by
  have := hn.sublist h
  simp at this
  exact this
theorem pair_split {a b : Nat} {l : List Nat} : List.Sublist [a, b] l ↔ ∃ p q, l = p ++ a :: q ∧ b ∈ q := by
  constructor
  · intro h
    induction l with
    | nil => cases h
    | cons x r ih =>
      cases h with
      | cons _ h => obtain ⟨p, q, h1, h2⟩ := ih h; exact ⟨x :: p, q, by rw [h1]; rfl, h2⟩
      | cons_cons _ h => exact ⟨[], r, rfl, List.singleton_sublist.1 h⟩
  · rintro ⟨p, q, rfl, h⟩
    exact (List.cons_sublist_cons.2 (List.singleton_sublist.2 h)).trans (List.sublist_append_right _ _)
theorem pair_two {a b : Nat} {l : List Nat} (hn : l.Nodup) (h1 : List.Sublist [a, b] l) (h2 : List.Sublist [b, a] l) : False := by
  obtain ⟨p, q, rfl, hb⟩ := pair_split.1 h1
  have hne := pair_ne hn h1
  have hn2 := List.nodup_append.1 hn
  have hap : a ∉ p := fun h => hn2.2.2 a h a (by simp) rfl
  have haq : a ∉ q := (List.nodup_cons.1 hn2.2.1).1
  have hbp : b ∉ p := fun h => hn2.2.2 b h b (by simp [hb]) rfl
  have h3 : List.Sublist [b, a] (a :: q) := by
    clear hn hn2 h1
    induction p with
    | nil => exact h2
    | cons x r ih =>
      cases h2 with
      | cons _ h => exact ih h (fun h => hap (List.mem_cons_of_mem _ h)) (fun h => hbp (List.mem_cons_of_mem _ h))
      | cons_cons _ h => exact absurd (List.mem_cons_self ..) hbp
  cases h3 with
  | cons _ h => exact haq (pair_mem h).2
  | cons_cons _ h => exact hne rfl
theorem sch_inv {ok : Nat → Nat → Bool} {l R : List Nat} (h : Sch ok l R) : R.Nodup → ∀ a b, List.Sublist [a, b] R → List.Sublist [b, a] l → ok a b = true := by
  induction h with
  | nil => intro _ a b h; cases h
  | cons i l pre post hok hs ih =>
    intro hn a b h1 h2
    have hp := hs.perm
    have hn1 : (i :: (pre ++ post)).Nodup := (List.perm_middle).nodup_iff.1 hn
    have hil : i ∉ l := fun h => (List.nodup_cons.1 hn1).1 (hp.subset h)
    cases h2 with
    | cons _ h =>
      obtain ⟨hb, ha⟩ := pair_mem h
      have hai : a ≠ i := fun e => hil (e ▸ ha)
      have hbi : b ≠ i := fun e => hil (e ▸ hb)
      refine ih (List.nodup_cons.1 hn1).2 a b ?_ h
      have := h1.filter (fun z => z != i)
      rw [List.filter_append, List.filter_cons] at this
      have e1 : pre.filter (fun z => z != i) = pre := List.filter_eq_self.2 fun z hz => by
        have : z ≠ i := fun e => (List.nodup_cons.1 hn1).1 (e ▸ List.mem_append_left _ hz)
        simpa using this
      have e2 : post.filter (fun z => z != i) = post := List.filter_eq_self.2 fun z hz => by
        have : z ≠ i := fun e => (List.nodup_cons.1 hn1).1 (e ▸ List.mem_append_right _ hz)
        simpa using this
      simpa [e1, e2, hai, hbi] using this
    | cons_cons _ h =>
      refine hok a ?_
      obtain ⟨p, q, e, hq⟩ := pair_split.1 h1
      have hne := pair_ne hn h1
      have ham : a ∈ pre ++ i :: post := by rw [e]; simp
      rcases List.mem_append.1 ham with ham | ham
      · exact ham
      · rcases List.mem_cons.1 ham with ham | ham
        · exact absurd ham hne
        · exact (pair_two hn h1 (pair_split.2 ⟨pre, post, rfl, ham⟩)).elim
theorem sch_of {ok : Nat → Nat → Bool} : ∀ {l R : List Nat}, R.Nodup → l.Perm R → (∀ a b, List.Sublist [a, b] R → List.Sublist [b, a] l → ok a b = true) → Sch ok l R
  | [], R, _, hp, _ => by
    have := hp.symm.eq_nil
    subst this
    exact .nil
  | i :: l, R, hn, hp, hi => by
    have him : i ∈ R := hp.subset (List.mem_cons_self ..)
    obtain ⟨pre, post, rfl⟩ := List.append_of_mem him
    have hp2 : l.Perm (pre ++ post) := List.Perm.cons_inv (hp.trans List.perm_middle)
    have hn2 : (pre ++ post).Nodup := (List.nodup_cons.1 (List.perm_middle.nodup_iff.1 hn)).2
    have hsub : List.Sublist (pre ++ post) (pre ++ i :: post) := List.Sublist.append (List.Sublist.refl _) (List.sublist_cons_self _ _)
    refine .cons i l pre post (fun j hj => hi j i (pair_split.2 ?_) (pair_split.2 ⟨[], l, rfl, hp2.symm.subset (List.mem_append_left _ hj)⟩)) (sch_of hn2 hp2 fun a b h1 h2 => hi a b (h1.trans hsub) (h2.trans (List.sublist_cons_self _ _)))
    obtain ⟨p, q, rfl⟩ := List.append_of_mem hj
    exact ⟨p, q ++ i :: post, by simp, by simp⟩
theorem pair_idx {a b : Nat} {l : List Nat} (hn : l.Nodup) : List.Sublist [a, b] l ↔ l.idxOf a < l.idxOf b ∧ b ∈ l := by
  constructor
  · intro h
    have hb := (pair_mem h).2
    refine ⟨?_, hb⟩
    have hne := pair_ne hn h
    obtain ⟨p, q, rfl, hq⟩ := pair_split.1 h
    have hd := List.nodup_append.1 hn
    have hap : a ∉ p := fun h => hd.2.2 a h a (by simp) rfl
    have hbp : b ∉ p := fun h => hd.2.2 b h b (by simp [hq]) rfl
    have e : (a == b) = false := beq_eq_false_iff_ne.2 hne
    rw [List.idxOf_append, List.idxOf_append, if_neg hap, if_neg hbp, List.idxOf_cons_self, List.idxOf_cons, e]
    simp
  · rintro ⟨h, hb⟩
    have ha : a ∈ l := by
      have := List.idxOf_lt_length_of_mem hb
      exact List.idxOf_lt_length_iff.1 (by omega)
    obtain ⟨p, q, rfl⟩ := List.append_of_mem ha
    refine pair_split.2 ⟨p, q, rfl, ?_⟩
    have hd := List.nodup_append.1 hn
    have hap : a ∉ p := fun h => hd.2.2 a h a (by simp) rfl
    rcases List.mem_append.1 hb with hb | hb
    · rw [List.idxOf_append, List.idxOf_append, if_neg hap, if_pos hb, List.idxOf_cons_self] at h
      have := List.idxOf_lt_length_of_mem hb
      omega
    · rcases List.mem_cons.1 hb with rfl | hb
      · omega
      · exact hb
theorem pair_total {a b : Nat} {l : List Nat} (hn : l.Nodup) (ha : a ∈ l) (hb : b ∈ l) (hne : a ≠ b) : List.Sublist [a, b] l ∨ List.Sublist [b, a] l := by
  rw [pair_idx hn, pair_idx hn]
  have : l.idxOf a ≠ l.idxOf b := fun e => hne (by
    have h1 := List.getElem_idxOf (List.idxOf_lt_length_of_mem ha)
    have h2 := List.getElem_idxOf (List.idxOf_lt_length_of_mem hb)
    rw [← h1, ← h2]
    congr 1)
  rcases Nat.lt_or_gt_of_ne this with h | h
  · exact .inl ⟨h, hb⟩
  · exact .inr ⟨h, ha⟩
theorem pair_trans {a b c : Nat} {l : List Nat} (hn : l.Nodup) (h1 : List.Sublist [a, b] l) (h2 : List.Sublist [b, c] l) : List.Sublist [a, c] l := by
  rw [pair_idx hn] at h1 h2 ⊢
  exact ⟨by omega, h2.2⟩
/-- What surely comes first. -/
def inB (ops : Array Oper) (a b : Nat) : Bool := decide (a < b) && ((before ops).getD b 0).testBit a
def aug (ops : Array Oper) (x y a b : Nat) : Bool := inB ops a b || ((a == x || inB ops a x) && (b == y || inB ops y b))
def pairsL (p : Nat → Nat → Bool) : List Nat → Bool
  | [] => true
  | a :: r => r.all (p a) && pairsL p r
theorem pairsL_pw {p : Nat → Nat → Bool} : ∀ {L : List Nat}, pairsL p L = true → L.Pairwise fun a b => p a b = true
  | [], _ => .nil
  | a :: r, h => by
    simp only [pairsL, Bool.and_eq_true] at h
    exact .cons (fun b hb => List.all_eq_true.1 h.1 b hb) (pairsL_pw h.2)
def freeOk (ops : Array Oper) : Bool := drawOkOf (fun a b => !((before ops).getD b 0).testBit a) ops
theorem range_pair {n a b : Nat} (h1 : a < b) (h2 : b < n) : List.Sublist [a, b] (List.range n) := by
  refine pair_split.2 ⟨List.range' 0 a, List.range' (a + 1) (n - (a + 1)), ?_, by simp only [List.mem_range'_1]; omega⟩
  have e2 : a :: List.range' (a + 1) (n - (a + 1)) = List.range' a (n - a) := by
    rw [show n - a = (n - (a + 1)) + 1 by omega, List.range'_succ]
  have := List.range'_append_1 (s := 0) (m := a) (n := n - a)
  rw [show 0 + a = a by omega, show a + (n - a) = n by omega] at this
  rw [e2, this, List.range_eq_range']
theorem inB_first {ops : Array Oper} {l : List Nat} (hs : Sch (fun a b => !((before ops).getD b 0).testBit a) l (List.range ops.size)) {a b : Nat} (h : inB ops a b = true) (hb : b < ops.size) : List.Sublist [a, b] l := by
  have hn : (List.range ops.size).Nodup := List.nodup_range
  have hnl : l.Nodup := hs.perm.nodup_iff.2 hn
  simp only [inB, Bool.and_eq_true, decide_eq_true_eq] at h
  have hma : a ∈ l := hs.perm.symm.subset (List.mem_range.2 (by omega))
  have hmb : b ∈ l := hs.perm.symm.subset (List.mem_range.2 hb)
  rcases pair_total hnl hma hmb (by omega) with h1 | h1
  · exact h1
  · have := sch_inv hs hn a b (range_pair h.1 hb) h1
    rw [h.2] at this
    cases this
/-- An order in which one change comes ahead of another one. -/
theorem order_sch {ok : Nat → Nat → Bool} {ops : Array Oper} {l L : List Nat} {x y : Nat} (hs : Sch (fun a b => !((before ops).getD b 0).testBit a) l (List.range ops.size)) (hx : x < ops.size) (hy : y < ops.size) (hxy : List.Sublist [x, y] l) (hp : L.isPerm (List.range ops.size) = true) (hc : pairsL (fun a b => aug ops x y a b || ok a b) L = true) : Sch ok l L := by
  have hn : (List.range ops.size).Nodup := List.nodup_range
  have hnl : l.Nodup := hs.perm.nodup_iff.2 hn
  have hpL := List.isPerm_iff.1 hp
  refine sch_of (hpL.nodup_iff.2 hn) (hs.perm.trans hpL.symm) fun a b h1 h2 => ?_
  have hr := (pairsL_pw hc).sublist h1
  simp only [List.pairwise_cons, List.mem_singleton, forall_eq, Bool.or_eq_true] at hr
  obtain ⟨hr, _⟩ := hr
  have hlt : ∀ z ∈ l, z < ops.size := fun z hz => List.mem_range.1 (hs.perm.subset hz)
  obtain ⟨hb, ha⟩ := pair_mem h2
  rcases hr with hr | hr
  · exfalso
    refine pair_two hnl ?_ h2
    simp only [aug, Bool.or_eq_true, Bool.and_eq_true, beq_iff_eq] at hr
    rcases hr with hr | ⟨h3, h4⟩
    · exact inB_first hs hr (hlt b hb)
    · have e1 : a = x ∨ List.Sublist [a, x] l := h3.imp id fun h => inB_first hs h hx
      have e2 : b = y ∨ List.Sublist [y, b] l := h4.imp id fun h => inB_first hs h (hlt b hb)
      rcases e1 with rfl | e1 <;> rcases e2 with rfl | e2
      · exact hxy
      · exact pair_trans hnl hxy e2
      · exact pair_trans hnl e1 hxy
      · exact pair_trans hnl (pair_trans hnl e1 hxy) e2
  · exact hr
end Go.Vi
end
