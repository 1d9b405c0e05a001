/- Vi, part W: regions whose order is drawn, in which objects change beside what is read. -/
import Derived.Test.YteejggadbifdbaaGreatViO
set_option autoImplicit false
set_option linter.unusedVariables false
set_option linter.unusedSimpArgs false
namespace Go.Vi
open Region

/-- How many changes come surely ahead of an operation, and how many may. -/
def winOf (md : Oper → Md) (ops : Array Oper) (i : Nat) : Nat × Nat :=
  let b := before ops
  let ms := (List.range ops.size).filter fun j => match ops[j]? with
    | some o => clsOp md o == 2
    | none => false
  ((ms.filter fun j => (b.getD i 0).testBit j).length, (ms.filter fun j => !(b.getD j 0).testBit i).length)

section
variable (X : Sem1) (P : Program) (md : Oper → Md) (G : Glob) (ops : Array Oper) (wn : Nat → Nat × Nat) (h : Nat → Hp)

def wst (i : Nat) (s s' : List AV × Nat) : Prop :=
  ∃ o, ops[i]? = some o ∧
    ((wantedV o.guard ops s.1 = some true ∧ ∃ v, s'.1 = putE s.1 o.dst v ∧
        ((clsOp md o = 2 ∧ s.2 = (wn i).1 ∧ s'.2 = s.2 + 1 ∧ vop X P md G s.1 (h s.2) o (fun v1 H1 => v1 = v ∧ H1 = h (s.2 + 1))) ∨
         (clsOp md o ≠ 2 ∧ s'.2 = s.2 ∧ (wn i).1 ≤ s.2 ∧ s.2 ≤ (wn i).2 ∧ ∀ q, (wn i).1 ≤ q → q ≤ (wn i).2 → vop X P md G s.1 (h q) o (fun v1 H1 => v1 = v ∧ H1 = h q)))) ∨
     (wantedV o.guard ops s.1 = some false ∧ s'.1 = putE s.1 o.dst (.tup []) ∧
        ((clsOp md o = 2 ∧ s.2 = (wn i).1 ∧ s'.2 = s.2 + 1 ∧ h (s.2 + 1) = h s.2) ∨ (clsOp md o ≠ 2 ∧ s'.2 = s.2 ∧ (wn i).1 ≤ s.2 ∧ s.2 ≤ (wn i).2))))

def wtr : List Nat → List AV × Nat → List AV × Nat → Prop
  | [], s, s' => s' = s
  | i :: r, s, s' => ∃ s1, wst X P md G ops wn h i s s1 ∧ wtr r s1 s'

def okW (md : Oper → Md) (ops : Array Oper) (wn : Nat → Nat × Nat) (j i : Nat) : Bool :=
  match ops[j]?, ops[i]? with
  | some oj, some oi =>
    (match oj.dst with | some d => !(readsOf ops oi).contains d && !(oi.dst == some d) | none => true) &&
    (match oi.dst with | some d => !(readsOf ops oj).contains d | none => true) &&
    (if clsOp md oj = 2 then !(clsOp md oi == 2) && decide ((wn i).1 ≤ (wn j).1)
     else !(clsOp md oi == 2) || decide ((wn i).1 + 1 ≤ (wn j).2))
  | _, _ => false
end

section
variable {X : Sem1} {P : Program} {md : Oper → Md} {G : Glob} {ops : Array Oper} {wn : Nat → Nat × Nat} {h : Nat → Hp}

theorem wst_swap {i j : Nat} {s s1 s2 : List AV × Nat} (hok : okW md ops wn j i = true)
    (h1 : wst X P md G ops wn h j s s1) (h2 : wst X P md G ops wn h i s1 s2) : ∃ s1', wst X P md G ops wn h i s s1' ∧ wst X P md G ops wn h j s1' s2 := by
  obtain ⟨env, k⟩ := s
  obtain ⟨env1, k1⟩ := s1
  obtain ⟨env2, k2⟩ := s2
  obtain ⟨oj, hj, h1⟩ := h1
  obtain ⟨oi, hi, h2⟩ := h2
  unfold okW at hok
  rw [hj, hi] at hok
  simp only [Bool.and_eq_true] at hok
  obtain ⟨⟨a1, a2⟩, a3⟩ := hok
  have d1 : ∀ t, oj.dst = some t → t ∉ readsOf ops oi := fun t ht => by rw [ht] at a1; simp at a1; exact a1.1
  have d2 : ∀ t, oj.dst = some t → oi.dst ≠ some t := fun t ht => by rw [ht] at a1; simp at a1; exact a1.2
  have d3 : ∀ t, oi.dst = some t → t ∉ readsOf ops oj := fun t ht => by rw [ht] at a2; simpa using a2
  have hcl : (clsOp md oj ≠ 2 ∧ clsOp md oi ≠ 2) ∨ (clsOp md oj = 2 ∧ clsOp md oi ≠ 2 ∧ (wn i).1 ≤ (wn j).1) ∨ (clsOp md oj ≠ 2 ∧ clsOp md oi = 2 ∧ (wn i).1 + 1 ≤ (wn j).2) := by
    by_cases hc : clsOp md oj = 2
    · rw [if_pos hc] at a3
      simp at a3
      exact .inr (.inl ⟨hc, a3.1, a3.2⟩)
    · rw [if_neg hc] at a3
      by_cases hc2 : clsOp md oi = 2
      · simp [hc2] at a3
        exact .inr (.inr ⟨hc, hc2, a3⟩)
      · exact .inl ⟨hc, hc2⟩
  simp only at h1 h2
  have hcomm : ∀ (v v' : AV), putE (putE env oj.dst v) oi.dst v' = putE (putE env oi.dst v') oj.dst v := fun v v' => putE_comm d2
  -- the second, ahead of the first
  have key : ∀ v, env1 = putE env oj.dst v → ∀ k', (clsOp md oi = 2 → k1 = (wn i).1 → k' = k1) → (clsOp md oi ≠ 2 → (wn i).1 ≤ k1 → k1 ≤ (wn i).2 → (wn i).1 ≤ k' ∧ k' ≤ (wn i).2) →
      ∃ v', env2 = putE env1 oi.dst v' ∧ wst X P md G ops wn h i (env, k') (putE env oi.dst v', if clsOp md oi = 2 then k' + 1 else k') ∧ (clsOp md oi = 2 → k1 = (wn i).1 ∧ k2 = k1 + 1) ∧ (clsOp md oi ≠ 2 → k2 = k1 ∧ (wn i).1 ≤ k1 ∧ k1 ≤ (wn i).2) := by
    intro v hv k' hk1 hk2
    subst hv
    rw [putE_wanted d1] at h2
    rcases h2 with ⟨w2, v2, e2, ⟨c2, b1, b2, p2⟩ | ⟨c2, b1, b2, b3, p2⟩⟩ | ⟨w2, e2, ⟨c2, b1, b2, p2⟩ | ⟨c2, b1, b2, b3⟩⟩
    · have : k' = k1 := hk1 c2 b1
      subst this
      rw [putE_vop d1] at p2
      refine ⟨v2, e2, ⟨oi, hi, .inl ⟨w2, v2, rfl, .inl ⟨c2, b1, by rw [if_pos c2], p2⟩⟩⟩, fun _ => ⟨b1, b2⟩, fun hc => absurd c2 hc⟩
    · obtain ⟨q1, q2⟩ := hk2 c2 b2 b3
      refine ⟨v2, e2, ⟨oi, hi, .inl ⟨w2, v2, rfl, .inr ⟨c2, by rw [if_neg c2], q1, q2, fun q l1 l2 => ?_⟩⟩⟩, fun hc => absurd hc c2, fun _ => ⟨b1, b2, b3⟩⟩
      have := p2 q l1 l2
      rwa [putE_vop d1] at this
    · have : k' = k1 := hk1 c2 b1
      subst this
      exact ⟨.tup [], e2, ⟨oi, hi, .inr ⟨w2, rfl, .inl ⟨c2, b1, by rw [if_pos c2], p2⟩⟩⟩, fun _ => ⟨b1, b2⟩, fun hc => absurd c2 hc⟩
    · obtain ⟨q1, q2⟩ := hk2 c2 b2 b3
      exact ⟨.tup [], e2, ⟨oi, hi, .inr ⟨w2, rfl, .inr ⟨c2, by rw [if_neg c2], q1, q2⟩⟩⟩, fun hc => absurd hc c2, fun _ => ⟨b1, b2, b3⟩⟩
  rcases hcl with ⟨cj, ci⟩ | ⟨cj, ci, hle⟩ | ⟨cj, ci, hle⟩
  · -- both read
    rcases h1 with ⟨w1, v1, e1, ⟨c1, _⟩ | ⟨c1, b1, b2, b3, p1⟩⟩ | ⟨w1, e1, ⟨c1, _⟩ | ⟨c1, b1, b2, b3⟩⟩
    · exact absurd c1 cj
    · obtain ⟨v', f1, f2, _, f4⟩ := key v1 e1 k (fun hc => absurd hc ci) (fun _ l1 l2 => by have : k1 = k := b1; omega)
      rw [if_neg ci] at f2
      obtain ⟨g1, _, _⟩ := f4 ci
      refine ⟨_, f2, oj, hj, .inl ⟨?_, v1, ?_, .inr ⟨c1, by show k2 = k; have : k1 = k := b1; omega, b2, b3, fun q l1 l2 => ?_⟩⟩⟩
      · show wantedV oj.guard ops (putE env oi.dst v') = _
        rw [putE_wanted d3]; exact w1
      · show env2 = _
        rw [f1, e1]; exact hcomm _ _
      · show vop X P md G (putE env oi.dst v') (h q) oj _
        rw [putE_vop d3]; exact p1 q l1 l2
    · exact absurd c1 cj
    · obtain ⟨v', f1, f2, _, f4⟩ := key (.tup []) e1 k (fun hc => absurd hc ci) (fun _ l1 l2 => by have : k1 = k := b1; omega)
      rw [if_neg ci] at f2
      obtain ⟨g1, _, _⟩ := f4 ci
      refine ⟨_, f2, oj, hj, .inr ⟨?_, ?_, .inr ⟨c1, by show k2 = k; have : k1 = k := b1; omega, b2, b3⟩⟩⟩
      · show wantedV oj.guard ops (putE env oi.dst v') = _
        rw [putE_wanted d3]; exact w1
      · show env2 = _
        rw [f1, e1]; exact hcomm _ _
  · -- the first changes, the second reads
    rcases h1 with ⟨w1, v1, e1, ⟨c1, b1, b2, p1⟩ | ⟨c1, _⟩⟩ | ⟨w1, e1, ⟨c1, b1, b2, p1⟩ | ⟨c1, _⟩⟩
    · have b1 : k = (wn j).1 := b1
      have b2 : k1 = k + 1 := b2
      obtain ⟨v', f1, f2, _, f4⟩ := key v1 e1 k (fun hc => absurd hc ci) (fun _ l1 l2 => by omega)
      rw [if_neg ci] at f2
      obtain ⟨g1, _, _⟩ := f4 ci
      refine ⟨_, f2, oj, hj, .inl ⟨?_, v1, ?_, .inl ⟨c1, b1, by show k2 = k + 1; omega, ?_⟩⟩⟩
      · show wantedV oj.guard ops (putE env oi.dst v') = _
        rw [putE_wanted d3]; exact w1
      · show env2 = _
        rw [f1, e1]; exact hcomm _ _
      · show vop X P md G (putE env oi.dst v') (h k) oj _
        rw [putE_vop d3]; exact p1
    · exact absurd cj c1
    · have b1 : k = (wn j).1 := b1
      have b2 : k1 = k + 1 := b2
      obtain ⟨v', f1, f2, _, f4⟩ := key (.tup []) e1 k (fun hc => absurd hc ci) (fun _ l1 l2 => by omega)
      rw [if_neg ci] at f2
      obtain ⟨g1, _, _⟩ := f4 ci
      refine ⟨_, f2, oj, hj, .inr ⟨?_, ?_, .inl ⟨c1, b1, by show k2 = k + 1; omega, p1⟩⟩⟩
      · show wantedV oj.guard ops (putE env oi.dst v') = _
        rw [putE_wanted d3]; exact w1
      · show env2 = _
        rw [f1, e1]; exact hcomm _ _
    · exact absurd cj c1
  · -- the first reads, the second changes
    rcases h1 with ⟨w1, v1, e1, ⟨c1, _⟩ | ⟨c1, b1, b2, b3, p1⟩⟩ | ⟨w1, e1, ⟨c1, _⟩ | ⟨c1, b1, b2, b3⟩⟩
    · exact absurd c1 cj
    · have b1 : k1 = k := b1
      have b2 : (wn j).1 ≤ k := b2
      obtain ⟨v', f1, f2, f3, _⟩ := key v1 e1 k (fun _ _ => b1.symm) (fun hc => absurd ci hc)
      rw [if_pos ci] at f2
      obtain ⟨g1, g2⟩ := f3 ci
      refine ⟨_, f2, oj, hj, .inl ⟨?_, v1, ?_, .inr ⟨c1, by show k2 = k + 1; omega, by show (wn j).1 ≤ k + 1; omega, by show k + 1 ≤ (wn j).2; omega, fun q l1 l2 => ?_⟩⟩⟩
      · show wantedV oj.guard ops (putE env oi.dst v') = _
        rw [putE_wanted d3]; exact w1
      · show env2 = _
        rw [f1, e1]; exact hcomm _ _
      · show vop X P md G (putE env oi.dst v') (h q) oj _
        rw [putE_vop d3]; exact p1 q l1 l2
    · exact absurd c1 cj
    · have b1 : k1 = k := b1
      have b2 : (wn j).1 ≤ k := b2
      obtain ⟨v', f1, f2, f3, _⟩ := key (.tup []) e1 k (fun _ _ => b1.symm) (fun hc => absurd ci hc)
      rw [if_pos ci] at f2
      obtain ⟨g1, g2⟩ := f3 ci
      refine ⟨_, f2, oj, hj, .inr ⟨?_, ?_, .inr ⟨c1, by show k2 = k + 1; omega, by show (wn j).1 ≤ k + 1; omega, by show k + 1 ≤ (wn j).2; omega⟩⟩⟩
      · show wantedV oj.guard ops (putE env oi.dst v') = _
        rw [putE_wanted d3]; exact w1
      · show env2 = _
        rw [f1, e1]; exact hcomm _ _

theorem wtr_front {i : Nat} {post : List Nat} {s' : List AV × Nat} : ∀ (pre : List Nat) (s : List AV × Nat), (∀ j ∈ pre, okW md ops wn j i = true) → wtr X P md G ops wn h (pre ++ i :: post) s s' → wtr X P md G ops wn h (i :: (pre ++ post)) s s'
  | [], s, hok, h => h
  | j :: pre, s, hok, h => by
    obtain ⟨s1, h1, h2⟩ := h
    obtain ⟨s2, h3, h4⟩ := wtr_front pre s1 (fun x hx => hok x (by simp [hx])) h2
    obtain ⟨s3, h5, h6⟩ := wst_swap (hok j (by simp)) h1 h3
    exact ⟨s3, h5, s2, h6, h4⟩

theorem wtr_sch {l todo : List Nat} (hs : Sch (okW md ops wn) l todo) : ∀ {s s' : List AV × Nat}, wtr X P md G ops wn h todo s s' → wtr X P md G ops wn h l s s' := by
  induction hs with
  | nil => exact fun h => h
  | cons i l pre post hok _ ih =>
    intro s s' h
    obtain ⟨s1, h1, h2⟩ := wtr_front pre s hok h
    exact ⟨s1, h1, ih h2⟩

theorem wtr_seq {P : Program} {K : List AV → Hp → Prop} : ∀ (l : List Nat) (s s' : List AV × Nat), wtr (XS P G) P md G ops wn h l s s' → K s'.1 (h s'.2) → vseq (XS P G) P md G ops l s.1 (h s.2) K
  | [], s, s', hh, hK => by cases hh; exact ⟨_, Wk.refl _, hK⟩
  | i :: r, s, s', ⟨s1, ⟨o, ho, hs⟩, hr⟩, hK => by
    simp only [vseq, ho]
    refine ⟨s.1, Wk.refl _, ?_⟩
    have ih := wtr_seq r s1 s' hr hK
    rcases hs with ⟨hw, v, he, ⟨hc, b1, b2, hv⟩ | ⟨hc, b1, b2, b3, hv⟩⟩ | ⟨hw, he, ⟨hc, b1, b2, hv⟩ | ⟨hc, b1, b2, b3⟩⟩
    · rw [hw]
      refine vop_mono hv ?_
      rintro v1 H1 ⟨rfl, rfl⟩
      rw [← he, ← b2]
      exact ih
    · rw [hw]
      refine vop_mono (hv _ b2 b3) ?_
      rintro v1 H1 ⟨rfl, rfl⟩
      rw [← he, ← b1]
      exact ih
    · rw [hw]
      simp only
      rw [← he, ← hv, ← b2]
      exact ih
    · rw [hw]
      simp only
      rw [← he, ← b1]
      exact ih
end

/-- A region with its objects' states told ahead. -/
def vseqW (X : Sem1) (P : Program) (md : Oper → Md) (G : Glob) (ops : Array Oper) (wn : Nat → Nat × Nat) (h : Nat → Hp) : List Nat → List AV → Nat → (List AV → Nat → Prop) → Prop
  | [], env, k, K => K env k
  | i :: r, env, k, K => match ops[i]? with
    | none => False
    | some o => match wantedV o.guard ops env with
      | some true => if clsOp md o = 2 then k = (wn i).1 ∧ ∃ v, vop X P md G env (h k) o (fun v1 H1 => v1 = v ∧ H1 = h (k + 1)) ∧ vseqW X P md G ops wn h r (putE env o.dst v) (k + 1) K
        else ((wn i).1 ≤ k ∧ k ≤ (wn i).2) ∧ ∃ v, (∀ q, (wn i).1 ≤ q → q ≤ (wn i).2 → vop X P md G env (h q) o (fun v1 H1 => v1 = v ∧ H1 = h q)) ∧ vseqW X P md G ops wn h r (putE env o.dst v) k K
      | some false => if clsOp md o = 2 then k = (wn i).1 ∧ h (k + 1) = h k ∧ vseqW X P md G ops wn h r (putE env o.dst (.tup [])) (k + 1) K
        else ((wn i).1 ≤ k ∧ k ≤ (wn i).2) ∧ vseqW X P md G ops wn h r (putE env o.dst (.tup [])) k K
      | none => False

theorem vseqW_tr {X : Sem1} {P : Program} {md : Oper → Md} {G : Glob} {ops : Array Oper} {wn : Nat → Nat × Nat} {h : Nat → Hp} {K : List AV → Nat → Prop} : ∀ (l : List Nat) (env : List AV) (k : Nat), vseqW X P md G ops wn h l env k K →
    ∃ s', wtr X P md G ops wn h l (env, k) s' ∧ K s'.1 s'.2
  | [], env, k, hh => ⟨(env, k), rfl, hh⟩
  | i :: r, env, k, hh => by
    simp only [vseqW] at hh
    split at hh
    · exact hh.elim
    · rename_i o ho
      split at hh
      · rename_i hw
        split at hh
        · rename_i hc
          obtain ⟨h0, v, h1, h2⟩ := hh
          obtain ⟨s', h3, h4⟩ := vseqW_tr r _ _ h2
          exact ⟨s', ⟨(putE env o.dst v, k + 1), ⟨o, ho, .inl ⟨hw, v, rfl, .inl ⟨hc, h0, rfl, h1⟩⟩⟩, h3⟩, h4⟩
        · rename_i hc
          obtain ⟨h0, v, h1, h2⟩ := hh
          obtain ⟨s', h3, h4⟩ := vseqW_tr r _ _ h2
          exact ⟨s', ⟨(putE env o.dst v, k), ⟨o, ho, .inl ⟨hw, v, rfl, .inr ⟨hc, rfl, h0.1, h0.2, h1⟩⟩⟩, h3⟩, h4⟩
      · rename_i hw
        split at hh
        · rename_i hc
          obtain ⟨h0, h1, h2⟩ := hh
          obtain ⟨s', h3, h4⟩ := vseqW_tr r _ _ h2
          exact ⟨s', ⟨(putE env o.dst (.tup []), k + 1), ⟨o, ho, .inr ⟨hw, rfl, .inl ⟨hc, h0, rfl, h1⟩⟩⟩, h3⟩, h4⟩
        · rename_i hc
          obtain ⟨h0, h2⟩ := hh
          obtain ⟨s', h3, h4⟩ := vseqW_tr r _ _ h2
          exact ⟨s', ⟨(putE env o.dst (.tup []), k), ⟨o, ho, .inr ⟨hw, rfl, .inr ⟨hc, rfl, h0.1, h0.2⟩⟩⟩, h3⟩, h4⟩
      · exact hh.elim

/-- A drawn region of this kind. -/
def vregW (X : Sem1) (P : Program) (md : Oper → Md) (G : Glob) (ops : Array Oper) (env : List AV) (H : Hp) (K : List AV → Hp → Prop) : Prop :=
  drawOkOf (okW md ops (winOf md ops)) ops = true ∧ ∃ hs : List Hp, vseqW X P md G ops (winOf md ops) (fun q => (H :: hs).getD q []) (List.range ops.size) env 0 fun env' k => K env' ((H :: hs).getD k [])

/-- One of two orders of two changes. -/
def oneOrder (X : Sem1) (P : Program) (md : Oper → Md) (G : Glob) (ops : Array Oper) (env : List AV) (H : Hp) (K : List AV → Hp → Prop) (x y : Nat) : Prop :=
  ∃ (L : List Nat) (wn : Nat → Nat × Nat) (hs : List Hp), L.isPerm (List.range ops.size) = true ∧ pairsL (fun a b => aug ops x y a b || okW md ops wn a b) L = true ∧
    vseqW X P md G ops wn (fun q => (H :: hs).getD q []) L env 0 fun env' k => K env' ((H :: hs).getD k [])
/-- A drawn region with two changes whose order is open. -/
def vregO (X : Sem1) (P : Program) (md : Oper → Md) (G : Glob) (ops : Array Oper) (env : List AV) (H : Hp) (K : List AV → Hp → Prop) : Prop :=
  freeOk ops = true ∧ ∃ x y, x ≠ y ∧ x < ops.size ∧ y < ops.size ∧ oneOrder X P md G ops env H K x y ∧ oneOrder X P md G ops env H K y x
theorem regO_seq {P : Program} {md : Oper → Md} {G : Glob} {ops : Array Oper} {env : List AV} {H : Hp} {K : List AV → Hp → Prop} (h : vregO (XS P G) P md G ops env H K) (mixed : Bool) (t : Nat) : vseq (XS P G) P md G ops (schedule mixed ops t) env H K := by
  obtain ⟨h1, x, y, hne, hx, hy, hA, hB⟩ := h
  have hs := schedule_sch h1 mixed t
  have hnl : (schedule mixed ops t).Nodup := hs.perm.nodup_iff.2 List.nodup_range
  have key : ∀ x y, x < ops.size → y < ops.size → List.Sublist [x, y] (schedule mixed ops t) → oneOrder (XS P G) P md G ops env H K x y → vseq (XS P G) P md G ops (schedule mixed ops t) env H K := by
    rintro x y hx hy hxy ⟨L, wn, hs2, hp, hc, hv⟩
    obtain ⟨s', h3, h4⟩ := vseqW_tr _ _ _ hv
    exact wtr_seq (K := K) _ (env, 0) s' (wtr_sch (order_sch hs hx hy hxy hp hc) h3) h4
  rcases pair_total hnl (hs.perm.symm.subset (List.mem_range.2 hx)) (hs.perm.symm.subset (List.mem_range.2 hy)) hne with h2 | h2
  · exact key x y hx hy h2 hA
  · exact key y x hy hx h2 hB
end Go.Vi
