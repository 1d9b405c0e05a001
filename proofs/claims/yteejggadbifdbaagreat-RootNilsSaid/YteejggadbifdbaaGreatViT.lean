/- Vi, part T: steps for walks by hand. -/
import Derived.Test.YteejggadbifdbaaGreatViR
set_option autoImplicit false
set_option linter.unusedVariables false
set_option linter.unusedSimpArgs false
namespace Go.Vi

/-- A region's operations one after the other. -/
def vops (P : Program) (G : Glob) (md : Oper → Md) (ops : Array Oper) : List Oper → List AV → Hp → (List AV → Hp → Prop) → Prop
  | [], env, H, K => ∃ env', Wk env env' ∧ K env' H
  | o :: r, env, H, K => ∃ env', Wk env env' ∧ match wantedV o.guard ops env' with
    | some true => vop (XS P G) P md G env' H o fun v H1 => vops P G md ops r (putE env' o.dst v) H1 K
    | some false => vops P G md ops r (putE env' o.dst (.tup [])) H K
    | none => False

theorem vops_seq {P : Program} {G : Glob} {md : Oper → Md} {ops : Array Oper} {K : List AV → Hp → Prop} : ∀ (n : Nat) (i : Nat) (env : List AV) (H : Hp), i + n = ops.size → vops P G md ops (ops.toList.drop i) env H K → vseq (XS P G) P md G ops (List.range' i n) env H K
  | 0, i, env, H, hn, h => by
    rw [List.drop_of_length_le (by simp; omega)] at h
    exact h
  | n + 1, i, env, H, hn, h => by
    have hi : i < ops.size := by omega
    rw [List.drop_eq_getElem_cons (by simpa using hi)] at h
    simp only [vops, Array.getElem_toList] at h
    simp only [List.range'_succ, vseq, Array.getElem?_eq_getElem hi]
    obtain ⟨e1, hw1, h⟩ := h
    refine ⟨e1, hw1, ?_⟩
    split at h
    · rename_i hw
      rw [hw]
      refine vop_mono h fun v H1 hk => ?_
      exact vops_seq n (i + 1) _ _ (by omega) hk
    · rename_i hw
      rw [hw]
      exact vops_seq n (i + 1) _ _ (by omega) h
    · exact h.elim

/-- The same, each step doing one thing. -/
def vopsD (P : Program) (G : Glob) (md : Oper → Md) (ops : Array Oper) : List Oper → List AV → Hp → (List AV → Hp → Prop) → Prop
  | [], env, H, K => K env H
  | o :: r, env, H, K => match wantedV o.guard ops env with
    | some true => if clsOp md o = 2 then ∃ v H', vop (XS P G) P md G env H o (fun v1 H1 => v1 = v ∧ H1 = H') ∧ vopsD P G md ops r (putE env o.dst v) H' K
      else ∃ v, vop (XS P G) P md G env H o (fun v1 H1 => v1 = v ∧ H1 = H) ∧ vopsD P G md ops r (putE env o.dst v) H K
    | some false => vopsD P G md ops r (putE env o.dst (.tup [])) H K
    | none => False

theorem vopsD_seq {P : Program} {G : Glob} {md : Oper → Md} {ops : Array Oper} {K : List AV → Hp → Prop} : ∀ (n : Nat) (i : Nat) (env : List AV) (H : Hp), i + n = ops.size → vopsD P G md ops (ops.toList.drop i) env H K → vseqD (XS P G) P md G ops (List.range' i n) env H K
  | 0, i, env, H, hn, h => by
    rw [List.drop_of_length_le (by simp; omega)] at h
    exact h
  | n + 1, i, env, H, hn, h => by
    have hi : i < ops.size := by omega
    rw [List.drop_eq_getElem_cons (by simpa using hi)] at h
    simp only [vopsD, Array.getElem_toList] at h
    simp only [List.range'_succ, vseqD, Array.getElem?_eq_getElem hi]
    split at h
    · rename_i hw
      rw [hw]
      simp only
      split at h
      · rename_i hc
        rw [if_pos hc]
        obtain ⟨v, H', h1, h2⟩ := h
        exact ⟨v, H', h1, vopsD_seq n (i + 1) _ _ (by omega) h2⟩
      · rename_i hc
        rw [if_neg hc]
        obtain ⟨v, h1, h2⟩ := h
        exact ⟨v, h1, vopsD_seq n (i + 1) _ _ (by omega) h2⟩
    · rename_i hw
      rw [hw]
      exact vopsD_seq n (i + 1) _ _ (by omega) h
    · exact h.elim

section
variable {P : Program} {G : Glob} {md : Oper → Md} {nb : Nat} {Q : Qv} {env : List AV} {H : Hp}

theorem wrap_nat {n : Nat} (h : n < 9223372036854775808) : IntKind.i64.wrap (n : Int) = n := IntWalk.i64_in _ ⟨by omega, by omega⟩
theorem wrap_succ {n : Nat} (h : n + 1 < 9223372036854775808) : IntKind.i64.wrap ((n : Int) + 1) = ((n + 1 : Nat) : Int) := by
  rw [show ((n : Int) + 1) = ((n + 1 : Nat) : Int) by omega]
  exact wrap_nat h
theorem int_succ {n : Nat} (h : n + 1 < 9223372036854775808) : AV.int .i64 (IntKind.i64.wrap ((n : Int) + 1)) = .int .i64 ((n + 1 : Nat) : Int) := by rw [wrap_succ h]

def vc (P : Program) (G : Glob) (md : Oper → Md) (nb : Nat) (c : Code) (Q : Qv) (env : List AV) (H : Hp) : Prop := vcode (XS P G) P md G nb c Q env H

theorem vc_seq {x y : Code} (h : vc P G md nb x (thenQ (fun env H => vc P G md nb y Q env H) Q) env H) : vc P G md nb (.seq x y) Q env H := .inl h
/-- What is behind is walked once, from where all ways meet: slots forgotten, objects at the end left behind. -/
theorem vc_join {x y : Code} (J : List AV → Hp → Prop) (h : vc P G md nb x (thenQ (Lv nb J) Q) env H) (hJ : ∀ env H, nb ≤ H.length → J env H → vc P G md nb y Q env H) : vc P G md nb (.seq x y) Q env H := .inr ⟨J, h, hJ⟩
theorem vc_region {id : Nat} {ops : Array Oper} (h : vops P G md ops ops.toList env H (Q .normal)) : vc P G md nb (.region id ops false) Q env H := by
  have := vops_seq ops.size 0 env H (by omega) h
  rw [← List.range_eq_range'] at this
  exact this
theorem vc_regionD {id : Nat} {ops : Array Oper} (hd : drawOk md ops = true) (h : vopsD P G md ops ops.toList env H (Q .normal)) : vc P G md nb (.region id ops true) Q env H := by
  have := vopsD_seq ops.size 0 env H (by omega) h
  rw [← List.range_eq_range'] at this
  exact .inl ⟨hd, this⟩
theorem vc_cond {c : Operand} {x y : Code} {b : Bool} (hb : ev G env c = some (.bool b)) (ht : b = true → vc P G md nb x Q env H) (hf : b = false → vc P G md nb y Q env H) : vc P G md nb (.cond c x y) Q env H := by
  unfold vc
  simp only [vcode, hb]
  cases b
  · have := hf rfl
    unfold vc at this
    simpa using this
  · have := ht rfl
    unfold vc at this
    simpa using this
theorem vc_true {c : Operand} {x y : Code} (hb : ev G env c = some (.bool true)) (h : vc P G md nb x Q env H) : vc P G md nb (.cond c x y) Q env H := vc_cond hb (fun _ => h) (fun h => by cases h)
theorem vc_false {c : Operand} {x y : Code} (hb : ev G env c = some (.bool false)) (h : vc P G md nb y Q env H) : vc P G md nb (.cond c x y) Q env H := vc_cond hb (fun h => by cases h) (fun _ => h)
theorem vc_block {id : Nat} {c : Code} (h : vc P G md nb c (blockQ id Q) env H) : vc P G md nb (.block id c) Q env H := h
theorem vc_skip (h : Q .normal env H) : vc P G md nb .skip Q env H := h
theorem vc_exit {id : Nat} (h : Q (.exit id) env H) : vc P G md nb (.exit id) Q env H := h
theorem vc_ret (h : Q .ret env H) : vc P G md nb .ret Q env H := h

/-- A loop, by its states at the head and a measure; what nobody names any more is left behind. -/
theorem vc_loop {α : Type} {c : Code} (E : α → List AV) (Hf : α → Hp) (μ : α → Nat) (a0 : α) (h0 : Wk env (E a0)) (hH : H = Hf a0)
    (hcl : ∀ a, nb ≤ (Hf a).length ∧ envB (Hf a).length (E a) ∧ heapB (Hf a).length (Hf a))
    (step : ∀ (a : α) (Y : List AV → Hp → Prop), (∀ a', μ a' < μ a → ∀ env' H' g, Wk env' (E a') → H' = Hf a' ++ g → Y env' H') → vc P G md nb c (thenQ Y Q) (E a) (Hf a)) : vc P G md nb (.loop c) Q env H := by
  intro Y hY hw hd _
  have key : ∀ (n : Nat) (a : α), μ a = n → Y (E a) (Hf a) := by
    intro n
    induction n using Nat.strongRecOn with
    | _ n ih =>
      intro a ha
      refine hY _ _ (step a Y fun a' hlt env' H' g hwk hH' => ?_)
      subst hH'
      obtain ⟨c1, c2, c3⟩ := hcl a'
      exact hw _ _ _ hwk (hd _ _ _ c1 c2 c3 (ih (μ a') (by omega) a' rfl))
  subst hH
  exact hw _ _ _ h0 (key _ a0 rfl)

/-- The same; at the end of a round, and at the first, the objects may bear other names. -/
theorem vc_loopR {α : Type} {c : Code} (E : α → List AV) (Hf : α → Hp) (μ : α → Nat) (a0 : α) (σ0 : List Nat) (h0 : RenE σ0 (E a0) env) (hnd : σ0.Nodup) (hlow : ∀ l, l < nb → σ0[l]? = some l) (hobj : RenH σ0 H σ0 (Hf a0))
    (hcl : ∀ a, nb ≤ (Hf a).length ∧ (∀ y ∈ E a, valN nb (Hf a) y) ∧ (∀ o ∈ Hf a, objN nb (Hf a) o))
    (step : ∀ (a : α) (Y : List AV → Hp → Prop), (∀ a', μ a' < μ a → ∀ env' H' σ, RenE σ (E a') env' → σ.Nodup → (∀ l, l < nb → σ[l]? = some l) → RenH σ H' σ (Hf a') → Y env' H') → vc P G md nb c (thenQ Y Q) (E a) (Hf a)) : vc P G md nb (.loop c) Q env H := by
  intro Y hY hw _ hren
  have key : ∀ (n : Nat) (a : α), μ a = n → Y (E a) (Hf a) := by
    intro n
    induction n using Nat.strongRecOn with
    | _ n ih =>
      intro a ha
      refine hY _ _ (step a Y fun a' hlt env' H' σ he hnd hlow hobj => ?_)
      obtain ⟨c1, c2, c3⟩ := hcl a'
      exact hren _ _ _ _ σ ⟨hnd, hlow, hobj, c3, c1⟩ he c2 (ih (μ a') (by omega) a' rfl)
  obtain ⟨c1, c2, c3⟩ := hcl a0
  exact hren _ _ _ _ σ0 ⟨hnd, hlow, hobj, c3, c1⟩ h0 c2 (key _ a0 rfl)

variable {ops : Array Oper} {o : Oper} {r : List Oper} {K : List AV → Hp → Prop}

theorem vo_nil (h : K env H) : vops P G md ops [] env H K := ⟨_, Wk.refl _, h⟩
/-- An operation that is no call. -/
theorem vo_op {v : AV} {H' : Hp} (hg : wantedV o.guard ops env = some true) (ho : ∀ k, (match vexec2 P md (ev G env) H o with | some (r, H') => k r H' | none => False) → vop (XS P G) P md G env H o k) (hx : vexec2 P md (ev G env) H o = some (v, H')) (h : vops P G md ops r (putE env o.dst v) H' K) : vops P G md ops (o :: r) env H K := by
  refine ⟨env, Wk.refl _, ?_⟩
  simp only [hg]
  apply ho
  rw [hx]
  exact h
theorem vo_skip (hg : wantedV o.guard ops env = some false) (h : vops P G md ops r (putE env o.dst (.tup [])) H K) : vops P G md ops (o :: r) env H K := by
  refine ⟨env, Wk.refl _, ?_⟩
  simp only [hg]
  exact h
theorem vo_indexAddr {t : TypeId} {x ix : Operand} {tg : Tg} {rows : List (List AV)} {k : IntKind} {n : Int} {e : TypeId} {sz : Nat} {r0 : List AV} (hg : wantedV o.guard ops env = some true) (ho : o.op = .indexAddr t x ix) (hx : ev G env x = some (.list tg rows)) (hi : ev G env ix = some (.int k n))
    (he : elemAt P t = some (none, e, sz)) (h0 : 0 ≤ n) (hr : rows[n.toNat]? = some r0) (hs : r0.length = sz) (h : vops P G md ops r (putE env o.dst (.iptr (tg == .bor) r0)) H K) : vops P G md ops (o :: r) env H K := by
  have hl := (List.getElem?_eq_some_iff.1 hr).1
  have hv : vindexAddr P H t (.list tg rows) (.int k n) = some (.iptr (tg == .bor) r0) := by
    unfold vindexAddr
    rw [he]
    simp only
    rw [if_pos ⟨h0, by omega⟩, hr]
    simp only
    rw [if_pos hs]
  refine ⟨env, Wk.refl _, ?_⟩
  simp only [hg, vop, ho, vexec2, vexec, hx, hi, hv, Option.map_some]
  exact h

/-- A call. -/
theorem vo_call {f : Operand} {args : Array Operand} {ts : Array TypeId} {g : Nat} {cs xs : List AV} (hg : wantedV o.guard ops env = some true) (ho : o.op = .call ⟨.value f, args, ts⟩) (hf : ev G env f = some (.clo g cs)) (hx : evL (ev G env) args.toList = some xs) (he : enterOk P g = true)
    (h : vcallX (XS P G) (md o) g (xs ++ cs) H fun v H1 => vops P G md ops r (putE env o.dst v) H1 K) : vops P G md ops (o :: r) env H K := by
  refine ⟨env, Wk.refl _, ?_⟩
  simp only [hg, vop, ho, hf, hx, he, if_true]
  exact h

/-! ### The same for the form in which code stands -/
theorem w_region {id : Nat} {l : List Oper} (h : vops P G md l.toArray l env H (Q .normal)) : vc P G md nb (.region id l.toArray false) Q env H := vc_region h
theorem w_regionD {id : Nat} {l : List Oper} (hd : drawOk md l.toArray = true) (h : vopsD P G md l.toArray l env H (Q .normal)) : vc P G md nb (.region id l.toArray true) Q env H := vc_regionD hd h
theorem w_op {d : Tmp} {op : Op} {ty : TypeId} {pos : String} {aft : Array Edge} {v : AV} {H' : Hp} (hx : vexec2 P md (ev G env) H ⟨some d, op, ty, pos, aft, none⟩ = some (v, H'))
    (ho : ∀ k, (match vexec2 P md (ev G env) H ⟨some d, op, ty, pos, aft, none⟩ with | some (r, H') => k r H' | none => False) → vop (XS P G) P md G env H ⟨some d, op, ty, pos, aft, none⟩ k)
    (h : vops P G md ops r (env.set d v) H' K) : vops P G md ops (⟨some d, op, ty, pos, aft, none⟩ :: r) env H K := vo_op rfl ho hx h
theorem w_op0 {op : Op} {ty : TypeId} {pos : String} {aft : Array Edge} {v : AV} {H' : Hp} (hx : vexec2 P md (ev G env) H ⟨none, op, ty, pos, aft, none⟩ = some (v, H'))
    (ho : ∀ k, (match vexec2 P md (ev G env) H ⟨none, op, ty, pos, aft, none⟩ with | some (r, H') => k r H' | none => False) → vop (XS P G) P md G env H ⟨none, op, ty, pos, aft, none⟩ k)
    (h : vops P G md ops r env H' K) : vops P G md ops (⟨none, op, ty, pos, aft, none⟩ :: r) env H K := vo_op rfl ho hx h
theorem w_indexAddr {d : Tmp} {ty : TypeId} {pos : String} {aft : Array Edge} {t : TypeId} {x ix : Operand} {tg : Tg} {rows : List (List AV)} {k : IntKind} {n : Int} {e : TypeId} {sz : Nat} {r0 : List AV} (hx : ev G env x = some (.list tg rows)) (hi : ev G env ix = some (.int k n))
    (he : elemAt P t = some (none, e, sz)) (h0 : 0 ≤ n) (hr : rows[n.toNat]? = some r0) (hs : r0.length = sz) (h : vops P G md ops r (env.set d (.iptr (tg == .bor) r0)) H K) : vops P G md ops (⟨some d, .indexAddr t x ix, ty, pos, aft, none⟩ :: r) env H K :=
  vo_indexAddr rfl rfl hx hi he h0 hr hs h
theorem w_call {d : Tmp} {ty : TypeId} {pos : String} {aft : Array Edge} {f : Operand} {args : Array Operand} {ts : Array TypeId} {g : Nat} {cs xs : List AV} (hf : ev G env f = some (.clo g cs)) (hx : evL (ev G env) args.toList = some xs) (he : enterOk P g = true)
    (h : vcallX (XS P G) (md ⟨some d, .call ⟨.value f, args, ts⟩, ty, pos, aft, none⟩) g (xs ++ cs) H fun v H1 => vops P G md ops r (env.set d v) H1 K) : vops P G md ops (⟨some d, .call ⟨.value f, args, ts⟩, ty, pos, aft, none⟩ :: r) env H K :=
  vo_call rfl rfl hf hx he h
/-- The slots and the objects written out. -/
theorem w_norm {l : List Oper} {env' : List AV} {H' : Hp} (he : env = env') (hH : H = H') (h : vops P G md ops l env' H' K) : vops P G md ops l env H K := by subst he; subst hH; exact h

/-- The same, the slots and the objects written out. -/
theorem w_opN {d : Tmp} {op : Op} {ty : TypeId} {pos : String} {aft : Array Edge} {g : Option (Nat × Bool)} {v : AV} {H' : Hp} {env' : List AV} (hg : wantedV g ops env = some true) (hx : vexec2 P md (ev G env) H ⟨some d, op, ty, pos, aft, g⟩ = some (v, H')) (he : env.set d v = env')
    (ho : ∀ k, (match vexec2 P md (ev G env) H ⟨some d, op, ty, pos, aft, g⟩ with | some (r, H') => k r H' | none => False) → vop (XS P G) P md G env H ⟨some d, op, ty, pos, aft, g⟩ k)
    (h : vops P G md ops r env' H' K) : vops P G md ops (⟨some d, op, ty, pos, aft, g⟩ :: r) env H K := by subst he; exact vo_op hg ho hx h
theorem w_skipN {d : Tmp} {op : Op} {ty : TypeId} {pos : String} {aft : Array Edge} {g : Option (Nat × Bool)} {env' : List AV} (hg : wantedV g ops env = some false) (he : env.set d (.tup []) = env')
    (h : vops P G md ops r env' H K) : vops P G md ops (⟨some d, op, ty, pos, aft, g⟩ :: r) env H K := by subst he; exact vo_skip hg h

/-- Under a guard that holds, and one that does not. -/
theorem w_opG {d : Tmp} {op : Op} {ty : TypeId} {pos : String} {aft : Array Edge} {g : Nat × Bool} {v : AV} {H' : Hp} (hg : wantedV (some g) ops env = some true) (hx : vexec2 P md (ev G env) H ⟨some d, op, ty, pos, aft, some g⟩ = some (v, H'))
    (ho : ∀ k, (match vexec2 P md (ev G env) H ⟨some d, op, ty, pos, aft, some g⟩ with | some (r, H') => k r H' | none => False) → vop (XS P G) P md G env H ⟨some d, op, ty, pos, aft, some g⟩ k)
    (h : vops P G md ops r (env.set d v) H' K) : vops P G md ops (⟨some d, op, ty, pos, aft, some g⟩ :: r) env H K := vo_op hg ho hx h
theorem w_skipG {d : Tmp} {op : Op} {ty : TypeId} {pos : String} {aft : Array Edge} {g : Nat × Bool} (hg : wantedV (some g) ops env = some false)
    (h : vops P G md ops r (env.set d (.tup [])) H K) : vops P G md ops (⟨some d, op, ty, pos, aft, some g⟩ :: r) env H K := vo_skip hg h
theorem w_callG {d : Tmp} {ty : TypeId} {pos : String} {aft : Array Edge} {f : Operand} {args : Array Operand} {ts : Array TypeId} {gd : Nat × Bool} {g : Nat} {cs xs : List AV} (hg : wantedV (some gd) ops env = some true) (hf : ev G env f = some (.clo g cs)) (hx : evL (ev G env) args.toList = some xs) (he : enterOk P g = true)
    (h : vcallX (XS P G) (md ⟨some d, .call ⟨.value f, args, ts⟩, ty, pos, aft, some gd⟩) g (xs ++ cs) H fun v H1 => vops P G md ops r (env.set d v) H1 K) : vops P G md ops (⟨some d, .call ⟨.value f, args, ts⟩, ty, pos, aft, some gd⟩ :: r) env H K :=
  vo_call hg rfl hf hx he h

/-- A slice that nobody writes, and its rows. -/
def IsL (x : AV) : Prop := x = .nils ∨ ∃ t rows, x = .list t rows
def lrows (x : AV) : List (List AV) := match x with
  | .list _ rows => rows
  | _ => []

theorem w_len {d : Tmp} {ty : TypeId} {pos : String} {aft : Array Edge} {a : Operand} {t e : TypeId} {x : AV} (hx : ev G env a = some x) (hL : IsL x) (hu : P.underlying t = some (.slice e))
    (h : vops P G md ops r (env.set d (.int .i64 (lrows x).length)) H K) : vops P G md ops (⟨some d, .call ⟨.builtin .len, #[a], #[t]⟩, ty, pos, aft, none⟩ :: r) env H K := by
  refine w_op (v := .int .i64 (lrows x).length) (H' := H) ?_ (fun _ h => h) h
  have hv : vlen P H t x = some (.int .i64 (lrows x).length) := by
    unfold vlen
    rw [hu]
    rcases hL with rfl | ⟨t, rows, rfl⟩ <;> rfl
  have he : evL (ev G env) #[a].toList = some [x] := by simp [evL, hx]
  simp only [vexec2, vexec, he, vbuiltin]
  simp [hv]

theorem w_index {d : Tmp} {ty : TypeId} {pos : String} {aft : Array Edge} {t : TypeId} {x ix : Operand} {s : AV} {k : IntKind} {n : Int} {e : TypeId} {sz : Nat} {r0 : List AV} (hx : ev G env x = some s) (hL : IsL s) (hi : ev G env ix = some (.int k n))
    (he : elemAt P t = some (none, e, sz)) (h0 : 0 ≤ n) (hr : (lrows s)[n.toNat]? = some r0) (hs : r0.length = sz) (h : ∀ b, vops P G md ops r (env.set d (.iptr b r0)) H K) : vops P G md ops (⟨some d, .indexAddr t x ix, ty, pos, aft, none⟩ :: r) env H K := by
  rcases hL with rfl | ⟨tg, rows, rfl⟩
  · simp [lrows] at hr
  · exact w_indexAddr hx hi he h0 hr hs (h _)

/-- A region's end, its slots written out. -/
theorem w_end {K' : List AV → Hp → Prop} {env' : List AV} (he : env = env') (h : K' env' H) : vops P G md ops [] env H (thenQ K' Q .normal) := by subst he; exact vo_nil h
theorem w_endB {id : Nat} {env' : List AV} (he : env = env') (h : Q .normal env' H) : vops P G md ops [] env H (blockQ id Q .normal) := by subst he; exact vo_nil h
theorem n_then {K' : List AV → Hp → Prop} (h : K' env H) : thenQ K' Q .normal env H := h
theorem n_block {id : Nat} (h : Q .normal env H) : blockQ id Q .normal env H := h
theorem x_then {K' : List AV → Hp → Prop} {id : Nat} (h : Q (.exit id) env H) : thenQ K' Q (.exit id) env H := h
theorem x_same {id : Nat} (h : Q .normal env H) : blockQ id Q (.exit id) env H := by simp only [blockQ, if_true]; exact h
theorem x_other {id id' : Nat} (hne : id' ≠ id) (h : Q (.exit id') env H) : blockQ id Q (.exit id') env H := by simp only [blockQ, if_neg hne]; exact h
theorem r_then {K' : List AV → Hp → Prop} (h : Q .ret env H) : thenQ K' Q .ret env H := h
theorem r_block {id : Nat} (h : Q .ret env H) : blockQ id Q .ret env H := h
theorem r_fn {fn : Func} {KK : AV → Hp → Prop} {x : AV} (hv : vres P H fn env = some x) (h : KK x H) : fnQ P fn KK .ret env H := by
  simp only [fnQ, hv]
  exact h
theorem n_fn {fn : Func} {KK : AV → Hp → Prop} {x : AV} (hv : vres P H fn env = some x) (h : KK x H) : fnQ P fn KK .normal env H := by
  simp only [fnQ, hv]
  exact h

/-- A function on values of its own: what comes back. -/
def Fn (P : Program) (G : Glob) (g : Nat) (ys : List AV) (r' : AV) : Prop := XS P G g ys [] fun r H2 => retv H2 r = some r'

theorem call_iso {g : Nat} {xs ys : List AV} {r' : AV} {k : AV → Hp → Prop} (hl : mapL (lend H) xs = some ys) (hf : Fn P G g ys r') (h : k r' H) : vcallX (XS P G) .iso g xs H k := by
  simp only [vcallX, hl]
  refine XS.mono hf fun r H2 hr => ?_
  rw [hr]
  exact h

theorem lend_lent {x : AV} (h : x.isLent = true) : lend H x = some x := by
  cases x <;> first
    | (simp [lend, lend0, h]; done)
    | (cases h; done)
    | (rename_i f cs; cases cs <;> first
        | (simp [lend, mapL]; done)
        | (cases h; done))

theorem lends_lent : ∀ {xs : List AV}, (∀ x ∈ xs, x.isLent = true) → mapL (lend H) xs = some xs
  | [], _ => rfl
  | x :: r, h => by
    simp only [mapL, lend_lent (h x (by simp)), lends_lent (xs := r) (fun y hy => h y (by simp [hy]))]

theorem isLent_val {x : AV} (h : x.isVal = true) : x.isLent = true := by
  cases x <;> first
    | rfl
    | exact h
    | (cases h; done)

/-- Into a function's body. -/
theorem fn_body {f : Nat} {fn : Func} {code : Code} {args : List AV} {r' : AV} (md : Oper → Md) (hf : P.funcs[f]? = some fn) (hb : fn.body = some code)
    (h : vc P G md 0 code (fnQ P fn fun r H2 => retv H2 r = some r') (args ++ List.replicate (fn.ntmps - args.length) .undef) []) : Fn P G f args r' :=
  (XS.pre P G).body f fn code md args [] _ hf hb h
end
end Go.Vi
