/- Vi, part Q: code and functions. -/
import Derived.Test.YteejggadbifdbaaGreatViW
set_option autoImplicit false
set_option linter.unusedVariables false
set_option linter.unusedSimpArgs false
namespace Go.Vi

abbrev Qv := Exit → List AV → Hp → Prop

def thenQ (Y : List AV → Hp → Prop) (Q : Qv) : Qv
  | .normal, env, H => Y env H
  | e, env, H => Q e env H

def blockQ (id : Nat) (Q : Qv) : Qv
  | .exit id', env, H => if id' = id then Q .normal env H else Q (.exit id') env H
  | e, env, H => Q e env H

/-- Slots forgotten, objects at the end left behind. -/
def Lv (nb : Nat) (J : List AV → Hp → Prop) (env : List AV) (H : Hp) : Prop :=
  ∃ env' H1 g, H = H1 ++ g ∧ nb ≤ H1.length ∧ Wk env env' ∧ (g = [] ∨ envB H1.length env' ∧ heapB H1.length H1) ∧ J env' H1

def vcode (X : Sem1) (P : Program) (md : Oper → Md) (G : Glob) (nb : Nat) : Code → Qv → List AV → Hp → Prop
  | .skip, Q, env, H => Q .normal env H
  | .label _, Q, env, H => Q .normal env H
  | .region _ ops false, Q, env, H => vseq X P md G ops (List.range ops.size) env H (Q .normal)
  | .region _ ops true, Q, env, H => (drawOk md ops = true ∧ vseqD X P md G ops (List.range ops.size) env H (Q .normal)) ∨ vregW X P md G ops env H (Q .normal) ∨ vregO X P md G ops env H (Q .normal)
  | .seq x y, Q, env, H => vcode X P md G nb x (thenQ (fun env H => vcode X P md G nb y Q env H) Q) env H ∨
    ∃ J : List AV → Hp → Prop, vcode X P md G nb x (thenQ (Lv nb J) Q) env H ∧ ∀ env H, nb ≤ H.length → J env H → vcode X P md G nb y Q env H
  | .cond c x y, Q, env, H => match ev G env c with
    | some (.bool b) => if b = true then vcode X P md G nb x Q env H else vcode X P md G nb y Q env H
    | _ => False
  | .block id c, Q, env, H => vcode X P md G nb c (blockQ id Q) env H
  | .loop c, Q, env, H => ∀ Y : List AV → Hp → Prop, (∀ env H, vcode X P md G nb c (thenQ Y Q) env H → Y env H) → (∀ env env' H, Wk env env' → Y env' H → Y env H) → (∀ env H g, nb ≤ H.length → envB H.length env → heapB H.length H → Y env H → Y env (H ++ g)) →
    (∀ env env2 H H2 σ, Renames nb σ H H2 → RenE σ env env2 → (∀ y ∈ env, valN nb H y) → Y env H → Y env2 H2) → Y env H
  | .exit id, Q, env, H => Q (.exit id) env H
  | .ret, Q, env, H => Q .ret env H
  | _, _, _, _ => False

theorem Post.mono {n : Nat} {c : Cx} {H : Hp} {Q Q' : Qv} (hq : ∀ e env H, Q e env H → Q' e env H) {e : Exit} {a : Act} {w : World} (h : Post n c H Q e a w) : Post n c H Q' e a w := by
  obtain ⟨env', H', c', h1, h2, h3, h4, h5⟩ := h
  exact ⟨env', H', c', h1, h2, h3, h4, hq _ _ _ h5⟩

theorem vcode_sound {nb : Nat} {P : Program} {md : Oper → Md} {G : Glob} : ∀ (code : Code) (Q : Qv) (env : List AV) (H : Hp), vcode (XS P G) P md G nb code Q env H →
    ∀ (c : Cx) (a : Act), Sim c H → nb ≤ H.length → GOK c G → EnvR c env a.tmps → a.defers = [] → code.wp P (Post nb c H Q) a c.w
  | .skip, Q, env, H, h, c, a, s, hn, hg, he, hd => wp_skip ⟨env, H, c, rfl, Fo.of_to s hn (To.refl s), he, hd, h⟩
  | .label _, Q, env, H, h, c, a, s, hn, hg, he, hd => wp_label ⟨env, H, c, rfl, Fo.of_to s hn (To.refl s), he, hd, h⟩
  | .exit _, Q, env, H, h, c, a, s, hn, hg, he, hd => wp_exit ⟨env, H, c, rfl, Fo.of_to s hn (To.refl s), he, hd, h⟩
  | .ret, Q, env, H, h, c, a, s, hn, hg, he, hd => wp_ret ⟨env, H, c, rfl, Fo.of_to s hn (To.refl s), he, hd, h⟩
  | .region _ ops false, Q, env, H, h, c, a, s, hn, hg, he, hd => wp_region (vseq_sound _ env H h c a s hn hg he hd)
  | .region _ ops true, Q, env, H, h, c, a, s, hn, hg, he, hd => by
    refine wp_region_draw fun t => ?_
    have h5 : vseq (XS P G) P md G ops (Region.schedule (P.follows .mixedOrders) ops t) env H (Q .normal) := by
      rcases h with ⟨h1, h2⟩ | ⟨h1, hs, h2⟩ | h2
      · obtain ⟨s', h3, h4⟩ := vseqD_tr _ _ _ h2
        exact vtr_seq _ (env, H) s' (vtr_sch (schedule_sch (ok := okIdx md ops) h1 (P.follows .mixedOrders) t) h3) h4
      · obtain ⟨s', h3, h4⟩ := vseqW_tr _ _ _ h2
        exact wtr_seq (K := Q .normal) _ (env, 0) s' (wtr_sch (schedule_sch (ok := okW md ops (winOf md ops)) h1 (P.follows .mixedOrders) t) h3) h4
      · exact regO_seq h2 (P.follows .mixedOrders) t
    have t0 : To c H { c with w := { c.w with drawn := c.w.drawn + 1 } } H := To.world s rfl rfl rfl rfl
    have := vseq_sound _ env H h5 { c with w := { c.w with drawn := c.w.drawn + 1 } } a t0.sim hn (hg.mono t0.ext.mono) (he.mono t0.ext.mono) hd
    exact wpOps_mono (fun e a w hp => hp.trans s hn t0) _ _ _ this
  | .seq x y, Q, env, H, h, c, a, s, hn, hg, he, hd => by
    rcases h with h | ⟨J, h, hJ⟩
    · refine wp_seq (wp_mono (vcode_sound x _ env H h c a s hn hg he hd) fun e a' w' hp => ?_)
      cases e with
      | normal =>
        obtain ⟨env', H', c', rfl, t, h3, h4, h5⟩ := hp
        exact wp_mono (vcode_sound y Q env' H' h5 c' a' t.sim t.len (hg.fo t) h3 h4) fun e a w hp => hp.transF t
      | _ => exact hp
    · refine wp_seq (wp_mono (vcode_sound x _ env H h c a s hn hg he hd) fun e a' w' hp => ?_)
      cases e with
      | normal =>
        obtain ⟨env', H', c', rfl, t, h3, h4, env2, H1, g, rfl, h6, h7, h8, h9⟩ := hp
        rcases h8 with rfl | ⟨h8, h10⟩
        · rw [List.append_nil] at t
          exact wp_mono (vcode_sound y Q env2 H1 (hJ _ _ h6 h9) c' a' t.sim t.len (hg.fo t) (h3.wk h7) h4) fun e a w hp => hp.transF t
        · have t2 := t.trans (Fo.cut t.sim h6 h10)
          exact wp_mono (vcode_sound y Q env2 H1 (hJ _ _ h6 h9) (cutCx H1.length c') a' t2.sim h6 (hg.fo t2) ((h3.wk h7).cut h8) h4) fun e a w hp => hp.transF t2
      | _ => exact hp
  | .cond o x y, Q, env, H, h, c, a, s, hn, hg, he, hd => by
    simp only [vcode] at h
    split at h
    · rename_i b hb
      have hr := ev_sound he hg o _ hb
      have hv : a.eval o = .bool b := by
        generalize a.eval o = V at hr
        cases hr
        rfl
      refine wp_cond hv ?_
      cases b with
      | true => exact vcode_sound x Q env H h c a s hn hg he hd
      | false => exact vcode_sound y Q env H h c a s hn hg he hd
    · exact h.elim
  | .block id x, Q, env, H, h, c, a, s, hn, hg, he, hd => by
    refine wp_block (wp_mono (vcode_sound x _ env H h c a s hn hg he hd) fun e a' w' hp => ?_)
    cases e with
    | exit id' =>
      obtain ⟨env', H', c', h1, t, h3, h4, h5⟩ := hp
      simp only [Exit.inBlock, blockQ] at h5 ⊢
      split at h5
      · rename_i hid; rw [if_pos hid]; exact ⟨env', H', c', h1, t, h3, h4, h5⟩
      · rename_i hid; rw [if_neg hid]; exact ⟨env', H', c', h1, t, h3, h4, h5⟩
    | _ => exact hp
  | .loop x, Q, env, H, h, c, a, s, hn, hg, he, hd => by
    have key := h (fun env H => ∀ (c : Cx) (a : Act), Sim c H → nb ≤ H.length → GOK c G → EnvR c env a.tmps → a.defers = [] → ∀ (b : Frame) (k : List Item) (cs : List Frame),
        ∃ e a' w', Post nb c H Q e a' w' ∧ Arrives P (lone (b.at a (.code x :: .inLoop x :: k)) cs c.w) b k cs e a' w')
      (fun env H hv c a s hn hg he hd b k cs => by
        obtain ⟨e, a1, w1, hq, harr⟩ := vcode_sound x _ env H hv c a s hn hg he hd b (.inLoop x :: k) cs
        cases e with
        | normal =>
          obtain ⟨env', H', c', rfl, t, h3, h4, h5⟩ := hq
          obtain ⟨e2, a2, w2, hq2, harr2⟩ := h5 c' a1 t.sim t.len (hg.fo t) h3 h4 b k cs
          exact ⟨e2, a2, w2, hq2.transF t, .of_steps (Steps.trans harr (.one step_inLoop)) harr2⟩
        | exit id => exact ⟨_, a1, w1, hq, .pass (x := .inLoop x) rfl (fun _ _ => .inl (by simp)) harr⟩
        | goto l => exact ⟨_, a1, w1, hq, .pass (x := .inLoop x) rfl (fun _ _ => .inl (by simp)) harr⟩
        | ret => exact ⟨_, a1, w1, hq, .pass (x := .inLoop x) rfl (fun _ _ => .inl (by simp)) harr⟩
        | panic ch => exact ⟨_, a1, w1, hq, .pass (x := .inLoop x) rfl (fun _ _ => .inl (by simp)) harr⟩
        | outgrown => exact ⟨_, a1, w1, hq, .pass (x := .inLoop x) rfl (fun _ _ => .inl (by simp)) harr⟩)
      (fun env env' H hw hy c a s hn hg he hd => hy c a s hn hg (he.wk hw) hd)
      (fun env H g hnb hE hH hy c a s hn hg he hd b k cs => by
        obtain ⟨e2, a2, w2, hq2, harr2⟩ := hy (cutCx H.length c) a (s.cut hH) hnb hg.cut (he.cut hE) hd b k cs
        exact ⟨e2, a2, w2, hq2.transF (Fo.cut s hnb hH), harr2⟩)
      (fun env env2 H H2 σ r hE hN hy c a s hn hg he hd b k cs => by
        obtain ⟨e2, a2, w2, hq2, harr2⟩ := hy (renCx nb σ H c) a (r.sim s) r.len hg.ren (he.ren hE hN) hd b k cs
        exact ⟨e2, a2, w2, hq2.transF (Fo.ren r s), harr2⟩) c a s hn hg he hd
    intro b k cs
    obtain ⟨e, a', w', hq, harr⟩ := key b k cs
    exact ⟨e, a', w', hq, .of_steps (.one step_loop) harr⟩
  | .rangeFunc .., Q, env, H, h, c, a, s, hn, hg, he, hd => h.elim
  | .scope .., Q, env, H, h, c, a, s, hn, hg, he, hd => h.elim
  | .goto .., Q, env, H, h, c, a, s, hn, hg, he, hd => h.elim
  | .refuse .., Q, env, H, h, c, a, s, hn, hg, he, hd => h.elim

/-! ### Functions -/
def vresL (P : Program) (H : Hp) (env : List AV) : List ResultVar → Option (List AV)
  | [] => some []
  | .tmp t :: r => match env[t]?, vresL P H env r with
    | some x, some xs => some (x :: xs)
    | _, _ => none
  | .cell a t :: r => match env[a]?, vresL P H env r with
    | some x, some xs => match vload P H t x with
      | some y => some (y :: xs)
      | none => none
    | _, _ => none

def vres (P : Program) (H : Hp) (fn : Func) (env : List AV) : Option AV :=
  match vresL P H env fn.results.toList with
  | some [x] => some x
  | some xs => some (.tup xs)
  | none => none

def fnQ (P : Program) (fn : Func) (K : AV → Hp → Prop) : Qv
  | .normal, env, H => match vres P H fn env with
    | some r => K r H
    | none => False
  | .ret, env, H => match vres P H fn env with
    | some r => K r H
    | none => False
  | _, _, _ => False

def resF (tmps : Array Value) : ResultVar → Sem Value
  | .tmp t => pure (tmps.getD t undef)
  | .cell a t => do loadVar t (← asAddr (tmps.getD a undef))

theorem results_eq (fn : Func) (tmps : Array Value) : results fn tmps = (do let vs ← fn.results.mapM (resF tmps); pure (if h : vs.size = 1 then vs[0] else .tuple vs)) := by
  unfold results
  congr 1

theorem vresL_sound {P : Program} {c : Cx} {H : Hp} (s : Sim c H) {env : List AV} {tmps : Array Value} (h : EnvR c env tmps) : ∀ {l : List ResultVar} {xs : List AV}, vresL P H env l = some xs →
    ∃ Vs : List Value, (l.mapM (resF tmps)).run P c.w = .ok Vs c.w ∧ xs.length = Vs.length ∧
      ∀ (j : Nat) (x : AV) (V : Value), xs[j]? = some x → Vs[j]? = some V → Rel c x V
  | [], xs, hx => by cases hx; exact ⟨[], by simp, rfl, fun j x V hx => by cases hx⟩
  | .tmp t :: r, xs, hx => by
    unfold vresL at hx
    split at hx
    · rename_i x ys h1 h2
      cases hx
      obtain ⟨Vs, i1, i2, i3⟩ := vresL_sound s h h2
      have hlt := (List.getElem?_eq_some_iff.1 h1).1
      have hlt' : t < tmps.size := by rw [← h.1]; exact hlt
      refine ⟨tmps[t] :: Vs, ?_, by simp [i2], fun j y V hy hV => ?_⟩
      · simp only [List.mapM_cons, resF, pure_bind]
        rw [Sem.run_bind, i1]
        simp [Array.getD_eq_getD_getElem?, hlt']
      · cases j with
        | zero => simp at hy hV; subst hy; subst hV; exact h.2 t x _ h1 (Array.getElem?_eq_getElem hlt')
        | succ j => exact i3 j y V (by simpa using hy) (by simpa using hV)
    · cases hx
  | .cell a t :: r, xs, hx => by
    unfold vresL at hx
    split at hx
    · rename_i x ys h1 h2
      split at hx
      · rename_i y hy
        cases hx
        obtain ⟨Vs, i1, i2, i3⟩ := vresL_sound s h h2
        have hlt := (List.getElem?_eq_some_iff.1 h1).1
        have hlt' : a < tmps.size := by rw [← h.1]; exact hlt
        have hX := h.2 a x _ h1 (Array.getElem?_eq_getElem hlt')
        obtain ⟨U, u1, u2⟩ := load_sound (P := P) s hX hy
        have hp : ∃ ad, tmps[a] = .pointer (some ad) := by
          generalize tmps[a] = V at hX
          cases hX with
          | ptr l i k cl hρ => exact ⟨_, rfl⟩
          | iptr bo cs b o F h1 h2 h3 h4 => exact ⟨_, rfl⟩
          | _ => cases hy
        obtain ⟨ad, had⟩ := hp
        rw [had] at u1
        have u1 : (loadVar t ad).run P c.w = .ok U c.w := by simpa [Instr.loadAt, Instr.sureAddr] using u1
        refine ⟨U :: Vs, ?_, by simp [i2], fun j z V hz hV => ?_⟩
        · have e : (resF tmps (.cell a t)) = loadVar t ad := by simp [resF, Array.getD_eq_getD_getElem?, hlt', had, asAddr]
          simp only [List.mapM_cons, e]
          rw [Sem.run_bind, u1]
          simp [i1]
        · cases j with
          | zero => simp at hz hV; subst hz; subst hV; exact u2
          | succ j => exact i3 j z V (by simpa using hz) (by simpa using hV)
      · cases hx
    · cases hx

theorem vres_sound {P : Program} {c : Cx} {H : Hp} (s : Sim c H) {env : List AV} {tmps : Array Value} (h : EnvR c env tmps) {fn : Func} {res : AV} (hr : vres P H fn env = some res) : ∃ V, (results fn tmps).run P c.w = .ok V c.w ∧ Rel c res V := by
  have key : ∀ (xs : List AV) (Vs : List Value), xs.length = Vs.length → (∀ (j : Nat) (x : AV) (V : Value), xs[j]? = some x → Vs[j]? = some V → Rel c x V) →
      (match some xs with | some [x] => some x | some xs => some (AV.tup xs) | none => none) = some res → Rel c res (if hh : Vs.toArray.size = 1 then Vs.toArray[0] else .tuple Vs.toArray) := by
    intro xs Vs hl hR hx
    match xs, Vs, hl with
    | [], [], _ => cases hx; exact .tup [] #[] rfl (fun j x V hx => by cases hx)
    | [x], [V], _ => cases hx; exact hR 0 _ V rfl rfl
    | x :: y :: zs, V :: W :: Us, hl =>
      cases hx
      have : ¬ (V :: W :: Us).toArray.size = 1 := by simp
      rw [dif_neg this]
      exact .tup _ _ (by simpa using hl) (fun j x' V' h1 h2 => hR j x' V' h1 (by simpa using h2))
  unfold vres at hr
  cases hv : vresL P H env fn.results.toList with
  | none => rw [hv] at hr; cases hr
  | some xs =>
    rw [hv] at hr
    obtain ⟨Vs, i1, i2, i3⟩ := vresL_sound (P := P) s h hv
    refine ⟨_, ?_, key xs Vs i2 i3 hr⟩
    rw [results_eq]
    rw [Array.mapM_eq_mapM_toList, Sem.run_bind]
    have : (List.toArray <$> fn.results.toList.mapM (resF tmps)).run P c.w = .ok Vs.toArray c.w := by
      rw [map_eq_pure_bind, Sem.run_bind, i1]
      rfl
    rw [this]
    rfl

/-- What a meaning of calls must take up. -/
structure Pre (P : Program) (G : Glob) (X : Sem1) : Prop where
  body : ∀ (f : Nat) (fn : Func) (code : Code) (md : Oper → Md) (args : List AV) (H : Hp) (K : AV → Hp → Prop), P.funcs[f]? = some fn → fn.body = some code →
    vcode X P md G H.length code (fnQ P fn K) (args ++ List.replicate (fn.ntmps - args.length) .undef) H → X f args H K
  mono : ∀ (f : Nat) (args : List AV) (H : Hp) (K K' : AV → Hp → Prop), X f args H K → (∀ r H', K r H' → K' r H') → X f args H K'

theorem XS.pre (P : Program) (G : Glob) : Pre P G (XS P G) where
  mono f args H K K' h hk := h.mono hk
  body f fn code md args H K hf hb h := by
    intro c Vs s hg hl hr
    refine calls_of_wp hf hb ?_
    have he : EnvR c (args ++ List.replicate (fn.ntmps - args.length) .undef) (Vs.toArray ++ Array.replicate (fn.ntmps - Vs.toArray.size) undef) := by
      refine ⟨by simp [hl], fun t x V hx hV => ?_⟩
      by_cases ht : t < args.length
      · rw [List.getElem?_append_left ht] at hx
        rw [Array.getElem?_append_left (by simpa [← hl] using ht)] at hV
        exact hr t x V hx (by simpa using hV)
      · rw [List.getElem?_append_right (by omega)] at hx
        have := List.mem_of_getElem? hx
        rw [List.eq_of_mem_replicate this]
        exact .undef V
    refine wp_mono (vcode_sound code _ _ H h c _ s (Nat.le_refl _) hg he rfl) fun e a w hp => ?_
    obtain ⟨env', H', c', rfl, t, h3, h4, h5⟩ := hp
    have t := t.to s
    have fin : (match vres P H' fn env' with | some r => K r H' | none => False) → a.defers = [] ∧ ∃ v, (results fn a.tmps).run P c'.w = .ok v c'.w ∧ ∃ r H'' c'' V, Ending.returned v = .returned V ∧ c'.w = c''.w ∧ To c H c'' H'' ∧ Rel c'' r V ∧ K r H'' := by
      intro h5
      split at h5
      · rename_i r hv
        obtain ⟨V, v1, v2⟩ := vres_sound (P := P) t.sim h3 hv
        exact ⟨h4, V, v1, r, H', c', V, rfl, rfl, t, v2, h5⟩
      · exact h5.elim
    cases e with
    | normal => exact fin h5
    | ret => exact fin h5
    | _ => exact h5.elim
end Go.Vi
