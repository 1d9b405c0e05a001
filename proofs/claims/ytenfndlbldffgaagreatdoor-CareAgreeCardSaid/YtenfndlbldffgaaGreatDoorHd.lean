/- Part of the proofs of the tied cards of Care: the texts ViR ViT ViY ViZ ViZa ViZb ViZc ViZe ViU ViV. Conditions: none of its own. -/
import Derived.Test.YtenfndlbldffgaaGreatDoorHc
import GoSem.ClaimChange
import Derived.ProofKit
set_option autoImplicit false
set_option linter.unusedVariables false
set_option linter.unusedSimpArgs false
namespace Go.Vi
abbrev Rec := Nat → List AV → Hp → Option (AV × Hp)
def ecallX (R : Rec) (m : Md) (g : Nat) (xs : List AV) (H : Hp) : Option (AV × Hp) :=
 match m with
 | .shr => R g xs H
 | .iso => match mapL (lend H) xs with
   | some ys => match R g ys [] with
     | some (r, H2) => (retv H2 r).map (·, H)
     | none => none
   | none => none
 | .shf => match R g xs H with
   | some (r, H2) => (frzv H2 r).map fun p => (p.2, p.1)
   | none => none
def eop (R : Rec) (P : Program) (md : Oper → Md) (G : Glob) (env : List AV) (H : Hp) (o : Oper) : Option (AV × Hp) :=
 match o.op with
 | .call { callee := .value f, args, .. } => match ev G env f, evL (ev G env) args.toList with
   | some (.clo g cs), some xs => if enterOk P g = true then ecallX R (md o) g (xs ++ cs) H else (vext P g (xs ++ cs)).map (·, H)
   | _, _ => none
 | _ => vexec2 P md (ev G env) H o
def eseq (R : Rec) (P : Program) (md : Oper → Md) (G : Glob) (ops : Array Oper) : List Nat → List AV → Hp → Option (List AV × Hp)
 | [], env, H => some (env, H)
 | i :: r, env, H => match ops[i]? with
   | none => none
   | some o => match wantedV o.guard ops env with
     | some true => match eop R P md G env H o with
       | some (v, H') => eseq R P md G ops r (putE env o.dst v) H'
       | none => none
     | some false => eseq R P md G ops r (putE env o.dst (.tup [])) H
     | none => none
mutual
def AV.same : AV → AV → Bool
 | .undef, .undef => true
 | .int k n, .int k' n' => decide (k = k') && decide (n = n')
 | .bool a, .bool b => a == b
 | .str a, .str b => decide (a = b)
 | .nilp, .nilp => true
 | .ptr l i k, .ptr l' i' k' => l == l' && i == i' && k == k'
 | .iptr b cs, .iptr b' cs' => b == b' && sameL cs cs'
 | .nils, .nils => true
 | .list t r, .list t' r' => decide (t = t') && sameLL r r'
 | .row t l i n, .row t' l' i' n' => t == t' && l == l' && i == i' && n == n'
 | .sub l i k e n, .sub l' i' k' e' n' => l == l' && i == i' && k == k' && e == e' && n == n'
 | .agg cs, .agg cs' => sameL cs cs'
 | .tup cs, .tup cs' => sameL cs cs'
 | .clo f cs, .clo f' cs' => f == f' && sameL cs cs'
 | .nilf, .nilf => true
 | .nilm, .nilm => true
 | .mapr l, .mapr l' => l == l'
 | .nili, .nili => true
 | _, _ => false
def sameL : List AV → List AV → Bool
 | [], [] => true
 | x :: r, y :: s => AV.same x y && sameL r s
 | _, _ => false
def sameLL : List (List AV) → List (List AV) → Bool
 | [], [] => true
 | x :: r, y :: s => sameL x y && sameLL r s
 | _, _ => false
end
def eseqH (R : Rec) (P : Program) (md : Oper → Md) (G : Glob) (ops : Array Oper) : List Nat → List AV → Hp → Option (List Hp × List AV × Hp)
 | [], env, H => some ([], env, H)
 | i :: r, env, H => match ops[i]? with
   | none => none
   | some o => match wantedV o.guard ops env with
     | some true => match eop R P md G env H o with
       | some (v, H') => match eseqH R P md G ops r (putE env o.dst v) H' with
         | some (hs, e, H2) => some (if clsOp md o = 2 then H' :: hs else hs, e, H2)
         | none => none
       | none => none
     | some false => match eseqH R P md G ops r (putE env o.dst (.tup [])) H with
       | some (hs, e, H2) => some (if clsOp md o = 2 then H :: hs else hs, e, H2)
       | none => none
     | none => none
def echkW (R : Rec) (P : Program) (md : Oper → Md) (G : Glob) (ops : Array Oper) (wn : Nat → Nat × Nat) (h : Nat → Hp) : List Nat → List AV → Nat → Bool
 | [], env, k => true
 | i :: r, env, k => match ops[i]? with
   | none => false
   | some o => match wantedV o.guard ops env with
     | some true => match eop R P md G env (h k) o with
       | some (v, _) => if clsOp md o = 2 then decide (k = (wn i).1) && echkW R P md G ops wn h r (putE env o.dst v) (k + 1)
         else (decide ((wn i).1 ≤ k) && decide (k ≤ (wn i).2)) && ((List.range ((wn i).2 + 1)).all fun q => decide (q < (wn i).1) || match eop R P md G env (h q) o with
          | some (v', _) => AV.same v' v
          | none => false) && echkW R P md G ops wn h r (putE env o.dst v) k
       | none => false
     | some false => if clsOp md o = 2 then decide (k = (wn i).1) && echkW R P md G ops wn h r (putE env o.dst (.tup [])) (k + 1)
       else (decide ((wn i).1 ≤ k) && decide (k ≤ (wn i).2)) && echkW R P md G ops wn h r (putE env o.dst (.tup [])) k
     | none => false
def eregW (R : Rec) (P : Program) (md : Oper → Md) (G : Glob) (ops : Array Oper) (env : List AV) (H : Hp) : Option (List AV × Hp) :=
 match eseqH R P md G ops (List.range ops.size) env H with
 | some (hs, env', H') => if drawOkOf (okW md ops (winOf md ops)) ops = true ∧ echkW R P md G ops (winOf md ops) (fun q => (H :: hs).getD q []) (List.range ops.size) env 0 = true then some (env', H') else none
 | none => none
def eloop (f : List AV → Hp → Option (Exit × List AV × Hp)) : Nat → List AV → Hp → Option (Exit × List AV × Hp)
 | 0, _, _ => none
 | n + 1, env, H => match f env H with
   | some (.normal, env', H') => eloop f n env' H'
   | r => r
def ecode (R : Rec) (P : Program) (md : Oper → Md) (G : Glob) (n : Nat) : Code → List AV → Hp → Option (Exit × List AV × Hp)
 | .skip, env, H => some (.normal, env, H)
 | .label _, env, H => some (.normal, env, H)
 | .region _ ops d, env, H => match (if d = true ∧ drawOk md ops = false then eregW R P md G ops env H else eseq R P md G ops (List.range ops.size) env H) with
   | some (env', H') => some (.normal, env', H')
   | none => none
 | .seq x y, env, H => match ecode R P md G n x env H with
   | some (.normal, env', H') => ecode R P md G n y env' H'
   | r => r
 | .cond c x y, env, H => match ev G env c with
   | some (.bool b) => if b = true then ecode R P md G n x env H else ecode R P md G n y env H
   | _ => none
 | .block id c, env, H => match ecode R P md G n c env H with
   | some (.exit id', env', H') => if id' = id then some (.normal, env', H') else some (.exit id', env', H')
   | r => r
 | .loop c, env, H => eloop (ecode R P md G n c) n env H
 | .exit id, env, H => some (.exit id, env, H)
 | .ret, env, H => some (.ret, env, H)
 | _, _, _ => none
def efin (P : Program) (fn : Func) : Option (Exit × List AV × Hp) → Option (AV × Hp)
 | some (.normal, env, H) => (vres P H fn env).map (·, H)
 | some (.ret, env, H) => (vres P H fn env).map (·, H)
 | _ => none
def erun (P : Program) (md : Nat → Oper → Md) (G : Glob) (n : Nat) : Nat → Rec
 | 0, _, _, _ => none
 | d + 1, f, args, H => match P.funcs[f]? with
   | some fn => match fn.body with
     | some code => efin P fn (ecode (erun P md G n d) P (md f) G n code (args ++ List.replicate (fn.ntmps - args.length) .undef) H)
     | none => none
   | none => none
def RecOk (P : Program) (G : Glob) (R : Rec) : Prop := ∀ g xs H r H', R g xs H = some (r, H') → XS P G g xs H fun r1 H1 => r1 = r ∧ H1 = H'
section
variable {R : Rec} {P : Program} {md : Oper → Md} {G : Glob}
theorem ecallX_sound (hR : RecOk P G R) {m : Md} {g : Nat} {xs : List AV} {H H' : Hp} {r : AV} (h : ecallX R m g xs H = some (r, H')) : vcallX (XS P G) m g xs H fun r1 H1 => r1 = r ∧ H1 = H' := by
 cases m with
 | shr => exact hR _ _ _ _ _ h
 | iso =>
   simp only [ecallX, vcallX] at h ⊢
   split at h
   · rename_i ys hys
     rw [hys]
     simp only
     split at h
     · rename_i r2 H2 hr
       refine (hR _ _ _ _ _ hr).mono ?_
       rintro r1 H1 ⟨rfl, rfl⟩
       obtain ⟨z, h1, h2⟩ := map_some h
       rw [h1]
       cases h2
       exact ⟨rfl, rfl⟩
     cases h
   cases h
 | shf =>
   simp only [ecallX, vcallX] at h ⊢
   split at h
   · rename_i r2 H2 hr
     refine (hR _ _ _ _ _ hr).mono ?_
     rintro r1 H1 ⟨rfl, rfl⟩
     obtain ⟨z, h1, h2⟩ := map_some h
     obtain ⟨z1, z2⟩ := z
     rw [h1]
     cases h2
     exact ⟨rfl, rfl⟩
   cases h
theorem eop_sound (hR : RecOk P G R) {env : List AV} {H H' : Hp} {o : Oper} {r : AV} (h : eop R P md G env H o = some (r, H')) : vop (XS P G) P md G env H o fun r1 H1 => r1 = r ∧ H1 = H' := by
 obtain ⟨dst, op, type, pos, after, guard⟩ := o
 have key : ∀ (z : Option (AV × Hp)), z = some (r, H') → (match z with | some (r1, H1) => r1 = r ∧ H1 = H' | none => False) := fun z hz => by subst hz; exact ⟨rfl, rfl⟩
 cases op with
 | call c =>
   obtain ⟨callee, args, ts⟩ := c
   cases callee with
   | value f =>
     simp only [eop, vop] at h ⊢
     split at h
     · rename_i g cs xs h1 h2
       rw [h1, h2]
       simp only
       split at h
       · rename_i hen
         rw [if_pos hen]
         exact ecallX_sound hR h
       rename_i hen
       rw [if_neg hen]
       obtain ⟨x, h1, h2⟩ := Option.map_eq_some_iff.1 h
       cases h2
       exact ⟨_, h1, rfl, rfl⟩
     cases h
   | _ => exact key _ h
 | next x sb => cases h
 | _ => exact key _ h
theorem eop_keeps {env : List AV} {H H' : Hp} {o : Oper} {r : AV} (h : eop R P md G env H o = some (r, H')) (hc : clsOp md o ≠ 2) : H' = H := by
 obtain ⟨dst, op, type, pos, after, guard⟩ := o
 have key : ∀ {α : Type} (z : Option α) (f : α → AV × Hp), (∀ a, (f a).2 = H) → z.map f = some (r, H') → H' = H := by
  intro α z f hf hz
  cases z with
  | none => cases hz
  | some z => simp only [Option.map_some, Option.some.injEq] at hz; have := hf z; rw [hz] at this; exact this
 cases op with
 | move x | assign x => simp only [eop, vexec] at h; exact key _ _ (fun _ => rfl) h
 | pick a b d =>
   simp only [eop, vexec2, vexec] at h
   split at h
   · exact key _ _ (fun _ => rfl) h
   · exact key _ _ (fun _ => rfl) h
   cases h
 | buildSlice t len ps =>
   simp only [clsOp] at hc
   split at hc
   · rename_i hm
     simp only [eop, vexec2] at h
     split at h
     · rw [if_pos hm] at h
       exact key _ _ (fun _ => rfl) h
     cases h
   exact absurd rfl hc
 | nilCheck x =>
   simp only [eop, vexec2, vexec] at h
   split at h
   · split at h
     · cases h; rfl
     cases h
   cases h
 | build t ps | load t x | unOp a b x | convert a b x | fieldAddr a x b | field a x b | extract x a | binOp a b x y d | index d x y | indexAddr d x y | slice a b c d e | lookup a x y d =>
   simp only [eop, vexec2, vexec] at h
   split at h
   · exact key _ _ (fun _ => rfl) h
   cases h
 | call c =>
   obtain ⟨callee, args, ts⟩ := c
   cases callee with
   | builtin b =>
     cases b <;> first
      | exact absurd rfl hc
      | (simp only [eop, vexec2, vexec] at h
         split at h
         · unfold vbuiltin at h
           split at h <;> first
            | (split at h
               · exact key _ _ (fun _ => rfl) h
               cases h)
            | exact key _ _ (fun _ => rfl) h
            | cases h
            | contradiction
         cases h)
   | value f =>
     simp only [clsOp] at hc
     split at hc
     · rename_i hm
       simp only [eop] at h
       split at h
       · split at h
         · rw [hm] at h
           simp only [ecallX] at h
           split at h
           · split at h
             · exact key _ _ (fun _ => rfl) h
             cases h
           cases h
         obtain ⟨x, h1, h2⟩ := Option.map_eq_some_iff.1 h
         cases h2; rfl
       cases h
     exact absurd rfl hc
   | invoke a b => exact absurd rfl hc
 | _ => exact absurd rfl hc
theorem eseq_vseq (hR : RecOk P G R) {ops : Array Oper} {K : List AV → Hp → Prop} : ∀ (l : List Nat) (env : List AV) (H : Hp) (env' : List AV) (H' : Hp), eseq R P md G ops l env H = some (env', H') → K env' H' → vseq (XS P G) P md G ops l env H K
 | [], env, H, env', H', h, hK => by cases h; exact ⟨_, Wk.refl _, hK⟩
 | i :: r, env, H, env', H', h, hK => by
   simp only [eseq] at h
   simp only [vseq]
   refine ⟨env, Wk.refl _, ?_⟩
   cases ho : ops[i]? with
   | none => rw [ho] at h; cases h
   | some o =>
     rw [ho] at h
     simp only at h ⊢
     cases hw : wantedV o.guard ops env with
     | none => rw [hw] at h; cases h
     | some b =>
       rw [hw] at h
       cases b with
       | true =>
         simp only at h ⊢
         split at h
         · rename_i v H1 hv
           refine vop_mono (eop_sound hR hv) ?_
           rintro _ _ ⟨rfl, rfl⟩
           exact eseq_vseq hR r _ _ env' H' h hK
         cases h
       | false => exact eseq_vseq hR r _ _ env' H' h hK
theorem eseq_vseqD (hR : RecOk P G R) {ops : Array Oper} {K : List AV → Hp → Prop} : ∀ (l : List Nat) (env : List AV) (H : Hp) (env' : List AV) (H' : Hp), eseq R P md G ops l env H = some (env', H') → K env' H' → vseqD (XS P G) P md G ops l env H K
 | [], env, H, env', H', h, hK => by cases h; exact hK
 | i :: r, env, H, env', H', h, hK => by
   simp only [eseq] at h
   simp only [vseqD]
   cases ho : ops[i]? with
   | none => rw [ho] at h; cases h
   | some o =>
     rw [ho] at h
     simp only at h ⊢
     cases hw : wantedV o.guard ops env with
     | none => rw [hw] at h; cases h
     | some b =>
       rw [hw] at h
       cases b with
       | true =>
         simp only at h ⊢
         split at h
         · rename_i v H1 hv
           by_cases hc : clsOp md o = 2
           · rw [if_pos hc]
             exact ⟨v, H1, eop_sound hR hv, eseq_vseqD hR r _ _ env' H' h hK⟩
           rw [if_neg hc]
           have := eop_keeps hv hc
           subst this
           exact ⟨v, eop_sound hR hv, eseq_vseqD hR r _ _ env' H' h hK⟩
         cases h
       | false => exact eseq_vseqD hR r _ _ env' H' h hK
mutual
theorem AV.same_eq : ∀ {a b : AV}, AV.same a b = true → a = b := by
 intro a b h
 cases a <;> cases b <;> simp only [AV.same, Bool.and_eq_true, beq_iff_eq, decide_eq_true_eq, Bool.false_eq_true] at h <;> first
  | rfl
  | (cases h; done)
  | (subst h; rfl)
  | (obtain ⟨rfl, rfl⟩ := h; rfl)
  | (obtain ⟨⟨rfl, rfl⟩, rfl⟩ := h; rfl)
  | (obtain ⟨⟨⟨rfl, rfl⟩, rfl⟩, rfl⟩ := h; rfl)
  | (obtain ⟨⟨⟨⟨rfl, rfl⟩, rfl⟩, rfl⟩, rfl⟩ := h; rfl)
  | (obtain ⟨rfl, h2⟩ := h; rw [sameL_eq h2])
  | (obtain ⟨rfl, h2⟩ := h; rw [sameLL_eq h2])
  | (rw [sameL_eq h])
theorem sameL_eq : ∀ {a b : List AV}, sameL a b = true → a = b
 | [], [], _ => rfl
 | [], _ :: _, h => by simp [sameL] at h
 | _ :: _, [], h => by simp [sameL] at h
 | x :: r, y :: s, h => by
   simp only [sameL, Bool.and_eq_true] at h
   rw [AV.same_eq h.1, sameL_eq h.2]
theorem sameLL_eq : ∀ {a b : List (List AV)}, sameLL a b = true → a = b
 | [], [], _ => rfl
 | [], _ :: _, h => by simp [sameLL] at h
 | _ :: _, [], h => by simp [sameLL] at h
 | x :: r, y :: s, h => by
   simp only [sameLL, Bool.and_eq_true] at h
   rw [sameL_eq h.1, sameLL_eq h.2]
end
theorem eseqH_seqW (hR : RecOk P G R) {ops : Array Oper} {wn : Nat → Nat × Nat} {h : Nat → Hp} {K : List AV → Nat → Prop} : ∀ (l : List Nat) (env : List AV) (H : Hp) (k : Nat) (hs : List Hp) (env' : List AV) (H' : Hp),
 eseqH R P md G ops l env H = some (hs, env', H') → (∀ j x, (H :: hs)[j]? = some x → h (k + j) = x) → echkW R P md G ops wn h l env k = true → (h (k + hs.length) = H' → K env' (k + hs.length)) → vseqW (XS P G) P md G ops wn h l env k K
 | [], env, H, k, hs, env', H', he, hh, hc, hK => by
   simp only [eseqH, Option.some.injEq, Prod.mk.injEq] at he
   obtain ⟨rfl, rfl, rfl⟩ := he
   exact hK (hh 0 H rfl)
 | i :: r, env, H, k, hs, env', H', he, hh, hc, hK => by
   have hk : h k = H := hh 0 H rfl
   simp only [eseqH] at he
   simp only [echkW] at hc
   simp only [vseqW]
   cases ho : ops[i]? with
   | none => rw [ho] at he; cases he
   | some o =>
     rw [ho] at he hc
     simp only at he hc ⊢
     cases hw : wantedV o.guard ops env with
     | none => rw [hw] at he; cases he
     | some b =>
       rw [hw] at he hc
       cases b with
       | true =>
         simp only at he hc ⊢
         rw [hk] at hc
         cases hv : eop R P md G env H o with
         | none => rw [hv] at he; cases he
         | some p =>
           obtain ⟨v, H1⟩ := p
           rw [hv] at he hc
           simp only at he hc
           cases hr : eseqH R P md G ops r (putE env o.dst v) H1 with
           | none => rw [hr] at he; cases he
           | some q =>
             obtain ⟨hs1, e1, H2⟩ := q
             rw [hr] at he
             simp only [Option.some.injEq, Prod.mk.injEq] at he
             obtain ⟨g1, rfl, rfl⟩ := he
             by_cases hcl : clsOp md o = 2
             · rw [if_pos hcl] at g1 hc ⊢
               subst g1
               simp only [Bool.and_eq_true, decide_eq_true_eq] at hc
               refine ⟨hc.1, v, ?_, eseqH_seqW hR r _ H1 (k + 1) hs1 _ _ hr (fun j x hx => ?_) hc.2 (fun hf => ?_)⟩
               · rw [hk, hh 1 H1 rfl]
                 exact eop_sound hR hv
               · have := hh (j + 1) x hx
                 rw [← this]
                 congr 1
                 omega
               have e : k + 1 + hs1.length = k + (H1 :: hs1).length := by simp; omega
               rw [e] at hf ⊢
               exact hK hf
             rw [if_neg hcl] at g1 hc ⊢
             subst g1
             have := eop_keeps hv hcl
             subst this
             simp only [Bool.and_eq_true, decide_eq_true_eq, List.all_eq_true, List.mem_range, Bool.or_eq_true] at hc
             obtain ⟨⟨c1, c2⟩, c3⟩ := hc
             refine ⟨c1, v, fun q l1 l2 => ?_, eseqH_seqW hR r _ H1 k hs1 _ _ hr hh c3 hK⟩
             have := (c2 q (by omega)).resolve_left (by omega)
             split at this
             · rename_i v' H3 hv'
               have e := AV.same_eq this
               subst e
               have := eop_keeps hv' hcl
               subst this
               exact eop_sound hR hv'
             cases this
       | false =>
         simp only at he hc ⊢
         cases hr : eseqH R P md G ops r (putE env o.dst (.tup [])) H with
         | none => rw [hr] at he; cases he
         | some q =>
           obtain ⟨hs1, e1, H2⟩ := q
           rw [hr] at he
           simp only [Option.some.injEq, Prod.mk.injEq] at he
           obtain ⟨g1, rfl, rfl⟩ := he
           by_cases hcl : clsOp md o = 2
           · rw [if_pos hcl] at g1 hc ⊢
             subst g1
             simp only [Bool.and_eq_true, decide_eq_true_eq] at hc
             refine ⟨hc.1, by rw [hk, hh 1 H rfl], eseqH_seqW hR r _ H (k + 1) hs1 _ _ hr (fun j x hx => ?_) hc.2 (fun hf => ?_)⟩
             · have := hh (j + 1) x hx
               rw [← this]
               congr 1
               omega
             have e : k + 1 + hs1.length = k + (H :: hs1).length := by simp; omega
             rw [e] at hf ⊢
             exact hK hf
           rw [if_neg hcl] at g1 hc ⊢
           subst g1
           simp only [Bool.and_eq_true, decide_eq_true_eq] at hc
           exact ⟨hc.1, eseqH_seqW hR r _ H k hs1 _ _ hr hh hc.2 hK⟩
theorem eregW_sound (hR : RecOk P G R) {ops : Array Oper} {env env' : List AV} {H H' : Hp} {K : List AV → Hp → Prop} (he : eregW R P md G ops env H = some (env', H')) (hK : K env' H') : vregW (XS P G) P md G ops env H K := by
 unfold eregW at he
 split at he
 · rename_i hs e1 H1 h1
   split at he
   · rename_i hc
     cases he
     refine ⟨hc.1, hs, eseqH_seqW hR _ _ H 0 hs _ _ h1 (fun j x hx => ?_) hc.2 (fun hf => ?_)⟩
     · simp only [Nat.zero_add]
       rw [List.getD_eq_getElem?_getD, hx]
       rfl
     have hf : (H :: hs).getD (0 + hs.length) [] = H' := hf
     show K env' ((H :: hs).getD (0 + hs.length) [])
     rw [hf]
     exact hK
   cases he
 cases he
theorem ecode_sound (hR : RecOk P G R) {n nb : Nat} : ∀ (code : Code) (Q : Qv) (env : List AV) (H : Hp) (e : Exit) (env' : List AV) (H' : Hp), ecode R P md G n code env H = some (e, env', H') → Q e env' H' → vcode (XS P G) P md G nb code Q env H
 | .skip, Q, env, H, e, env', H', h, hQ => by cases h; exact hQ
 | .label _, Q, env, H, e, env', H', h, hQ => by cases h; exact hQ
 | .exit _, Q, env, H, e, env', H', h, hQ => by cases h; exact hQ
 | .ret, Q, env, H, e, env', H', h, hQ => by cases h; exact hQ
 | .region _ ops false, Q, env, H, e, env', H', h, hQ => by
   simp only [ecode, Bool.false_eq_true, false_and, if_false] at h
   split at h
   · rename_i e1 H1 hs
     cases h
     exact eseq_vseq hR _ _ _ _ _ hs hQ
   cases h
 | .region _ ops true, Q, env, H, e, env', H', h, hQ => by
   simp only [ecode, true_and] at h
   split at h
   · rename_i e1 H1 hs
     cases h
     split at hs
     · exact .inr (.inl (eregW_sound hR hs hQ))
     rename_i hd
     exact .inl ⟨by simpa using hd, eseq_vseqD hR _ _ _ _ _ hs hQ⟩
   cases h
 | .seq x y, Q, env, H, e, env', H', h, hQ => by
   simp only [ecode] at h
   refine .inl ?_
   split at h
   · rename_i e1 H1 hx
     exact ecode_sound hR x _ env H .normal e1 H1 hx (ecode_sound hR y Q e1 H1 e env' H' h hQ)
   rename_i hne
   refine ecode_sound hR x _ env H e env' H' h ?_
   cases e with
   | normal => exact absurd h (hne _ _)
   | _ => exact hQ
 | .cond c x y, Q, env, H, e, env', H', h, hQ => by
   simp only [ecode] at h
   simp only [vcode]
   split at h
   · rename_i b hb
     rw [hb]
     simp only
     split at h
     · rename_i hb2; rw [if_pos hb2]; exact ecode_sound hR x Q env H e env' H' h hQ
     rename_i hb2; rw [if_neg hb2]; exact ecode_sound hR y Q env H e env' H' h hQ
   cases h
 | .block id c, Q, env, H, e, env', H', h, hQ => by
   simp only [ecode] at h
   split at h
   · rename_i id' e1 H1 hx
     refine ecode_sound hR c _ env H (.exit id') e1 H1 hx ?_
     simp only [blockQ]
     split at h
     · rename_i hid; cases h; rw [if_pos hid]; exact hQ
     rename_i hid; cases h; rw [if_neg hid]; exact hQ
   rename_i hne
   refine ecode_sound hR c _ env H e env' H' h ?_
   cases e with
   | exit id' => exact absurd h (hne _ _ _)
   | _ => exact hQ
 | .loop c, Q, env, H, e, env', H', h, hQ => by
   intro Y hY _ _ _
   have key : ∀ (m : Nat) (env : List AV) (H : Hp), eloop (ecode R P md G n c) m env H = some (e, env', H') → Y env H := by
    intro m
    induction m with
    | zero => intro env H h; cases h
    | succ m ih =>
      intro env H h
      simp only [eloop] at h
      split at h
      · rename_i e1 H1 hx
        exact hY _ _ (ecode_sound hR c _ env H .normal e1 H1 hx (ih _ _ h))
      rename_i hne
      refine hY _ _ (ecode_sound hR c _ env H e env' H' h ?_)
      cases e with
      | normal => exact absurd h (hne _ _)
      | _ => exact hQ
   exact key n env H h
 | .rangeFunc .., Q, env, H, e, env', H', h, hQ => by cases h
 | .scope .., Q, env, H, e, env', H', h, hQ => by cases h
 | .goto .., Q, env, H, e, env', H', h, hQ => by cases h
 | .refuse .., Q, env, H, e, env', H', h, hQ => by cases h
end
theorem erun_ok (P : Program) (md : Nat → Oper → Md) (G : Glob) (n : Nat) : ∀ (d : Nat), RecOk P G (erun P md G n d)
 | 0 => fun g xs H r H' h => by cases h
 | d + 1 => fun f args H r H' h => by
   simp only [erun] at h
   split at h
   · rename_i fn hf
     split at h
     · rename_i code hb
       refine (XS.pre P G).body f fn code (md f) args H _ hf hb ?_
       generalize hc : ecode (erun P md G n d) P (md f) G n code (args ++ List.replicate (fn.ntmps - args.length) .undef) H = res at h
       cases res with
       | none => cases h
       | some p =>
         obtain ⟨e, env', H1⟩ := p
         refine ecode_sound (erun_ok P md G n d) code _ _ H e env' H1 hc ?_
         cases e <;> first
          | (obtain ⟨z, h1, h2⟩ := map_some h
             simp only [fnQ, h1]
             cases h2
             exact ⟨rfl, rfl⟩)
          | (cases h; done)
     cases h
   cases h
end Go.Vi
namespace Go.Vi
def vops (P : Program) (G : Glob) (md : Oper → Md) (ops : Array Oper) : List Oper → List AV → Hp → (List AV → Hp → Prop) → Prop
 | [], env, H, K => ∃ env', Wk env env' ∧ K env' H
 | o :: r, env, H, K => ∃ env', Wk env env' ∧ match wantedV o.guard ops env' with
   | some true => vop (XS P G) P md G env' H o fun v H1 => vops P G md ops r (putE env' o.dst v) H1 K
   | some false => vops P G md ops r (putE env' o.dst (.tup [])) H K
   | none => False
theorem vops_seq {P : Program} {G : Glob} {md : Oper → Md} {ops : Array Oper} {K : List AV → Hp → Prop} : ∀ (n : Nat) (i : Nat) (env : List AV) (H : Hp), i + n = ops.size → vops P G md ops (ops.toList.drop i) env H K → vseq (XS P G) P md G ops (List.range' i n) env H K
 | 0, i, env, H, hn, h => by
   rw [List.drop_of_length_le (by simp; omega)] at h
   exact h
 | n + 1, i, env, H, hn, h => by
   have hi : i < ops.size := by omega
   rw [List.drop_eq_getElem_cons (by simpa using hi)] at h
   simp only [vops, Array.getElem_toList] at h
   simp only [List.range'_succ, vseq, Array.getElem?_eq_getElem hi]
   obtain ⟨e1, hw1, h⟩ := h
   refine ⟨e1, hw1, ?_⟩
   split at h
   · rename_i hw
     rw [hw]
     refine vop_mono h fun v H1 hk => ?_
     exact vops_seq n (i + 1) _ _ (by omega) hk
   · rename_i hw
     rw [hw]
     exact vops_seq n (i + 1) _ _ (by omega) h
   exact h.elim
def vopsD (P : Program) (G : Glob) (md : Oper → Md) (ops : Array Oper) : List Oper → List AV → Hp → (List AV → Hp → Prop) → Prop
 | [], env, H, K => K env H
 | o :: r, env, H, K => match wantedV o.guard ops env with
   | some true => if clsOp md o = 2 then ∃ v H', vop (XS P G) P md G env H o (fun v1 H1 => v1 = v ∧ H1 = H') ∧ vopsD P G md ops r (putE env o.dst v) H' K
     else ∃ v, vop (XS P G) P md G env H o (fun v1 H1 => v1 = v ∧ H1 = H) ∧ vopsD P G md ops r (putE env o.dst v) H K
   | some false => vopsD P G md ops r (putE env o.dst (.tup [])) H K
   | none => False
theorem vopsD_seq {P : Program} {G : Glob} {md : Oper → Md} {ops : Array Oper} {K : List AV → Hp → Prop} : ∀ (n : Nat) (i : Nat) (env : List AV) (H : Hp), i + n = ops.size → vopsD P G md ops (ops.toList.drop i) env H K → vseqD (XS P G) P md G ops (List.range' i n) env H K
 | 0, i, env, H, hn, h => by
   rw [List.drop_of_length_le (by simp; omega)] at h
   exact h
 | n + 1, i, env, H, hn, h => by
   have hi : i < ops.size := by omega
   rw [List.drop_eq_getElem_cons (by simpa using hi)] at h
   simp only [vopsD, Array.getElem_toList] at h
   simp only [List.range'_succ, vseqD, Array.getElem?_eq_getElem hi]
   split at h
   · rename_i hw
     rw [hw]
     simp only
     split at h
     · rename_i hc
       rw [if_pos hc]
       obtain ⟨v, H', h1, h2⟩ := h
       exact ⟨v, H', h1, vopsD_seq n (i + 1) _ _ (by omega) h2⟩
     rename_i hc
     rw [if_neg hc]
     obtain ⟨v, h1, h2⟩ := h
     exact ⟨v, h1, vopsD_seq n (i + 1) _ _ (by omega) h2⟩
   · rename_i hw
     rw [hw]
     exact vopsD_seq n (i + 1) _ _ (by omega) h
   exact h.elim
section
variable {P : Program} {G : Glob} {md : Oper → Md} {nb : Nat} {Q : Qv} {env : List AV} {H : Hp}
theorem wrap_nat {n : Nat} (h : n < 9223372036854775808) : IntKind.i64.wrap (n : Int) = n := IntWalk.i64_in _ ⟨by omega, by omega⟩
theorem wrap_succ {n : Nat} (h : n + 1 < 9223372036854775808) : IntKind.i64.wrap ((n : Int) + 1) = ((n + 1 : Nat) : Int) := by
 rw [show ((n : Int) + 1) = ((n + 1 : Nat) : Int) by omega]
 exact wrap_nat h
theorem int_succ {n : Nat} (h : n + 1 < 9223372036854775808) : AV.int .i64 (IntKind.i64.wrap ((n : Int) + 1)) = .int .i64 ((n + 1 : Nat) : Int) := by rw [wrap_succ h]
def vc (P : Program) (G : Glob) (md : Oper → Md) (nb : Nat) (c : Code) (Q : Qv) (env : List AV) (H : Hp) : Prop := vcode (XS P G) P md G nb c Q env H
theorem vc_seq {x y : Code} (h : vc P G md nb x (thenQ (fun env H => vc P G md nb y Q env H) Q) env H) : vc P G md nb (.seq x y) Q env H := .inl h
theorem vc_join {x y : Code} (J : List AV → Hp → Prop) (h : vc P G md nb x (thenQ (Lv nb J) Q) env H) (hJ : ∀ env H, nb ≤ H.length → J env H → vc P G md nb y Q env H) : vc P G md nb (.seq x y) Q env H := .inr ⟨J, h, hJ⟩
theorem vc_region {id : Nat} {ops : Array Oper} (h : vops P G md ops ops.toList env H (Q .normal)) : vc P G md nb (.region id ops false) Q env H := by
 have := vops_seq ops.size 0 env H (by omega) h
 rw [← List.range_eq_range'] at this
 exact this
theorem vc_regionD {id : Nat} {ops : Array Oper} (hd : drawOk md ops = true) (h : vopsD P G md ops ops.toList env H (Q .normal)) : vc P G md nb (.region id ops true) Q env H := by
 have := vopsD_seq ops.size 0 env H (by omega) h
 rw [← List.range_eq_range'] at this
 exact .inl ⟨hd, this⟩
theorem vc_cond {c : Operand} {x y : Code} {b : Bool} (hb : ev G env c = some (.bool b)) (ht : b = true → vc P G md nb x Q env H) (hf : b = false → vc P G md nb y Q env H) : vc P G md nb (.cond c x y) Q env H := by
 unfold vc
 simp only [vcode, hb]
 cases b
 · have := hf rfl
   unfold vc at this
   simpa using this
 have := ht rfl
 unfold vc at this
 simpa using this
theorem vc_true {c : Operand} {x y : Code} (hb : ev G env c = some (.bool true)) (h : vc P G md nb x Q env H) : vc P G md nb (.cond c x y) Q env H := vc_cond hb (fun _ => h) (fun h => by cases h)
theorem vc_false {c : Operand} {x y : Code} (hb : ev G env c = some (.bool false)) (h : vc P G md nb y Q env H) : vc P G md nb (.cond c x y) Q env H := vc_cond hb (fun h => by cases h) (fun _ => h)
theorem vc_block {id : Nat} {c : Code} (h : vc P G md nb c (blockQ id Q) env H) : vc P G md nb (.block id c) Q env H := h
theorem vc_skip (h : Q .normal env H) : vc P G md nb .skip Q env H := h
theorem vc_exit {id : Nat} (h : Q (.exit id) env H) : vc P G md nb (.exit id) Q env H := h
theorem vc_ret (h : Q .ret env H) : vc P G md nb .ret Q env H := h
theorem vc_loop {α : Type} {c : Code} (E : α → List AV) (Hf : α → Hp) (μ : α → Nat) (a0 : α) (h0 : Wk env (E a0)) (hH : H = Hf a0)
 (hcl : ∀ a, nb ≤ (Hf a).length ∧ envB (Hf a).length (E a) ∧ heapB (Hf a).length (Hf a))
 (step : ∀ (a : α) (Y : List AV → Hp → Prop), (∀ a', μ a' < μ a → ∀ env' H' g, Wk env' (E a') → H' = Hf a' ++ g → Y env' H') → vc P G md nb c (thenQ Y Q) (E a) (Hf a)) : vc P G md nb (.loop c) Q env H := by
 intro Y hY hw hd _
 have key : ∀ (n : Nat) (a : α), μ a = n → Y (E a) (Hf a) := by
  intro n
  induction n using Nat.strongRecOn with
  | _ n ih =>
    intro a ha
    refine hY _ _ (step a Y fun a' hlt env' H' g hwk hH' => ?_)
    subst hH'
    obtain ⟨c1, c2, c3⟩ := hcl a'
    exact hw _ _ _ hwk (hd _ _ _ c1 c2 c3 (ih (μ a') (by omega) a' rfl))
 subst hH
 exact hw _ _ _ h0 (key _ a0 rfl)
theorem vc_loopR {α : Type} {c : Code} (E : α → List AV) (Hf : α → Hp) (μ : α → Nat) (a0 : α) (σ0 : List Nat) (h0 : RenE σ0 (E a0) env) (hnd : σ0.Nodup) (hlow : ∀ l, l < nb → σ0[l]? = some l) (hobj : RenH σ0 H σ0 (Hf a0))
 (hcl : ∀ a, nb ≤ (Hf a).length ∧ (∀ y ∈ E a, valN nb (Hf a) y) ∧ (∀ o ∈ Hf a, objN nb (Hf a) o))
 (step : ∀ (a : α) (Y : List AV → Hp → Prop), (∀ a', μ a' < μ a → ∀ env' H' σ, RenE σ (E a') env' → σ.Nodup → (∀ l, l < nb → σ[l]? = some l) → RenH σ H' σ (Hf a') → Y env' H') → vc P G md nb c (thenQ Y Q) (E a) (Hf a)) : vc P G md nb (.loop c) Q env H := by
 intro Y hY hw _ hren
 have key : ∀ (n : Nat) (a : α), μ a = n → Y (E a) (Hf a) := by
  intro n
  induction n using Nat.strongRecOn with
  | _ n ih =>
    intro a ha
    refine hY _ _ (step a Y fun a' hlt env' H' σ he hnd hlow hobj => ?_)
    obtain ⟨c1, c2, c3⟩ := hcl a'
    exact hren _ _ _ _ σ ⟨hnd, hlow, hobj, c3, c1⟩ he c2 (ih (μ a') (by omega) a' rfl)
 obtain ⟨c1, c2, c3⟩ := hcl a0
 exact hren _ _ _ _ σ0 ⟨hnd, hlow, hobj, c3, c1⟩ h0 c2 (key _ a0 rfl)
variable {ops : Array Oper} {o : Oper} {r : List Oper} {K : List AV → Hp → Prop}
theorem vo_nil (h : K env H) : vops P G md ops [] env H K := ⟨_, Wk.refl _, h⟩
theorem vo_op {v : AV} {H' : Hp} (hg : wantedV o.guard ops env = some true) (ho : ∀ k, (match vexec2 P md (ev G env) H o with | some (r, H') => k r H' | none => False) → vop (XS P G) P md G env H o k) (hx : vexec2 P md (ev G env) H o = some (v, H')) (h : vops P G md ops r (putE env o.dst v) H' K) : vops P G md ops (o :: r) env H K := by
 refine ⟨env, Wk.refl _, ?_⟩
 simp only [hg]
 apply ho
 rw [hx]
 exact h
theorem vo_skip (hg : wantedV o.guard ops env = some false) (h : vops P G md ops r (putE env o.dst (.tup [])) H K) : vops P G md ops (o :: r) env H K := by
 refine ⟨env, Wk.refl _, ?_⟩
 simp only [hg]
 exact h
theorem vo_call {f : Operand} {args : Array Operand} {ts : Array TypeId} {g : Nat} {cs xs : List AV} (hg : wantedV o.guard ops env = some true) (ho : o.op = .call ⟨.value f, args, ts⟩) (hf : ev G env f = some (.clo g cs)) (hx : evL (ev G env) args.toList = some xs) (he : enterOk P g = true)
 (h : vcallX (XS P G) (md o) g (xs ++ cs) H fun v H1 => vops P G md ops r (putE env o.dst v) H1 K) : vops P G md ops (o :: r) env H K := by
 refine ⟨env, Wk.refl _, ?_⟩
 simp only [hg, vop, ho, hf, hx, he, if_true]
 exact h
theorem w_region {id : Nat} {l : List Oper} (h : vops P G md l.toArray l env H (Q .normal)) : vc P G md nb (.region id l.toArray false) Q env H := vc_region h
theorem w_regionD {id : Nat} {l : List Oper} (hd : drawOk md l.toArray = true) (h : vopsD P G md l.toArray l env H (Q .normal)) : vc P G md nb (.region id l.toArray true) Q env H := vc_regionD hd h
theorem w_opN {d : Tmp} {op : Op} {ty : TypeId} {pos : String} {aft : Array Edge} {g : Option (Nat × Bool)} {v : AV} {H' : Hp} {env' : List AV} (hg : wantedV g ops env = some true) (hx : vexec2 P md (ev G env) H ⟨some d, op, ty, pos, aft, g⟩ = some (v, H')) (he : env.set d v = env')
 (ho : ∀ k, (match vexec2 P md (ev G env) H ⟨some d, op, ty, pos, aft, g⟩ with | some (r, H') => k r H' | none => False) → vop (XS P G) P md G env H ⟨some d, op, ty, pos, aft, g⟩ k)
 (h : vops P G md ops r env' H' K) : vops P G md ops (⟨some d, op, ty, pos, aft, g⟩ :: r) env H K := by subst he; exact vo_op hg ho hx h
theorem w_skipN {d : Tmp} {op : Op} {ty : TypeId} {pos : String} {aft : Array Edge} {g : Option (Nat × Bool)} {env' : List AV} (hg : wantedV g ops env = some false) (he : env.set d (.tup []) = env')
 (h : vops P G md ops r env' H K) : vops P G md ops (⟨some d, op, ty, pos, aft, g⟩ :: r) env H K := by subst he; exact vo_skip hg h
def IsL (x : AV) : Prop := x = .nils ∨ ∃ t rows, x = .list t rows
def lrows (x : AV) : List (List AV) := match x with
 | .list _ rows => rows
 | _ => []
theorem w_end {K' : List AV → Hp → Prop} {env' : List AV} (he : env = env') (h : K' env' H) : vops P G md ops [] env H (thenQ K' Q .normal) := by subst he; exact vo_nil h
theorem w_endB {id : Nat} {env' : List AV} (he : env = env') (h : Q .normal env' H) : vops P G md ops [] env H (blockQ id Q .normal) := by subst he; exact vo_nil h
theorem n_then {K' : List AV → Hp → Prop} (h : K' env H) : thenQ K' Q .normal env H := h
theorem n_block {id : Nat} (h : Q .normal env H) : blockQ id Q .normal env H := h
theorem x_then {K' : List AV → Hp → Prop} {id : Nat} (h : Q (.exit id) env H) : thenQ K' Q (.exit id) env H := h
theorem x_same {id : Nat} (h : Q .normal env H) : blockQ id Q (.exit id) env H := by simp only [blockQ, if_true]; exact h
theorem r_then {K' : List AV → Hp → Prop} (h : Q .ret env H) : thenQ K' Q .ret env H := h
theorem r_block {id : Nat} (h : Q .ret env H) : blockQ id Q .ret env H := h
theorem r_fn {fn : Func} {KK : AV → Hp → Prop} {x : AV} (hv : vres P H fn env = some x) (h : KK x H) : fnQ P fn KK .ret env H := by
 simp only [fnQ, hv]
 exact h
theorem n_fn {fn : Func} {KK : AV → Hp → Prop} {x : AV} (hv : vres P H fn env = some x) (h : KK x H) : fnQ P fn KK .normal env H := by
 simp only [fnQ, hv]
 exact h
def Fn (P : Program) (G : Glob) (g : Nat) (ys : List AV) (r' : AV) : Prop := XS P G g ys [] fun r H2 => retv H2 r = some r'
theorem call_iso {g : Nat} {xs ys : List AV} {r' : AV} {k : AV → Hp → Prop} (hl : mapL (lend H) xs = some ys) (hf : Fn P G g ys r') (h : k r' H) : vcallX (XS P G) .iso g xs H k := by
 simp only [vcallX, hl]
 refine XS.mono hf fun r H2 hr => ?_
 rw [hr]
 exact h
theorem fn_body {f : Nat} {fn : Func} {code : Code} {args : List AV} {r' : AV} (md : Oper → Md) (hf : P.funcs[f]? = some fn) (hb : fn.body = some code)
 (h : vc P G md 0 code (fnQ P fn fun r H2 => retv H2 r = some r') (args ++ List.replicate (fn.ntmps - args.length) .undef) []) : Fn P G f args r' :=
 (XS.pre P G).body f fn code md args [] _ hf hb h
end
end Go.Vi
namespace Go.Vi
def updL : List AV → List (Option AV) → List AV
 | [], _ => []
 | x :: r, [] => x :: r
 | x :: r, none :: s => x :: updL r s
 | _ :: r, some y :: s => y :: updL r s
section
variable {P : Program} {G : Glob} {md : Oper → Md} {nb : Nat} {Q : Qv} {env : List AV} {H : Hp} {ops : Array Oper} {r : List Oper} {K : List AV → Hp → Prop}
theorem wanted_t {j : Nat} {want : Bool} (gs : Nat) (hd : (ops[j]?).bind (·.dst) = some gs) (hb : env[gs]? = some (.bool want)) : wantedV (some (j, want)) ops env = some true := by
 simp only [wantedV, hd, Option.bind_some, hb]; simp
theorem wanted_f {j : Nat} {want : Bool} (gs : Nat) (hd : (ops[j]?).bind (·.dst) = some gs) (hb : env[gs]? = some (.bool (!want))) : wantedV (some (j, want)) ops env = some false := by
 simp only [wantedV, hd, Option.bind_some, hb]; simp
theorem wanted_k {j : Nat} {want : Bool} (gs : Nat) (hd : (ops[j]?).bind (·.dst) = some gs) (hb : env[gs]? = some (.tup [])) : wantedV (some (j, want)) ops env = some false := by
 simp only [wantedV, hd, Option.bind_some, hb]
theorem vc_norm {c : Code} {env' : List AV} {H' : Hp} (he : env = env') (hH : H = H') (h : vc P G md nb c Q env' H') : vc P G md nb c Q env H := by subst he; subst hH; exact h
theorem vc_loopU {α : Type} {c : Code} (f : α → List (Option AV)) (μ : α → Nat) (a0 : α) (h0 : Wk env (updL env (f a0)))
 (hcl : ∀ a, nb ≤ H.length ∧ envB H.length (updL env (f a)) ∧ heapB H.length H)
 (step : ∀ (a : α) (Y : List AV → Hp → Prop), (∀ a', μ a' < μ a → ∀ env' H' g, Wk env' (updL env (f a')) → H' = H ++ g → Y env' H') → vc P G md nb c (thenQ Y Q) (updL env (f a)) H) : vc P G md nb (.loop c) Q env H :=
 vc_loop (fun a => updL env (f a)) (fun _ => H) μ a0 h0 rfl hcl step
theorem leafB_lent {n : Nat} {x : AV} (h : lend0 [] x = some x) : leafB n x := by
 cases x with
 | ptr l i k => simp [lend0] at h
 | row t l i m => simp [lend0, rowsOf] at h
 | sub l i k es m => simp [lend0, rowsOf] at h
 | mapr l => cases h
 | agg cs => cases h
 | tup cs => cases h
 | iface t v => cases h
 | clo f cs =>
   cases cs with
   | nil => rfl
   | cons a r => cases h
 | _ => trivial
theorem cellsB_lent {n : Nat} : ∀ {cs : List AV}, mapL (lend0 []) cs = some cs → cellsB n cs
 | [], _ => trivial
 | x :: r, h => by
   unfold mapL at h
   split at h
   · rename_i y ys h1 h2
     cases h
     exact ⟨leafB_lent h1, cellsB_lent h2⟩
   cases h
theorem IsL.below {n : Nat} {x : AV} (h : IsL x) : leafB n x := by
 rcases h with rfl | ⟨t, rows, rfl⟩ <;> trivial
theorem IsL.belowV {n : Nat} {x : AV} (h : IsL x) : valB n x := by
 rcases h with rfl | ⟨t, rows, rfl⟩ <;> trivial
theorem isVal_int {k : IntKind} {n : Int} : (AV.int k n).isVal = true := rfl
theorem isVal_bool {b : Bool} : (AV.bool b).isVal = true := rfl
theorem isVal_str {b : ByteArray} : (AV.str b).isVal = true := rfl
theorem isVal_nils : AV.nils.isVal = true := rfl
theorem mapL_nil {α β : Type} {f : α → Option β} : mapL f [] = some [] := rfl
theorem mapL_cons {α β : Type} {f : α → Option β} {x : α} {y : β} {r : List α} {ys : List β} (h1 : f x = some y) (h2 : mapL f r = some ys) : mapL f (x :: r) = some (y :: ys) := by simp only [mapL, h1, h2]
theorem mapL_app {α β : Type} {f : α → Option β} {x : α} {y : β} {r : List α} {ys : List β} (h1 : f x = some y) (h2 : mapL f r = some ys) : mapL f ([x] ++ r) = some (y :: ys) := by simp only [List.cons_append, List.nil_append, mapL, h1, h2]
theorem lend_agg {cs ys : List AV} (h : mapL (lend0 H) cs = some ys) : lend H (.agg cs) = some (.agg ys) := by simp only [lend, h, Option.map_some]
theorem lend_cloG {g : Nat} {cs ys : List AV} (h : mapL (lend0 H) cs = some ys) : lend H (.clo g cs) = some (.clo g ys) := by simp only [lend, h, Option.map_some]
theorem lend0_ptr {l i k : Nat} {T : TypeId} {sz : Nat} {rows : List (List AV)} {r : List AV} (hl : H[l]? = some (.arr T sz rows)) (hr : rows[i]? = some r) (hv : (r.drop k).all AV.isVal = true) : lend0 H (.ptr l i k) = some (.iptr true (r.drop k)) := by
 simp only [lend0, hl, hr]
 rw [if_pos hv]
theorem lend_ptr {l i k : Nat} {T : TypeId} {sz : Nat} {rows : List (List AV)} {r : List AV} (hl : H[l]? = some (.arr T sz rows)) (hr : rows[i]? = some r) (hv : (r.drop k).all AV.isVal = true) : lend H (.ptr l i k) = some (.iptr true (r.drop k)) := lend0_ptr hl hr hv
def envN (n : Nat) (H : Hp) : List AV → Prop
 | [] => True
 | x :: r => valN n H x ∧ envN n H r
def heapN (n : Nat) (H : Hp) : Hp → Prop
 | [] => True
 | x :: r => objN n H x ∧ heapN n H r
theorem envN_mem {n : Nat} {H : Hp} : ∀ {e : List AV}, envN n H e → ∀ y ∈ e, valN n H y
 | [], _, y, h => by cases h
 | x :: r, h, y, hy => by
   rcases List.mem_cons.1 hy with rfl | hy
   · exact h.1
   exact envN_mem h.2 y hy
theorem heapN_mem {n : Nat} {H : Hp} : ∀ {e : Hp}, heapN n H e → ∀ y ∈ e, objN n H y
 | [], _, y, h => by cases h
 | x :: r, h, y, hy => by
   rcases List.mem_cons.1 hy with rfl | hy
   · exact h.1
   exact heapN_mem h.2 y hy
theorem vc_loopN {α : Type} {c : Code} (f : α → List (Option AV)) (Hf : α → Hp) (μ : α → Nat) (a0 : α) (σ0 : List Nat) (h0 : RenE σ0 (updL env (f a0)) env) (hnd : σ0.Nodup) (hlow : ∀ l, l < nb → σ0[l]? = some l) (hobj : RenH σ0 H σ0 (Hf a0))
 (hcl : ∀ a, nb ≤ (Hf a).length ∧ envN nb (Hf a) (updL env (f a)) ∧ heapN nb (Hf a) (Hf a))
 (step : ∀ (a : α) (Y : List AV → Hp → Prop), (∀ a', μ a' < μ a → ∀ env' H' σ, RenE σ (updL env (f a')) env' → σ.Nodup → (∀ l, l < nb → σ[l]? = some l) → RenH σ H' σ (Hf a') → Y env' H') → vc P G md nb c (thenQ Y Q) (updL env (f a)) (Hf a)) : vc P G md nb (.loop c) Q env H :=
 vc_loopR (fun a => updL env (f a)) Hf μ a0 σ0 h0 hnd hlow hobj (fun a => ⟨(hcl a).1, envN_mem (hcl a).2.1, heapN_mem (hcl a).2.2⟩) step
theorem IsL.ren0 {σ : List Nat} {x : AV} (h : IsL x) : Vi.ren0 σ x = some x := by
 rcases h with rfl | ⟨t, rows, rfl⟩ <;> rfl
theorem IsL.ren1 {σ : List Nat} {x : AV} (h : IsL x) : Vi.ren1 σ x = some x := by
 rcases h with rfl | ⟨t, rows, rfl⟩ <;> rfl
theorem IsL.leafN {n : Nat} {H : Hp} {x : AV} (h : IsL x) : Vi.leafN n H x := by
 rcases h with rfl | ⟨t, rows, rfl⟩ <;> trivial
theorem IsL.valN {n : Nat} {H : Hp} {x : AV} (h : IsL x) : Vi.valN n H x := by
 rcases h with rfl | ⟨t, rows, rfl⟩ <;> trivial
theorem ren_arr {σ : List Nat} {T : TypeId} {sz : Nat} {rows rows' : List (List AV)} (h : mapL (mapL (Vi.ren0 σ)) rows = some rows') : renO σ (.arr T sz rows) = some (.arr T sz rows') := by
 simp only [renO, h, Option.map_some]
theorem leaf_val {σ : List Nat} {x : AV} (h : x.isVal = true) : Vi.ren0 σ x = some x := by
 cases x with
 | clo f cs =>
   cases cs with
   | nil => rfl
   | cons a r => cases h
 | undef => cases h
 | ptr l i k => cases h
 | row t l i n => cases h
 | sub l i k es n => cases h
 | agg cs => cases h
 | tup cs => cases h
 | mapr l => cases h
 | iface t v => cases h
 | _ => rfl
theorem leafN_val {n : Nat} {H : Hp} {x : AV} (h : x.isVal = true) : Vi.leafN n H x := by
 cases x <;> first | trivial | cases h
theorem mapL_id {α : Type} {f : α → Option α} : ∀ {xs : List α}, (∀ x ∈ xs, f x = some x) → mapL f xs = some xs
 | [], _ => rfl
 | x :: r, h => mapL_cons (h x (by simp)) (mapL_id fun y hy => h y (by simp [hy]))
theorem ren_rows {σ : List Nat} {rows : List (List AV)} (h : allVal rows = true) : mapL (mapL (Vi.ren0 σ)) rows = some rows :=
 mapL_id fun r hr => mapL_id fun x hx => leaf_val (List.all_eq_true.1 (List.all_eq_true.1 h r hr) x hx)
theorem rowsN_val {n : Nat} {H : Hp} {rows : List (List AV)} (h : allVal rows = true) : ∀ r ∈ rows, cellsN n H r :=
 fun r hr x hx => leafN_val (List.all_eq_true.1 (List.all_eq_true.1 h r hr) x hx)
def pval (L : Nat) (pgs : List (List AV)) : AV := if pgs = [] then .nils else .row false L 0 pgs.length
def pobj (e : TypeId) (sz : Nat) (pgs : List (List AV)) : VO := if pgs = [] then .dead else .arr e sz pgs
theorem frzRows_val {H : Hp} : ∀ {rows : List (List AV)}, (∀ r ∈ rows, ∀ x ∈ r, frzCell H x = some (H, x)) → frzRows H rows = some (H, rows)
 | [], _ => rfl
 | r :: s, h => by
   have hc : ∀ {cs : List AV}, (∀ x ∈ cs, frzCell H x = some (H, x)) → frzCells H cs = some (H, cs) := by
    intro cs
    induction cs with
    | nil => intro _; rfl
    | cons x r ih => intro h; simp only [frzCells, h x (by simp), ih (fun y hy => h y (by simp [hy]))]
   simp only [frzRows, hc (h r (by simp)), frzRows_val (rows := s) (fun r hr => h r (by simp [hr]))]
theorem frz_val {H : Hp} {x : AV} (h : x.isVal = true) : frzCell H x = some (H, x) := by
 cases x <;> first | rfl | cases h
theorem acc_append {H : Hp} {L : Nat} {pgs news : List (List AV)} {t t2 e : TypeId} {sz by_ : Nat} {d2 : TypeDesc} {zc : List AV} {x : AV} (hL : H[L]? = some (pobj e sz pgs)) (he : elemAt P t = some (none, e, sz)) (hu : P.underlying t2 = some d2) (hd : isInt d2 = false) (hz : zcOf P e = some zc) (hb : byOf P e = some by_)
 (hx : srcRows H x = some news) (hl : zc.length = sz) (h0 : sz ≠ 0) (hb0 : by_ ≠ 0) (hlo : lenOk sz news = true) (hs : x.isStr = false) (hne : news ≠ []) (hv : allVal news = true) (hsz : (pgs.length + news.length) * by_ ≤ 140737488355328) :
 vappend P H t t2 (pval L pgs) x = some (.row false H.length 0 (pgs.length + news.length), H.set L .dead ++ [.arr e sz (pgs ++ news)]) := by
 have hf : frzRows H news = some (H, news) := frzRows_val fun r hr x hx => frz_val (List.all_eq_true.1 (List.all_eq_true.1 hv r hr) x hx)
 have hn0 : ¬ news.length = 0 := by simpa using hne
 unfold vappend vappendF
 simp only [he, hu, hd, hz, hb, hx, Bool.false_eq_true, if_false]
 rw [if_pos ⟨hl, h0, hb0, hlo, by simp [hs], by unfold pval; split <;> rfl⟩, if_neg hn0, hf]
 simp only
 by_cases hp : pgs = []
 · subst hp
   simp only [pobj, if_true] at hL
   have hset : H.set L .dead = H := by
    obtain ⟨h1, h2⟩ := List.getElem?_eq_some_iff.1 hL
    rw [← h2]; simp
   simp only [pval, if_true, hset]
   rw [if_pos (by simpa using hsz)]
   simp
 simp only [pobj, if_neg hp] at hL
 simp only [pval, if_neg hp, hL]
 rw [if_pos (by refine ⟨?_, ?_, ?_⟩ <;> first | trivial | exact hsz | omega | simp)]
 simp
theorem pval_snoc {σ : List Nat} {L l' : Nat} {pgs : List (List AV)} {r : List AV} (h : σ[L]? = some l') : Vi.ren1 σ (pval L (pgs ++ [r])) = some (.row false l' 0 (pgs.length + 1)) := by
 simp [pval, Vi.ren1, Vi.ren0, h]
theorem pobj_snoc {σ : List Nat} {e : TypeId} {sz : Nat} {pgs : List (List AV)} {r : List AV} (h : allVal (pgs ++ [r]) = true) : renO σ (pobj e sz (pgs ++ [r])) = some (.arr e sz (pgs ++ [r])) := by
 have : pobj e sz (pgs ++ [r]) = .arr e sz (pgs ++ [r]) := by simp [pobj]
 rw [this]
 exact ren_arr (ren_rows h)
theorem pval_ren {σ : List Nat} {L : Nat} {pgs : List (List AV)} (h : σ[L]? = some L) : Vi.ren1 σ (pval L pgs) = some (pval L pgs) := by
 unfold pval
 split <;> simp [Vi.ren1, Vi.ren0, h]
theorem pobj_ren {σ : List Nat} {H2 : Hp} {l : Nat} {e : TypeId} {sz : Nat} {pgs : List (List AV)} (hv : allVal pgs = true) (h : H2[l]? = some (pobj e sz pgs)) : pobj e sz pgs = .dead ∨ ∃ o', H2[l]? = some o' ∧ renO σ (pobj e sz pgs) = some o' := by
 refine .inr ⟨_, h, ?_⟩
 unfold pobj
 split
 · rfl
 exact ren_arr (ren_rows hv)
theorem pval_N {n : Nat} {H : Hp} {L : Nat} {e : TypeId} {sz : Nat} {pgs : List (List AV)} (h : H[L]? = some (pobj e sz pgs)) : Vi.valN n H (pval L pgs) := by
 unfold pval
 split
 · trivial
 rename_i hp
 exact .inr ⟨_, h, by simp [pobj, hp, VO.live]⟩
theorem pobj_N {n : Nat} {H : Hp} {e : TypeId} {sz : Nat} {pgs : List (List AV)} (hv : allVal pgs = true) : objN n H (pobj e sz pgs) := by
 unfold pobj
 split
 · trivial
 exact rowsN_val hv
def plist (pgs : List (List AV)) : AV := if pgs = [] then .nils else .list .loose pgs
theorem retD_val : ∀ {d : Nat} {H : Hp} {x : AV}, x.isVal = true → retD d H x = some x
 | 0, H, x, h => by simp [retD, h]
 | d + 1, H, x, h => by cases x <;> first | (simp [retD, h]; done) | cases h
theorem ret_pval {H : Hp} {L : Nat} {e : TypeId} {sz : Nat} {pgs : List (List AV)} (hv : allVal pgs = true) (h : H[L]? = some (pobj e sz pgs)) : ret1 H (pval L pgs) = some (plist pgs) := by
 unfold pval plist
 split
 · rfl
 rename_i hp
 simp only [pobj, if_neg hp] at h
 have hr : rowsOf H (.row false L 0 pgs.length) = some pgs := by simp [rowsOf, h]
 show (match rowsOf H (.row false L 0 pgs.length) with
  | some rows => (mapL (mapL (retD 2 H)) rows).map (AV.list .loose)
  | none => none) = _
 rw [hr]
 show (mapL (mapL (retD 2 H)) pgs).map (AV.list .loose) = _
 rw [mapL_id (fun r hr => mapL_id fun x hx => retD_val (List.all_eq_true.1 (List.all_eq_true.1 hv r hr) x hx))]
 rfl
theorem ret_tup2 {H : Hp} {x y x' y' : AV} (h1 : ret1 H x = some x') (h2 : ret1 H y = some y') : retv H (.tup [x, y]) = some (.tup [x', y']) := by
 simp only [retv, mapL, h1, h2, Option.map_some]
theorem IsL_plist {pgs : List (List AV)} : IsL (plist pgs) := by
 unfold plist; split
 · exact .inl rfl
 exact .inr ⟨_, _, rfl⟩
theorem lrows_plist {pgs : List (List AV)} : lrows (plist pgs) = pgs := by
 unfold plist; split
 · rename_i h; simp [lrows, h]
 rfl
theorem i64_small {n : Int} (h1 : -9223372036854775808 ≤ n) (h2 : n < 9223372036854775808) : IntKind.i64.wrap n = n := IntWalk.i64_in n ⟨by omega, by omega⟩
theorem wrap_pred {n : Nat} (h1 : 0 < n) (h2 : n < 9223372036854775808) : IntKind.i64.wrap ((n : Int) - 1) = ((n - 1 : Nat) : Int) := by
 rw [i64_small (by omega) (by omega)]; omega
theorem int_eq {H : Hp} {a b : Int} (h : a = b) : some (AV.int .i64 a, H) = some (AV.int .i64 b, H) := by rw [h]
theorem w_split (i : Nat) {b : Bool} (hb : env[i]? = some (.bool b)) (ht : b = true → vops P G md ops r (env.set i (.bool true)) H K) (hf : b = false → vops P G md ops r (env.set i (.bool false)) H K) : vops P G md ops r env H K := by
 obtain ⟨hlt, he⟩ := List.getElem?_eq_some_iff.1 hb
 have e : env = env.set i (.bool b) := by
  rw [← he]; simp
 rw [e]
 cases b
 · exact hf rfl
 exact ht rfl
theorem d_split (i : Nat) {b : Bool} (hb : env[i]? = some (.bool b)) (ht : b = true → vopsD P G md ops r (env.set i (.bool true)) H K) (hf : b = false → vopsD P G md ops r (env.set i (.bool false)) H K) : vopsD P G md ops r env H K := by
 obtain ⟨hlt, he⟩ := List.getElem?_eq_some_iff.1 hb
 have e : env = env.set i (.bool b) := by
  rw [← he]; simp
 rw [e]
 cases b
 · exact hf rfl
 exact ht rfl
theorem w_op0N {op : Op} {ty : TypeId} {pos : String} {aft : Array Edge} {g : Option (Nat × Bool)} {v : AV} {H' H2 : Hp} (hg : wantedV g ops env = some true) (hx : vexec2 P md (ev G env) H ⟨none, op, ty, pos, aft, g⟩ = some (v, H')) (hH : H' = H2)
 (ho : ∀ k, (match vexec2 P md (ev G env) H ⟨none, op, ty, pos, aft, g⟩ with | some (r, H') => k r H' | none => False) → vop (XS P G) P md G env H ⟨none, op, ty, pos, aft, g⟩ k)
 (h : vops P G md ops r env H2 K) : vops P G md ops (⟨none, op, ty, pos, aft, g⟩ :: r) env H K := by subst hH; exact vo_op hg ho hx h
theorem w_opH {d : Tmp} {op : Op} {ty : TypeId} {pos : String} {aft : Array Edge} {g : Option (Nat × Bool)} {v : AV} {H' H2 : Hp} {env' : List AV} (hg : wantedV g ops env = some true) (hx : vexec2 P md (ev G env) H ⟨some d, op, ty, pos, aft, g⟩ = some (v, H')) (he : env.set d v = env') (hH : H' = H2)
 (ho : ∀ k, (match vexec2 P md (ev G env) H ⟨some d, op, ty, pos, aft, g⟩ with | some (r, H') => k r H' | none => False) → vop (XS P G) P md G env H ⟨some d, op, ty, pos, aft, g⟩ k)
 (h : vops P G md ops r env' H2 K) : vops P G md ops (⟨some d, op, ty, pos, aft, g⟩ :: r) env H K := by subst he; subst hH; exact vo_op hg ho hx h
theorem w_callI {d : Tmp} {ty : TypeId} {pos : String} {aft : Array Edge} {f : Operand} {args : Array Operand} {ts : Array TypeId} {gd : Option (Nat × Bool)} {g : Nat} {cs xs ys : List AV} {r' : AV} {env' : List AV} (hg : wantedV gd ops env = some true) (hf : ev G env f = some (.clo g cs)) (hx : evL (ev G env) args.toList = some xs) (he : enterOk P g = true)
 (hm : md ⟨some d, .call ⟨.value f, args, ts⟩, ty, pos, aft, gd⟩ = .iso) (hl : mapL (lend H) (xs ++ cs) = some ys) (hF : Fn P G g ys r') (hE : env.set d r' = env')
 (h : vops P G md ops r env' H K) : vops P G md ops (⟨some d, .call ⟨.value f, args, ts⟩, ty, pos, aft, gd⟩ :: r) env H K := by
 subst hE
 refine vo_call hg rfl hf hx he ?_
 rw [hm]
 exact call_iso hl hF h
theorem d_nil (h : K env H) : vopsD P G md ops [] env H K := h
theorem d_opH {d : Tmp} {op : Op} {ty : TypeId} {pos : String} {aft : Array Edge} {g : Option (Nat × Bool)} {v : AV} {H' H2 : Hp} {env' : List AV} (hg : wantedV g ops env = some true) (hx : vexec2 P md (ev G env) H ⟨some d, op, ty, pos, aft, g⟩ = some (v, H')) (hc : clsOp md ⟨some d, op, ty, pos, aft, g⟩ = 2 ∨ H' = H) (he : env.set d v = env') (hH : H' = H2)
 (ho : ∀ k, (match vexec2 P md (ev G env) H ⟨some d, op, ty, pos, aft, g⟩ with | some (r, H') => k r H' | none => False) → vop (XS P G) P md G env H ⟨some d, op, ty, pos, aft, g⟩ k)
 (h : vopsD P G md ops r env' H2 K) : vopsD P G md ops (⟨some d, op, ty, pos, aft, g⟩ :: r) env H K := by
 subst he
 subst hH
 simp only [vopsD, hg]
 by_cases h2 : clsOp md ⟨some d, op, ty, pos, aft, g⟩ = 2
 · rw [if_pos h2]
   refine ⟨v, H', ho _ ?_, h⟩
   rw [hx]
   exact ⟨rfl, rfl⟩
 rw [if_neg h2]
 have e : H' = H := hc.resolve_left h2
 subst e
 refine ⟨v, ho _ ?_, h⟩
 rw [hx]
 exact ⟨rfl, rfl⟩
theorem d_op0 {op : Op} {ty : TypeId} {pos : String} {aft : Array Edge} {g : Option (Nat × Bool)} {v : AV} {H' H2 : Hp} (hg : wantedV g ops env = some true) (hx : vexec2 P md (ev G env) H ⟨none, op, ty, pos, aft, g⟩ = some (v, H')) (hc : clsOp md ⟨none, op, ty, pos, aft, g⟩ = 2 ∨ H' = H) (hH : H' = H2)
 (ho : ∀ k, (match vexec2 P md (ev G env) H ⟨none, op, ty, pos, aft, g⟩ with | some (r, H') => k r H' | none => False) → vop (XS P G) P md G env H ⟨none, op, ty, pos, aft, g⟩ k)
 (h : vopsD P G md ops r env H2 K) : vopsD P G md ops (⟨none, op, ty, pos, aft, g⟩ :: r) env H K := by
 subst hH
 simp only [vopsD, hg]
 by_cases h2 : clsOp md ⟨none, op, ty, pos, aft, g⟩ = 2
 · rw [if_pos h2]
   refine ⟨v, H', ho _ ?_, h⟩
   rw [hx]
   exact ⟨rfl, rfl⟩
 rw [if_neg h2]
 have e : H' = H := hc.resolve_left h2
 subst e
 refine ⟨v, ho _ ?_, h⟩
 rw [hx]
 exact ⟨rfl, rfl⟩
theorem d_skipN {d : Tmp} {op : Op} {ty : TypeId} {pos : String} {aft : Array Edge} {g : Option (Nat × Bool)} {env' : List AV} (hg : wantedV g ops env = some false) (he : env.set d (.tup []) = env')
 (h : vopsD P G md ops r env' H K) : vopsD P G md ops (⟨some d, op, ty, pos, aft, g⟩ :: r) env H K := by
 subst he
 simp only [vopsD, hg]
 exact h
theorem d_callI {d : Tmp} {ty : TypeId} {pos : String} {aft : Array Edge} {f : Operand} {args : Array Operand} {ts : Array TypeId} {gd : Option (Nat × Bool)} {g : Nat} {cs xs ys : List AV} {r' : AV} {env' : List AV} (hg : wantedV gd ops env = some true) (hf : ev G env f = some (.clo g cs)) (hx : evL (ev G env) args.toList = some xs) (he : enterOk P g = true)
 (hm : md ⟨some d, .call ⟨.value f, args, ts⟩, ty, pos, aft, gd⟩ = .iso) (hl : mapL (lend H) (xs ++ cs) = some ys) (hF : Fn P G g ys r') (hE : env.set d r' = env')
 (h : vopsD P G md ops r env' H K) : vopsD P G md ops (⟨some d, .call ⟨.value f, args, ts⟩, ty, pos, aft, gd⟩ :: r) env H K := by
 subst hE
 have hop : vop (XS P G) P md G env H ⟨some d, .call ⟨.value f, args, ts⟩, ty, pos, aft, gd⟩ fun v1 H1 => v1 = r' ∧ H1 = H := by
  simp only [vop, hf, hx, he, if_true]
  rw [hm]
  exact call_iso hl hF ⟨rfl, rfl⟩
 simp only [vopsD, hg]
 have hc : clsOp md ⟨some d, .call ⟨.value f, args, ts⟩, ty, pos, aft, gd⟩ ≠ 2 := by
  simp [clsOp, hm]
 rw [if_neg hc]
 exact ⟨r', hop, h⟩
theorem lend_of0 {x : AV} (h : lend0 H x = some x) : lend H x = some x := by
 cases x with
 | agg cs => cases h
 | clo f cs =>
   cases cs with
   | nil => rfl
   | cons a r => cases h
 | _ => exact h
theorem lends_of0 : ∀ {xs : List AV}, mapL (lend0 H) xs = some xs → mapL (lend H) xs = some xs
 | [], _ => rfl
 | x :: r, h => by
   unfold mapL at h
   split at h
   · rename_i y ys h1 h2
     cases h
     simp only [mapL, lend_of0 h1, lends_of0 h2]
   cases h
theorem lend_clo {g : Nat} {caps : List AV} (h : mapL (lend0 H) caps = some caps) : lend H (.clo g caps) = some (.clo g caps) := by
 simp only [lend, h, Option.map_some]
theorem IsL.len {e t : TypeId} {x : AV} (hL : IsL x) (hu : P.underlying t = some (.slice e)) : vlen P H t x = some (.int .i64 (lrows x).length) := by
 unfold vlen
 rw [hu]
 rcases hL with rfl | ⟨t, rows, rfl⟩ <;> rfl
theorem IsL.at {t e : TypeId} {sz : Nat} {x : AV} {k : IntKind} {n : Int} {r0 : List AV} (hL : IsL x) (he : elemAt P t = some (none, e, sz)) (h0 : 0 ≤ n) (hr : (lrows x)[n.toNat]? = some r0) (hs : r0.length = sz) : ∃ b, vindexAddr P H t x (.int k n) = some (.iptr b r0) := by
 rcases hL with rfl | ⟨tg, rows, rfl⟩
 · simp [lrows] at hr
 have hl := (List.getElem?_eq_some_iff.1 hr).1
 refine ⟨tg == .bor, ?_⟩
 unfold vindexAddr
 rw [he]
 simp only
 simp only [lrows] at hr hl
 rw [if_pos ⟨h0, by omega⟩, hr]
 simp only
 rw [if_pos hs]
theorem IsL.lend {x : AV} (hL : IsL x) : lend H x = some x := by
 rcases hL with rfl | ⟨tg, rows, rfl⟩
 · rfl
 rfl
theorem IsL.lend0 {x : AV} (hL : IsL x) : lend0 H x = some x := by
 rcases hL with rfl | ⟨tg, rows, rfl⟩
 · rfl
 rfl
theorem IsL.src {x : AV} (hL : IsL x) : srcRows H x = some (lrows x) := by
 rcases hL with rfl | ⟨tg, rows, rfl⟩
 · rfl
 rfl
theorem x_len {d : Tmp} {ty : TypeId} {pos : String} {aft : Array Edge} {a : Operand} {t e : TypeId} {x : AV} {g : Option (Nat × Bool)} {env' : List AV} (hg : wantedV g ops env = some true) (hx : ev G env a = some x) (hL : IsL x) (hu : P.underlying t = some (.slice e)) (he : env.set d (.int .i64 (lrows x).length) = env')
 (h : vops P G md ops r env' H K) : vops P G md ops (⟨some d, .call ⟨.builtin .len, #[a], #[t]⟩, ty, pos, aft, g⟩ :: r) env H K := by
 refine w_opN (v := .int .i64 (lrows x).length) (H' := H) hg ?_ he (fun _ h => h) h
 have he : evL (ev G env) #[a].toList = some [x] := by simp [evL, hx]
 simp only [vexec2, vexec, he, vbuiltin]
 simp [IsL.len hL hu]
theorem x_index {d : Tmp} {ty : TypeId} {pos : String} {aft : Array Edge} {t : TypeId} {x ix : Operand} {s : AV} {k : IntKind} {n : Int} {e : TypeId} {sz : Nat} {r0 : List AV} {g : Option (Nat × Bool)} (hg : wantedV g ops env = some true) (hx : ev G env x = some s) (hL : IsL s) (hi : ev G env ix = some (.int k n))
 (he : elemAt P t = some (none, e, sz)) (h0 : 0 ≤ n) (hr : (lrows s)[n.toNat]? = some r0) (hs : r0.length = sz) (h : ∀ b, vops P G md ops r (env.set d (.iptr b r0)) H K) : vops P G md ops (⟨some d, .indexAddr t x ix, ty, pos, aft, g⟩ :: r) env H K := by
 obtain ⟨b, hb⟩ := IsL.at (H := H) (k := k) hL he h0 hr hs
 refine w_opN (v := .iptr b r0) (H' := H) hg ?_ rfl (fun _ h => h) (h b)
 simp only [vexec2, vexec, hx, hi, hb, Option.map_some]
theorem y_index {d : Tmp} {ty : TypeId} {pos : String} {aft : Array Edge} {t : TypeId} {x ix : Operand} {s : AV} {k : IntKind} {n : Int} {e : TypeId} {sz : Nat} {r0 : List AV} {g : Option (Nat × Bool)} (hg : wantedV g ops env = some true) (hx : ev G env x = some s) (hL : IsL s) (hi : ev G env ix = some (.int k n))
 (he : elemAt P t = some (none, e, sz)) (h0 : 0 ≤ n) (hr : (lrows s)[n.toNat]? = some r0) (hs : r0.length = sz) (h : ∀ b, vopsD P G md ops r (env.set d (.iptr b r0)) H K) : vopsD P G md ops (⟨some d, .indexAddr t x ix, ty, pos, aft, g⟩ :: r) env H K := by
 obtain ⟨b, hb⟩ := IsL.at (H := H) (k := k) hL he h0 hr hs
 refine d_opH (v := .iptr b r0) (H' := H) hg ?_ (.inr rfl) rfl rfl (fun _ h => h) (h b)
 simp only [vexec2, vexec, hx, hi, hb, Option.map_some]
theorem d_end {K' : List AV → Hp → Prop} {env' : List AV} (he : env = env') (h : K' env' H) : vopsD P G md ops [] env H (thenQ K' Q .normal) := by subst he; exact h
theorem d_endB {id : Nat} {env' : List AV} (he : env = env') (h : Q .normal env' H) : vopsD P G md ops [] env H (blockQ id Q .normal) := by subst he; exact h
end
end Go.Vi
namespace Go.Vi
section
variable {P : Program} {G : Glob} {H : Hp}
theorem g_load {t T : TypeId} {l i k sz : Nat} {rows : List (List AV)} {r : List AV} {x : AV} (h1 : H[l]? = some (.arr T sz rows)) (h2 : rows[i]? = some r) (h3 : ldCells P t (r.drop k) = some x) : (vload P H t (.ptr l i k)).map (·, H) = some (x, H) := by
 simp only [vload, h1, h2, h3, Option.map_some]
theorem g_store {t T : TypeId} {l i k sz n : Nat} {rows : List (List AV)} {r cs : List AV} {x : AV} (h1 : H[l]? = some (.arr T sz rows)) (h2 : rows[i]? = some r) (h3 : x.cells = some cs) (h4 : szOf P t = some n) (h5 : cs.length = n ∧ k + n ≤ r.length ∧ n ≠ 0) :
 (vstore P H t (.ptr l i k) x).map (AV.tup [], ·) = some (AV.tup [], H.set l (.arr T sz (rows.set i (setC r k cs)))) := by
 simp only [vstore, h1, h2, h3, h4]
 rw [if_pos h5]
 rfl
theorem g_index {t T e : TypeId} {b : Bool} {l i m sz : Nat} {rows : List (List AV)} {k : IntKind} {n : Int} (he : elemAt P t = some (none, e, sz)) (h1 : H[l]? = some (.arr T sz rows)) (h0 : 0 ≤ n) (hn : n < m) :
 (vindexAddr P H t (.row b l i m) (.int k n)).map (·, H) = some (.ptr l (i + n.toNat) 0, H) := by
 simp only [vindexAddr, he]
 rw [if_pos ⟨h0, hn⟩, h1]
 simp
theorem g_slice {t T e : TypeId} {b : Bool} {l i m sz : Nat} {rows : List (List AV)} {n : Int} (hu : P.underlying t = some (.slice e)) (hs : szOf P e = some sz) (h1 : H[l]? = some (.arr T sz rows)) (h0 : 0 ≤ n) (hn : n ≤ m) :
 (vslice P H t (.row b l i m) (some (.int .i64 n)) none none).map (·, H) = some (.row b l (i + n.toNat) (m - n.toNat), H) := by
 have hb : vbounds m (some (.int .i64 n)) none none = some (n.toNat, m, none) := by
  simp only [vbounds, bnd]
  have h1 : 0 ≤ n := h0
  have h2 : n.toNat ≤ m := by omega
  simp [h1, h2]
 simp only [vslice, hu, hs, hb, h1]
 simp [cutT]
theorem g_copy {t T e : TypeId} {b : Bool} {l i m sz : Nat} {rows rows' : List (List AV)} {x : AV} (he : elemAt P t = some (none, e, sz)) (h1 : H[l]? = some (.arr T sz rows)) (hx : srcRows H x = some rows') (hl : lenOk sz rows' = true) (h0 : sz ≠ 0) (hs : x.isStr = false) (hin : i + m ≤ rows.length) :
 vcopy P H t (.row b l i m) x = some (.int .i64 (min rows'.length m : Nat), H.set l (.arr T sz (rows.take i ++ rows'.take (min rows'.length m) ++ rows.drop (i + min rows'.length m)))) := by
 simp only [vcopy, he, hx]
 rw [if_pos ⟨hl, h0, by simp [hs]⟩]
 simp only [h1]
 rw [if_pos (by simp; exact hin)]
theorem g_clone {t t2 e : TypeId} {sz by_ : Nat} {d2 : TypeDesc} {zc : List AV} {x : AV} {rows : List (List AV)} (he : elemAt P t = some (none, e, sz)) (hu : P.underlying t2 = some d2) (hd : isInt d2 = false) (hz : zcOf P e = some zc) (hb : byOf P e = some by_)
 (hx : srcRows H x = some rows) (hl : zc.length = sz) (h0 : sz ≠ 0) (hb0 : by_ ≠ 0) (hlo : lenOk sz rows = true) (hs : x.isStr = false) (hne : rows ≠ []) (hv : frzRows H rows = some (H, rows)) (hsz : rows.length * by_ ≤ 140737488355328) :
 vappend P H t t2 (.list .tight []) x = some (.row false H.length 0 rows.length, H ++ [.arr e sz rows]) := by
 have hn0 : ¬ rows.length = 0 := by simpa using hne
 unfold vappend vappendF
 simp only [he, hu, hd, hz, hb, hx, Bool.false_eq_true, if_false]
 rw [if_pos ⟨hl, h0, hb0, hlo, by simp [hs], rfl⟩, if_neg hn0, hv]
 simp only
 rw [if_pos ⟨by simp [lenOk], by simpa using hsz⟩]
 simp
theorem xs_body {f : Nat} {fn : Func} {code : Code} {args : List AV} {K : AV → Hp → Prop} (md : Oper → Md) (hf : P.funcs[f]? = some fn) (hb : fn.body = some code)
 (h : vc P G md H.length code (fnQ P fn K) (args ++ List.replicate (fn.ntmps - args.length) .undef) H) : XS P G f args H K :=
 (XS.pre P G).body f fn code md args H _ hf hb h
variable {md : Oper → Md} {nb : Nat} {Q : Qv} {env : List AV} {ops : Array Oper} {r : List Oper} {K : List AV → Hp → Prop}
theorem w_callS {d : Tmp} {ty : TypeId} {pos : String} {aft : Array Edge} {f : Operand} {args : Array Operand} {ts : Array TypeId} {gd : Option (Nat × Bool)} {g : Nat} {cs xs : List AV} {R : AV → Hp → Prop} (hg : wantedV gd ops env = some true) (hf : ev G env f = some (.clo g cs)) (hx : evL (ev G env) args.toList = some xs) (he : enterOk P g = true)
 (hm : md ⟨some d, .call ⟨.value f, args, ts⟩, ty, pos, aft, gd⟩ = .shr) (hF : XS P G g (xs ++ cs) H R)
 (h : ∀ v H1, R v H1 → vops P G md ops r (env.set d v) H1 K) : vops P G md ops (⟨some d, .call ⟨.value f, args, ts⟩, ty, pos, aft, gd⟩ :: r) env H K := by
 refine vo_call hg rfl hf hx he ?_
 rw [hm]
 exact XS.mono hF h
theorem vc_loopX {α : Type} {c : Code} (f : α → List (Option AV)) (Hf : α → Hp) (μ : α → Nat) (a0 : α) (h0 : Wk env (updL env (f a0))) (hH : H = Hf a0)
 (step : ∀ (a : α) (Y : List AV → Hp → Prop), (∀ a', μ a' < μ a → ∀ env' H', Wk env' (updL env (f a')) → H' = Hf a' → Y env' H') → vc P G md nb c (thenQ Y Q) (updL env (f a)) (Hf a)) : vc P G md nb (.loop c) Q env H := by
 intro Y hY hw _ _
 have key : ∀ (n : Nat) (a : α), μ a = n → Y (updL env (f a)) (Hf a) := by
  intro n
  induction n using Nat.strongRecOn with
  | _ n ih =>
    intro a ha
    refine hY _ _ (step a Y fun a' hlt env' H' hwk hH' => ?_)
    subst hH'
    exact hw _ _ _ hwk (ih (μ a') (by omega) a' rfl)
 subst hH
 exact hw _ _ _ h0 (key _ a0 rfl)
theorem get_app {g : Hp} {l : Nat} {o : VO} (h : H[l]? = some o) : (H ++ g)[l]? = some o := by
 rw [List.getElem?_append_left (List.getElem?_eq_some_iff.1 h).1]; exact h
theorem get_last {o : VO} : (H ++ [o])[H.length]? = some o := by simp
theorem set_last {o o' : VO} : (H ++ [o]).set H.length o' = H ++ [o'] := by simp
theorem get_set {l l' : Nat} {o o' : VO} (h : H[l]? = some o) (hne : l' ≠ l) : (H.set l' o')[l]? = some o := by
 rw [List.getElem?_set_ne hne]; exact h
theorem get_self {l : Nat} {o o' : VO} (h : H[l]? = some o) : (H.set l o')[l]? = some o' := by
 rw [List.getElem?_set_self (List.getElem?_eq_some_iff.1 h).1]
theorem g_alloc {t : TypeId} {z : AV} {cs : List AV} {n : Nat} (hz : zrOf P t = some z) (hc : z.cells = some cs) (hn : H.length = n) : valloc P H t = some (.ptr n 0 0, H ++ [.arr t cs.length [cs]]) := by
 subst hn
 simp only [valloc, hz, Option.bind_some, vbox, hc]
theorem g_index0 {t T e : TypeId} {b : Bool} {l m sz : Nat} {rows : List (List AV)} {k : IntKind} {n : Int} (he : elemAt P t = some (none, e, sz)) (h1 : H[l]? = some (.arr T sz rows)) (h0 : 0 ≤ n) (hn : n < m) :
 (vindexAddr P H t (.row b l 0 m) (.int k n)).map (·, H) = some (.ptr l n.toNat 0, H) := by
 rw [g_index he h1 h0 hn, Nat.zero_add]
def vopsW (P : Program) (G : Glob) (md : Oper → Md) (ops : Array Oper) (wn : Nat → Nat × Nat) (h : Nat → Hp) : Nat → List Oper → List AV → Nat → (List AV → Nat → Prop) → Prop
 | _, [], env, k, K => K env k
 | i, o :: r, env, k, K => match wantedV o.guard ops env with
   | some true => if clsOp md o = 2 then k = (wn i).1 ∧ ∃ v, vop (XS P G) P md G env (h k) o (fun v1 H1 => v1 = v ∧ H1 = h (k + 1)) ∧ vopsW P G md ops wn h (i + 1) r (putE env o.dst v) (k + 1) K
     else ((wn i).1 ≤ k ∧ k ≤ (wn i).2) ∧ ∃ v, (∀ q, (wn i).1 ≤ q → q ≤ (wn i).2 → vop (XS P G) P md G env (h q) o (fun v1 H1 => v1 = v ∧ H1 = h q)) ∧ vopsW P G md ops wn h (i + 1) r (putE env o.dst v) k K
   | some false => if clsOp md o = 2 then k = (wn i).1 ∧ h (k + 1) = h k ∧ vopsW P G md ops wn h (i + 1) r (putE env o.dst (.tup [])) (k + 1) K
     else ((wn i).1 ≤ k ∧ k ≤ (wn i).2) ∧ vopsW P G md ops wn h (i + 1) r (putE env o.dst (.tup [])) k K
   | none => False
theorem vopsW_seq {wn : Nat → Nat × Nat} {h : Nat → Hp} {KK : List AV → Nat → Prop} : ∀ (n : Nat) (i : Nat) (env : List AV) (k : Nat), i + n = ops.size → vopsW P G md ops wn h i (ops.toList.drop i) env k KK → vseqW (XS P G) P md G ops wn h (List.range' i n) env k KK
 | 0, i, env, k, hn, hh => by
   rw [List.drop_of_length_le (by simp; omega)] at hh
   exact hh
 | n + 1, i, env, k, hn, hh => by
   have hi : i < ops.size := by omega
   rw [List.drop_eq_getElem_cons (by simpa using hi)] at hh
   simp only [vopsW, Array.getElem_toList] at hh
   simp only [List.range'_succ, vseqW, Array.getElem?_eq_getElem hi]
   split at hh
   · rename_i hw
     rw [hw]
     simp only
     split at hh
     · rename_i hc
       rw [if_pos hc]
       obtain ⟨h0, v, h1, h2⟩ := hh
       exact ⟨h0, v, h1, vopsW_seq n (i + 1) _ _ (by omega) h2⟩
     rename_i hc
     rw [if_neg hc]
     obtain ⟨h0, v, h1, h2⟩ := hh
     exact ⟨h0, v, h1, vopsW_seq n (i + 1) _ _ (by omega) h2⟩
   · rename_i hw
     rw [hw]
     simp only
     split at hh
     · rename_i hc
       rw [if_pos hc]
       obtain ⟨h0, h1, h2⟩ := hh
       exact ⟨h0, h1, vopsW_seq n (i + 1) _ _ (by omega) h2⟩
     rename_i hc
     rw [if_neg hc]
     obtain ⟨h0, h2⟩ := hh
     exact ⟨h0, vopsW_seq n (i + 1) _ _ (by omega) h2⟩
   exact hh.elim
def hAt (H : Hp) (hs : List Hp) (q : Nat) : Hp := (H :: hs).getD q []
theorem w_regionW {id : Nat} {l : List Oper} (hs : List Hp) (hd : drawOkOf (okW md l.toArray (winOf md l.toArray)) l.toArray = true)
 (h : vopsW P G md l.toArray (winOf md l.toArray) (hAt H hs) 0 l env 0 fun env' k => Q .normal env' (hAt H hs k)) : vc P G md nb (.region id l.toArray true) Q env H := by
 refine .inr (.inl ⟨hd, hs, ?_⟩)
 have := vopsW_seq (P := P) (G := G) (md := md) (ops := l.toArray) l.length 0 env 0 (by simp) h
 rw [← List.range_eq_range'] at this
 exact this
theorem vopsW_list {wn wm : Nat → Nat × Nat} {h : Nat → Hp} {KK : List AV → Nat → Prop} : ∀ (is : List Nat) (os : List Oper) (i : Nat) (env : List AV) (k : Nat), is.map (ops[·]?) = os.map some → (∀ q j, is[q]? = some j → wm (i + q) = wn j) → vopsW P G md ops wm h i os env k KK → vseqW (XS P G) P md G ops wn h is env k KK
 | [], [], i, env, k, _, _, hh => hh
 | [], _ :: _, i, env, k, hm, _, hh => by cases hm
 | _ :: _, [], i, env, k, hm, _, hh => by cases hm
 | j :: is, o :: os, i, env, k, hm, hw, hh => by
   simp only [List.map_cons, List.cons.injEq] at hm
   obtain ⟨h1, h2⟩ := hm
   have e0 : wm i = wn j := by have := hw 0 j rfl; rwa [Nat.add_zero] at this
   have hw' : ∀ q j, is[q]? = some j → wm (i + 1 + q) = wn j := fun q j hj => by
    have := hw (q + 1) j (by simpa using hj)
    rwa [show i + (q + 1) = i + 1 + q by omega] at this
   simp only [vopsW, e0] at hh
   simp only [vseqW, h1]
   split at hh
   · rename_i hw2
     rw [hw2]
     simp only
     split at hh
     · rename_i hc
       rw [if_pos hc]
       obtain ⟨h0, v, h3, h4⟩ := hh
       exact ⟨h0, v, h3, vopsW_list is os (i + 1) _ _ h2 hw' h4⟩
     rename_i hc
     rw [if_neg hc]
     obtain ⟨h0, v, h3, h4⟩ := hh
     exact ⟨h0, v, h3, vopsW_list is os (i + 1) _ _ h2 hw' h4⟩
   · rename_i hw2
     rw [hw2]
     simp only
     split at hh
     · rename_i hc
       rw [if_pos hc]
       obtain ⟨h0, h3, h4⟩ := hh
       exact ⟨h0, h3, vopsW_list is os (i + 1) _ _ h2 hw' h4⟩
     rename_i hc
     rw [if_neg hc]
     obtain ⟨h0, h4⟩ := hh
     exact ⟨h0, vopsW_list is os (i + 1) _ _ h2 hw' h4⟩
   exact hh.elim
theorem one_order {l : List Oper} {K : List AV → Hp → Prop} {x y : Nat} (L : List Nat) (wn : List (Nat × Nat)) (hs : List Hp) (hp : L.isPerm (List.range l.toArray.size) = true) (hc : pairsL (fun a b => aug l.toArray x y a b || okW md l.toArray (fun i => wn.getD i (0, 0)) a b) L = true)
 (hl : L.map (l.toArray[·]?) = (L.filterMap (l[·]?)).map some)
 (h : vopsW P G md l.toArray (fun q => (L.map fun j => wn.getD j (0, 0)).getD q (0, 0)) (hAt H hs) 0 (L.filterMap (l[·]?)) env 0 fun env' k => K env' (hAt H hs k)) : oneOrder (XS P G) P md G l.toArray env H K x y := by
 refine ⟨L, fun i => wn.getD i (0, 0), hs, hp, hc, vopsW_list L _ 0 env 0 hl (fun q j hj => ?_) h⟩
 simp [List.getD, hj]
theorem w_regionO {id : Nat} {l : List Oper} (x y : Nat) (hf : freeOk l.toArray = true) (hx : (x != y && decide (x < l.toArray.size) && decide (y < l.toArray.size)) = true) (h1 : oneOrder (XS P G) P md G l.toArray env H (Q .normal) x y) (h2 : oneOrder (XS P G) P md G l.toArray env H (Q .normal) y x) : vc P G md nb (.region id l.toArray true) Q env H := by
 simp only [Bool.and_eq_true, bne_iff_ne, decide_eq_true_eq] at hx
 exact .inr (.inr ⟨hf, x, y, hx.1.1, hx.1.2, hx.2, h1, h2⟩)
variable {wn : Nat → Nat × Nat} {hh : Nat → Hp} {i k : Nat} {KK : List AV → Nat → Prop}
theorem e_op {d : Tmp} {op : Op} {ty : TypeId} {pos : String} {aft : Array Edge} {g : Option (Nat × Bool)} {v : AV} {env' : List AV} {a b : Nat} (hg : wantedV g ops env = some true) (hc : clsOp md ⟨some d, op, ty, pos, aft, g⟩ ≠ 2) (hw : wn i = (a, b)) (hk : a ≤ k ∧ k ≤ b)
 (ho : ∀ H k, (match vexec2 P md (ev G env) H ⟨some d, op, ty, pos, aft, g⟩ with | some (r, H') => k r H' | none => False) → vop (XS P G) P md G env H ⟨some d, op, ty, pos, aft, g⟩ k)
 (hx : ∀ q, a ≤ q → q ≤ b → vexec2 P md (ev G env) (hh q) ⟨some d, op, ty, pos, aft, g⟩ = some (v, hh q)) (he : env.set d v = env')
 (h : vopsW P G md ops wn hh (i + 1) r env' k KK) : vopsW P G md ops wn hh i (⟨some d, op, ty, pos, aft, g⟩ :: r) env k KK := by
 subst he
 simp only [vopsW, hg]
 rw [if_neg hc, hw]
 refine ⟨hk, v, fun q h1 h2 => ho _ _ ?_, h⟩
 rw [hx q h1 h2]
 exact ⟨rfl, rfl⟩
theorem e_eff {d : Tmp} {op : Op} {ty : TypeId} {pos : String} {aft : Array Edge} {g : Option (Nat × Bool)} {v : AV} {env' : List AV} {H0 H1 : Hp} {b : Nat} (hg : wantedV g ops env = some true) (hc : clsOp md ⟨some d, op, ty, pos, aft, g⟩ = 2) (hw : wn i = (k, b)) (h0 : hh k = H0) (h1 : hh (k + 1) = H1)
 (ho : ∀ H k, (match vexec2 P md (ev G env) H ⟨some d, op, ty, pos, aft, g⟩ with | some (r, H') => k r H' | none => False) → vop (XS P G) P md G env H ⟨some d, op, ty, pos, aft, g⟩ k)
 (hx : vexec2 P md (ev G env) H0 ⟨some d, op, ty, pos, aft, g⟩ = some (v, H1)) (he : env.set d v = env')
 (h : vopsW P G md ops wn hh (i + 1) r env' (k + 1) KK) : vopsW P G md ops wn hh i (⟨some d, op, ty, pos, aft, g⟩ :: r) env k KK := by
 subst he
 subst h0
 subst h1
 simp only [vopsW, hg]
 rw [if_pos hc, hw]
 refine ⟨rfl, v, ho _ _ ?_, h⟩
 rw [hx]
 exact ⟨rfl, rfl⟩
theorem e_eff0 {op : Op} {ty : TypeId} {pos : String} {aft : Array Edge} {g : Option (Nat × Bool)} {v : AV} {H0 H1 : Hp} {b : Nat} (hg : wantedV g ops env = some true) (hc : clsOp md ⟨none, op, ty, pos, aft, g⟩ = 2) (hw : wn i = (k, b)) (h0 : hh k = H0) (h1 : hh (k + 1) = H1)
 (ho : ∀ H k, (match vexec2 P md (ev G env) H ⟨none, op, ty, pos, aft, g⟩ with | some (r, H') => k r H' | none => False) → vop (XS P G) P md G env H ⟨none, op, ty, pos, aft, g⟩ k)
 (hx : vexec2 P md (ev G env) H0 ⟨none, op, ty, pos, aft, g⟩ = some (v, H1))
 (h : vopsW P G md ops wn hh (i + 1) r env (k + 1) KK) : vopsW P G md ops wn hh i (⟨none, op, ty, pos, aft, g⟩ :: r) env k KK := by
 subst h0
 subst h1
 simp only [vopsW, hg]
 rw [if_pos hc, hw]
 refine ⟨rfl, v, ho _ _ ?_, h⟩
 rw [hx]
 exact ⟨rfl, rfl⟩
theorem e_callS {d : Tmp} {ty : TypeId} {pos : String} {aft : Array Edge} {f : Operand} {args : Array Operand} {ts : Array TypeId} {gd : Option (Nat × Bool)} {g : Nat} {cs xs : List AV} {v : AV} {env' : List AV} {H0 H1 : Hp} {b : Nat} (hg : wantedV gd ops env = some true) (hf : ev G env f = some (.clo g cs)) (hx : evL (ev G env) args.toList = some xs) (he : enterOk P g = true)
 (hm : md ⟨some d, .call ⟨.value f, args, ts⟩, ty, pos, aft, gd⟩ = .shr) (hw : wn i = (k, b)) (h0 : hh k = H0) (h1 : hh (k + 1) = H1) (hF : XS P G g (xs ++ cs) H0 fun v' H' => v' = v ∧ H' = H1) (hE : env.set d v = env')
 (h : vopsW P G md ops wn hh (i + 1) r env' (k + 1) KK) : vopsW P G md ops wn hh i (⟨some d, .call ⟨.value f, args, ts⟩, ty, pos, aft, gd⟩ :: r) env k KK := by
 subst h0
 subst h1
 subst hE
 have hop : vop (XS P G) P md G env (hh k) ⟨some d, .call ⟨.value f, args, ts⟩, ty, pos, aft, gd⟩ fun v1 H' => v1 = v ∧ H' = hh (k + 1) := by
  simp only [vop, hf, hx, he, if_true]
  rw [hm]
  exact hF
 simp only [vopsW, hg]
 have hc : clsOp md ⟨some d, .call ⟨.value f, args, ts⟩, ty, pos, aft, gd⟩ = 2 := by
  simp [clsOp, hm]
 rw [if_pos hc, hw]
 exact ⟨rfl, v, hop, h⟩
theorem e_end {K' : List AV → Hp → Prop} {H' : Hp} {hs : List Hp} (hH : hAt H hs k = H') (h : K' env H') : vopsW P G md ops wn (hAt H hs) i [] env k fun env' k => thenQ K' Q .normal env' (hAt H hs k) := by
 subst hH
 exact h
theorem e_endB {id : Nat} {H' : Hp} {hs : List Hp} (hH : hAt H hs k = H') (h : Q .normal env H') : vopsW P G md ops wn (hAt H hs) i [] env k fun env' k => blockQ id Q .normal env' (hAt H hs k) := by
 subst hH
 exact h
theorem vres_cell {fn : Func} {a : Tmp} {t : TypeId} {p x : AV} (hr : fn.results = #[.cell a t]) (hp : env[a]? = some p) (hx : vload P H t p = some x) : vres P H fn env = some x := by
 simp only [vres, hr, vresL, hp, hx]
theorem vres_cell_tmp {fn : Func} {a b : Tmp} {t : TypeId} {p x y : AV} (hr : fn.results = #[.cell a t, .tmp b]) (hp : env[a]? = some p) (hx : vload P H t p = some x) (hy : env[b]? = some y) : vres P H fn env = some (.tup [x, y]) := by
 simp only [vres, hr, vresL, hp, hx, hy]
theorem g_vload {t T : TypeId} {l i k sz : Nat} {rows : List (List AV)} {r : List AV} {x : AV} (h1 : H[l]? = some (.arr T sz rows)) (h2 : rows[i]? = some r) (h3 : ldCells P t (r.drop k) = some x) : vload P H t (.ptr l i k) = some x := by
 simp only [vload, h1, h2, h3]
theorem accR {L n : Nat} {pgs news : List (List AV)} {t t2 e : TypeId} {sz by_ : Nat} {d2 : TypeDesc} {zc : List AV} {x : AV} (hL : (pgs = [] ∧ H.length ≤ L) ∨ (pgs ≠ [] ∧ H[L]? = some (.arr e sz pgs))) (hn : H.length = n) (he : elemAt P t = some (none, e, sz)) (hu : P.underlying t2 = some d2) (hd : isInt d2 = false) (hz : zcOf P e = some zc) (hb : byOf P e = some by_)
 (hx : srcRows H x = some news) (hl : zc.length = sz) (h0 : sz ≠ 0) (hb0 : by_ ≠ 0) (hlo : lenOk sz news = true) (hs : x.isStr = false) (hne : news ≠ []) (hsz : (pgs.length + news.length) * by_ ≤ 140737488355328) :
 vappendR P H t t2 (pval L pgs) x = some (.row false n 0 (pgs.length + news.length), H.set L .dead ++ [.arr e sz (pgs ++ news)]) := by
 subst hn
 have hn0 : ¬ news.length = 0 := by simpa using hne
 unfold vappendR vappendF
 simp only [he, hu, hd, hz, hb, hx, Bool.false_eq_true, if_false]
 rw [if_pos ⟨hl, h0, hb0, hlo, by simp [hs], by unfold pval; split <;> rfl⟩, if_neg hn0]
 rcases hL with ⟨rfl, hL⟩ | ⟨hp, hL⟩
 · simp only [pval, if_true]
   rw [if_pos (by simpa using hsz), List.set_eq_of_length_le hL]
   simp
 simp only [pval, if_neg hp, hL]
 rw [if_pos (by refine ⟨?_, ?_, ?_⟩ <;> first | trivial | exact hsz | omega | simp)]
 simp
theorem g_build1 {t e : TypeId} {sz n : Nat} {zc cs : List AV} {x : AV} (he : elemAt P t = some (none, e, sz)) (hz : zcOf P e = some zc) (hl : zc.length = sz ∧ sz ≠ 0 ∧ 1 * sz ≤ 2 ^ 24) (hc : x.cells = some cs) (hs : cs.length = sz) (hn : H.length = n) : vbuildSlice P H t 1 [(0, x)] = some (.row true n 0 1, H ++ [.arr e sz [cs]]) := by
 subst hn
 simp only [vbuildSlice, he, hz]
 rw [if_pos hl]
 simp [vfillRows, hc, hs]
end
end Go.Vi
namespace Go.Vi
def rnone (n : Nat) : List (Option AV) := List.replicate n none
def rundef (n : Nat) : List (Option AV) := List.replicate n (some .undef)
section
variable {P : Program} {G : Glob} {md : Oper → Md} {ops : Array Oper} {r : List Oper} {env : List AV} {H : Hp} {K : List AV → Hp → Prop}
def plainOp : Op → Bool
 | .call ⟨.value _, _, _⟩ | .next _ _ => false
 | _ => true
theorem plain_vop {o : Oper} (hp : plainOp o.op = true) : ∀ k, (match vexec2 P md (ev G env) H o with | some (r, H') => k r H' | none => False) → vop (XS P G) P md G env H o k := by
 intro k h
 unfold vop
 split
 · rename_i ho
   rw [ho] at hp
   cases hp
 · rename_i ho
   rw [ho] at hp
   cases hp
 exact h
theorem w_next {d : Tmp} {x : Operand} {ty : TypeId} {pos : String} {aft : Array Edge} {g : Option (Nat × Bool)} {li l n : Nat} {seen : List Nat} {es : List (Int × AV)} (hg : wantedV g ops env = some true) (hx : ev G env x = some (.ptr li 0 0)) (h1 : H[li]? = some (.iter l n seen)) (h2 : H[l]? = some (.map es)) (hn : es.length = n)
 (ha : (∀ j, j < n → j ∈ seen) → vops P G md ops r (env.set d (.tup [.bool false])) H K)
 (hb : ∀ j e, es[j]? = some e → j ∉ seen → vops P G md ops r (env.set d (.tup [.bool true, .int .i64 e.1, e.2])) (H.set li (.iter l n (seen ++ [j]))) K) : vops P G md ops (⟨some d, .next x false, ty, pos, aft, g⟩ :: r) env H K := by
 refine ⟨env, Wk.refl _, ?_⟩
 simp only [hg, vop, hx, vnext, h1, h2]
 exact ⟨hn, ha, hb⟩
theorem wN {d : Tmp} {op : Op} {ty : TypeId} {pos : String} {aft : Array Edge} {g : Option (Nat × Bool)} {v : AV} {H' : Hp} (hg : wantedV g ops env = some true) (hx : vexec2 P md (ev G env) H ⟨some d, op, ty, pos, aft, g⟩ = some (v, H')) (hp : plainOp op = true)
 (h : vops P G md ops r (env.set d v) H' K) : vops P G md ops (⟨some d, op, ty, pos, aft, g⟩ :: r) env H K := w_opN hg hx rfl (plain_vop hp) h
theorem dN {d : Tmp} {op : Op} {ty : TypeId} {pos : String} {aft : Array Edge} {g : Option (Nat × Bool)} {v : AV} (hg : wantedV g ops env = some true) (hx : vexec2 P md (ev G env) H ⟨some d, op, ty, pos, aft, g⟩ = some (v, H)) (hp : plainOp op = true)
 (h : vopsD P G md ops r (env.set d v) H K) : vopsD P G md ops (⟨some d, op, ty, pos, aft, g⟩ :: r) env H K := d_opH hg hx (.inr rfl) rfl rfl (plain_vop hp) h
theorem wS {d : Tmp} {op : Op} {ty : TypeId} {pos : String} {aft : Array Edge} {g : Option (Nat × Bool)} (hg : wantedV g ops env = some false)
 (h : vops P G md ops r (env.set d (.tup [])) H K) : vops P G md ops (⟨some d, op, ty, pos, aft, g⟩ :: r) env H K := w_skipN hg rfl h
theorem dS {d : Tmp} {op : Op} {ty : TypeId} {pos : String} {aft : Array Edge} {g : Option (Nat × Bool)} (hg : wantedV g ops env = some false)
 (h : vopsD P G md ops r (env.set d (.tup [])) H K) : vopsD P G md ops (⟨some d, op, ty, pos, aft, g⟩ :: r) env H K := d_skipN hg rfl h
end
section
variable {P : Program} {G : Glob} {md : Oper → Md} {ops : Array Oper} {l : List Oper} {env : List AV} {H : Hp} {K : List AV → Hp → Prop}
theorem w_forget {env' : List AV} (hw : Wk env env') (h : vops P G md ops l env' H K) : vops P G md ops l env H K := by
 cases l with
 | nil => obtain ⟨e1, h1, h2⟩ := h; exact ⟨e1, hw.trans h1, h2⟩
 | cons o r => obtain ⟨e1, h1, h2⟩ := h; exact ⟨e1, hw.trans h1, h2⟩
theorem set_same {s : Nat} {v : AV} (h : env[s]? = some v) : env.set s v = env := by
 obtain ⟨h1, h2⟩ := List.getElem?_eq_some_iff.1 h
 subst h2
 exact List.set_getElem_self h1
theorem w_and (n s : Nat) (D : Bool → List (Option AV)) {c b : Bool} (hs : env[s]? = some (.bool c))
 (ht : c = true → (∀ env', Wk env' (updL env (D b)) → vops P G md ops (l.drop n) env' H K) → vops P G md ops l (env.set s (.bool true)) H K)
 (hf : c = false → (∀ env', Wk env' (updL env (D false)) → vops P G md ops (l.drop n) env' H K) → vops P G md ops l (env.set s (.bool false)) H K)
 (hJ : vops P G md ops (l.drop n) (updL env (D (c && b))) H K) : vops P G md ops l env H K := by
 cases c with
 | true =>
   have := ht rfl fun env' hw => w_forget hw hJ
   rwa [set_same hs] at this
 | false =>
   have := hf rfl fun env' hw => w_forget hw hJ
   rwa [set_same hs] at this
theorem w_or (n s : Nat) (D : Bool → List (Option AV)) {c b : Bool} (hs : env[s]? = some (.bool c))
 (ht : c = true → (∀ env', Wk env' (updL env (D true)) → vops P G md ops (l.drop n) env' H K) → vops P G md ops l (env.set s (.bool true)) H K)
 (hf : c = false → (∀ env', Wk env' (updL env (D b)) → vops P G md ops (l.drop n) env' H K) → vops P G md ops l (env.set s (.bool false)) H K)
 (hJ : vops P G md ops (l.drop n) (updL env (D (c || b))) H K) : vops P G md ops l env H K := by
 cases c with
 | true =>
   have := ht rfl fun env' hw => w_forget hw hJ
   rwa [set_same hs] at this
 | false =>
   have := hf rfl fun env' hw => w_forget hw hJ
   rwa [set_same hs] at this
end
section
variable {P : Program} {G : Glob} {md : Oper → Md} {ops : Array Oper} {env : List AV} {H : Hp} {nb : Nat} {Q : Qv}
theorem we {K' : List AV → Hp → Prop} {env' : List AV} (he : env = env') (h : K' env' H) : vops P G md ops [] env H (thenQ K' Q .normal) := w_end he h
theorem vs {x y : Code} (h : vc P G md nb x (thenQ (fun env H => vc P G md nb y Q env H) Q) env H) : vc P G md nb (.seq x y) Q env H := vc_seq h
theorem vc_meet {α : Type} {x y : Code} (f : α → List (Option AV)) (Hf : α → Hp) (h : ∀ Y : List AV → Hp → Prop, (∀ a env' H', nb ≤ (Hf a).length → H' = Hf a → Wk env' (updL env (f a)) → Y env' H') → vc P G md nb x (thenQ Y Q) env H)
 (hJ : ∀ a, nb ≤ (Hf a).length → vc P G md nb y Q (updL env (f a)) (Hf a)) : vc P G md nb (.seq x y) Q env H := by
 refine vc_join (fun e H' => ∃ a, e = updL env (f a) ∧ H' = Hf a) (h _ fun a env' H' hn hH hw => ?_) (fun e H' hn hj => ?_)
 · subst hH; exact ⟨_, _, [], (List.append_nil _).symm, hn, hw, .inl rfl, a, rfl, rfl⟩
 obtain ⟨a, rfl, rfl⟩ := hj; exact hJ a hn
theorem vc_meetS {α : Type} {x y : Code} (f : α → List (Option AV)) (hn : nb ≤ H.length) (h : ∀ Y : List AV → Hp → Prop, (∀ a env', Wk env' (updL env (f a)) → Y env' H) → vc P G md nb x (thenQ Y Q) env H)
 (hJ : ∀ a, vc P G md nb y Q (updL env (f a)) H) : vc P G md nb (.seq x y) Q env H :=
 vc_meet f (fun _ => H) (fun Y hY => h Y fun a env' hw => hY a env' H hn rfl hw) (fun a _ => hJ a)
theorem wr {id : Nat} {l : List Oper} (h : vops P G md l.toArray l env H (Q .normal)) : vc P G md nb (.region id l.toArray false) Q env H := w_region h
end
end Go.Vi
namespace Go.Vi
section
variable {P : Program} {G : Glob} {md : Oper → Md} {ops : Array Oper} {r : List Oper} {env : List AV} {H : Hp} {K : List AV → Hp → Prop} {wn : Nat → Nat × Nat} {hh : Nat → Hp} {i k : Nat} {J : List AV → Nat → Prop}
theorem v5 {x0 x1 x2 x3 x4 : AV} (he : env = (x0::x1::x2::x3::x4::[])) (h : vops P G md ops r (x0::x1::x2::x3::x4::[]) H K) : vops P G md ops r env H K := by rw [he]; exact h
theorem v6 {x0 x1 x2 x3 x4 x5 : AV} (he : env = (x0::x1::x2::x3::x4::x5::[])) (h : vops P G md ops r (x0::x1::x2::x3::x4::x5::[]) H K) : vops P G md ops r env H K := by rw [he]; exact h
theorem v7 {x0 x1 x2 x3 x4 x5 x6 : AV} (he : env = (x0::x1::x2::x3::x4::x5::x6::[])) (h : vops P G md ops r (x0::x1::x2::x3::x4::x5::x6::[]) H K) : vops P G md ops r env H K := by rw [he]; exact h
theorem v8 {x0 x1 x2 x3 x4 x5 x6 x7 : AV} (he : env = (x0::x1::x2::x3::x4::x5::x6::x7::[])) (h : vops P G md ops r (x0::x1::x2::x3::x4::x5::x6::x7::[]) H K) : vops P G md ops r env H K := by rw [he]; exact h
theorem v9 {x0 x1 x2 x3 x4 x5 x6 x7 x8 : AV} (he : env = (x0::x1::x2::x3::x4::x5::x6::x7::x8::[])) (h : vops P G md ops r (x0::x1::x2::x3::x4::x5::x6::x7::x8::[]) H K) : vops P G md ops r env H K := by rw [he]; exact h
theorem v10 {x0 x1 x2 x3 x4 x5 x6 x7 x8 x9 : AV} (he : env = (x0::x1::x2::x3::x4::x5::x6::x7::x8::x9::[])) (h : vops P G md ops r (x0::x1::x2::x3::x4::x5::x6::x7::x8::x9::[]) H K) : vops P G md ops r env H K := by rw [he]; exact h
theorem v11 {x0 x1 x2 x3 x4 x5 x6 x7 x8 x9 x10 : AV} (he : env = (x0::x1::x2::x3::x4::x5::x6::x7::x8::x9::x10::[])) (h : vops P G md ops r (x0::x1::x2::x3::x4::x5::x6::x7::x8::x9::x10::[]) H K) : vops P G md ops r env H K := by rw [he]; exact h
theorem v13 {x0 x1 x2 x3 x4 x5 x6 x7 x8 x9 x10 x11 x12 : AV} (he : env = (x0::x1::x2::x3::x4::x5::x6::x7::x8::x9::x10::x11::x12::[])) (h : vops P G md ops r (x0::x1::x2::x3::x4::x5::x6::x7::x8::x9::x10::x11::x12::[]) H K) : vops P G md ops r env H K := by rw [he]; exact h
theorem v15 {x0 x1 x2 x3 x4 x5 x6 x7 x8 x9 x10 x11 x12 x13 x14 : AV} (he : env = (x0::x1::x2::x3::x4::x5::x6::x7::x8::x9::x10::x11::x12::x13::x14::[])) (h : vops P G md ops r (x0::x1::x2::x3::x4::x5::x6::x7::x8::x9::x10::x11::x12::x13::x14::[]) H K) : vops P G md ops r env H K := by rw [he]; exact h
theorem v18 {x0 x1 x2 x3 x4 x5 x6 x7 x8 x9 x10 x11 x12 x13 x14 x15 x16 x17 : AV} (he : env = (x0::x1::x2::x3::x4::x5::x6::x7::x8::x9::x10::x11::x12::x13::x14::x15::x16::x17::[])) (h : vops P G md ops r (x0::x1::x2::x3::x4::x5::x6::x7::x8::x9::x10::x11::x12::x13::x14::x15::x16::x17::[]) H K) : vops P G md ops r env H K := by rw [he]; exact h
theorem v19 {x0 x1 x2 x3 x4 x5 x6 x7 x8 x9 x10 x11 x12 x13 x14 x15 x16 x17 x18 : AV} (he : env = (x0::x1::x2::x3::x4::x5::x6::x7::x8::x9::x10::x11::x12::x13::x14::x15::x16::x17::x18::[])) (h : vops P G md ops r (x0::x1::x2::x3::x4::x5::x6::x7::x8::x9::x10::x11::x12::x13::x14::x15::x16::x17::x18::[]) H K) : vops P G md ops r env H K := by rw [he]; exact h
theorem v20 {x0 x1 x2 x3 x4 x5 x6 x7 x8 x9 x10 x11 x12 x13 x14 x15 x16 x17 x18 x19 : AV} (he : env = (x0::x1::x2::x3::x4::x5::x6::x7::x8::x9::x10::x11::x12::x13::x14::x15::x16::x17::x18::x19::[])) (h : vops P G md ops r (x0::x1::x2::x3::x4::x5::x6::x7::x8::x9::x10::x11::x12::x13::x14::x15::x16::x17::x18::x19::[]) H K) : vops P G md ops r env H K := by rw [he]; exact h
theorem v22 {x0 x1 x2 x3 x4 x5 x6 x7 x8 x9 x10 x11 x12 x13 x14 x15 x16 x17 x18 x19 x20 x21 : AV} (he : env = (x0::x1::x2::x3::x4::x5::x6::x7::x8::x9::x10::x11::x12::x13::x14::x15::x16::x17::x18::x19::x20::x21::[])) (h : vops P G md ops r (x0::x1::x2::x3::x4::x5::x6::x7::x8::x9::x10::x11::x12::x13::x14::x15::x16::x17::x18::x19::x20::x21::[]) H K) : vops P G md ops r env H K := by rw [he]; exact h
theorem v23 {x0 x1 x2 x3 x4 x5 x6 x7 x8 x9 x10 x11 x12 x13 x14 x15 x16 x17 x18 x19 x20 x21 x22 : AV} (he : env = (x0::x1::x2::x3::x4::x5::x6::x7::x8::x9::x10::x11::x12::x13::x14::x15::x16::x17::x18::x19::x20::x21::x22::[])) (h : vops P G md ops r (x0::x1::x2::x3::x4::x5::x6::x7::x8::x9::x10::x11::x12::x13::x14::x15::x16::x17::x18::x19::x20::x21::x22::[]) H K) : vops P G md ops r env H K := by rw [he]; exact h
theorem v24 {x0 x1 x2 x3 x4 x5 x6 x7 x8 x9 x10 x11 x12 x13 x14 x15 x16 x17 x18 x19 x20 x21 x22 x23 : AV} (he : env = (x0::x1::x2::x3::x4::x5::x6::x7::x8::x9::x10::x11::x12::x13::x14::x15::x16::x17::x18::x19::x20::x21::x22::x23::[])) (h : vops P G md ops r (x0::x1::x2::x3::x4::x5::x6::x7::x8::x9::x10::x11::x12::x13::x14::x15::x16::x17::x18::x19::x20::x21::x22::x23::[]) H K) : vops P G md ops r env H K := by rw [he]; exact h
theorem w24 {x0 x1 x2 x3 x4 x5 x6 x7 x8 x9 x10 x11 x12 x13 x14 x15 x16 x17 x18 x19 x20 x21 x22 x23 : AV} (he : env = (x0::x1::x2::x3::x4::x5::x6::x7::x8::x9::x10::x11::x12::x13::x14::x15::x16::x17::x18::x19::x20::x21::x22::x23::[])) (h : vopsW P G md ops wn hh i r (x0::x1::x2::x3::x4::x5::x6::x7::x8::x9::x10::x11::x12::x13::x14::x15::x16::x17::x18::x19::x20::x21::x22::x23::[]) k J) : vopsW P G md ops wn hh i r env k J := by rw [he]; exact h
theorem v25 {x0 x1 x2 x3 x4 x5 x6 x7 x8 x9 x10 x11 x12 x13 x14 x15 x16 x17 x18 x19 x20 x21 x22 x23 x24 : AV} (he : env = (x0::x1::x2::x3::x4::x5::x6::x7::x8::x9::x10::x11::x12::x13::x14::x15::x16::x17::x18::x19::x20::x21::x22::x23::x24::[])) (h : vops P G md ops r (x0::x1::x2::x3::x4::x5::x6::x7::x8::x9::x10::x11::x12::x13::x14::x15::x16::x17::x18::x19::x20::x21::x22::x23::x24::[]) H K) : vops P G md ops r env H K := by rw [he]; exact h
theorem d26 {x0 x1 x2 x3 x4 x5 x6 x7 x8 x9 x10 x11 x12 x13 x14 x15 x16 x17 x18 x19 x20 x21 x22 x23 x24 x25 : AV} (he : env = (x0::x1::x2::x3::x4::x5::x6::x7::x8::x9::x10::x11::x12::x13::x14::x15::x16::x17::x18::x19::x20::x21::x22::x23::x24::x25::[])) (h : vopsD P G md ops r (x0::x1::x2::x3::x4::x5::x6::x7::x8::x9::x10::x11::x12::x13::x14::x15::x16::x17::x18::x19::x20::x21::x22::x23::x24::x25::[]) H K) : vopsD P G md ops r env H K := by rw [he]; exact h
theorem v26 {x0 x1 x2 x3 x4 x5 x6 x7 x8 x9 x10 x11 x12 x13 x14 x15 x16 x17 x18 x19 x20 x21 x22 x23 x24 x25 : AV} (he : env = (x0::x1::x2::x3::x4::x5::x6::x7::x8::x9::x10::x11::x12::x13::x14::x15::x16::x17::x18::x19::x20::x21::x22::x23::x24::x25::[])) (h : vops P G md ops r (x0::x1::x2::x3::x4::x5::x6::x7::x8::x9::x10::x11::x12::x13::x14::x15::x16::x17::x18::x19::x20::x21::x22::x23::x24::x25::[]) H K) : vops P G md ops r env H K := by rw [he]; exact h
theorem w26 {x0 x1 x2 x3 x4 x5 x6 x7 x8 x9 x10 x11 x12 x13 x14 x15 x16 x17 x18 x19 x20 x21 x22 x23 x24 x25 : AV} (he : env = (x0::x1::x2::x3::x4::x5::x6::x7::x8::x9::x10::x11::x12::x13::x14::x15::x16::x17::x18::x19::x20::x21::x22::x23::x24::x25::[])) (h : vopsW P G md ops wn hh i r (x0::x1::x2::x3::x4::x5::x6::x7::x8::x9::x10::x11::x12::x13::x14::x15::x16::x17::x18::x19::x20::x21::x22::x23::x24::x25::[]) k J) : vopsW P G md ops wn hh i r env k J := by rw [he]; exact h
theorem v28 {x0 x1 x2 x3 x4 x5 x6 x7 x8 x9 x10 x11 x12 x13 x14 x15 x16 x17 x18 x19 x20 x21 x22 x23 x24 x25 x26 x27 : AV} (he : env = (x0::x1::x2::x3::x4::x5::x6::x7::x8::x9::x10::x11::x12::x13::x14::x15::x16::x17::x18::x19::x20::x21::x22::x23::x24::x25::x26::x27::[])) (h : vops P G md ops r (x0::x1::x2::x3::x4::x5::x6::x7::x8::x9::x10::x11::x12::x13::x14::x15::x16::x17::x18::x19::x20::x21::x22::x23::x24::x25::x26::x27::[]) H K) : vops P G md ops r env H K := by rw [he]; exact h
theorem v31 {x0 x1 x2 x3 x4 x5 x6 x7 x8 x9 x10 x11 x12 x13 x14 x15 x16 x17 x18 x19 x20 x21 x22 x23 x24 x25 x26 x27 x28 x29 x30 : AV} (he : env = (x0::x1::x2::x3::x4::x5::x6::x7::x8::x9::x10::x11::x12::x13::x14::x15::x16::x17::x18::x19::x20::x21::x22::x23::x24::x25::x26::x27::x28::x29::x30::[])) (h : vops P G md ops r (x0::x1::x2::x3::x4::x5::x6::x7::x8::x9::x10::x11::x12::x13::x14::x15::x16::x17::x18::x19::x20::x21::x22::x23::x24::x25::x26::x27::x28::x29::x30::[]) H K) : vops P G md ops r env H K := by rw [he]; exact h
theorem v32 {x0 x1 x2 x3 x4 x5 x6 x7 x8 x9 x10 x11 x12 x13 x14 x15 x16 x17 x18 x19 x20 x21 x22 x23 x24 x25 x26 x27 x28 x29 x30 x31 : AV} (he : env = (x0::x1::x2::x3::x4::x5::x6::x7::x8::x9::x10::x11::x12::x13::x14::x15::x16::x17::x18::x19::x20::x21::x22::x23::x24::x25::x26::x27::x28::x29::x30::x31::[])) (h : vops P G md ops r (x0::x1::x2::x3::x4::x5::x6::x7::x8::x9::x10::x11::x12::x13::x14::x15::x16::x17::x18::x19::x20::x21::x22::x23::x24::x25::x26::x27::x28::x29::x30::x31::[]) H K) : vops P G md ops r env H K := by rw [he]; exact h
theorem v34 {x0 x1 x2 x3 x4 x5 x6 x7 x8 x9 x10 x11 x12 x13 x14 x15 x16 x17 x18 x19 x20 x21 x22 x23 x24 x25 x26 x27 x28 x29 x30 x31 x32 x33 : AV} (he : env = (x0::x1::x2::x3::x4::x5::x6::x7::x8::x9::x10::x11::x12::x13::x14::x15::x16::x17::x18::x19::x20::x21::x22::x23::x24::x25::x26::x27::x28::x29::x30::x31::x32::x33::[])) (h : vops P G md ops r (x0::x1::x2::x3::x4::x5::x6::x7::x8::x9::x10::x11::x12::x13::x14::x15::x16::x17::x18::x19::x20::x21::x22::x23::x24::x25::x26::x27::x28::x29::x30::x31::x32::x33::[]) H K) : vops P G md ops r env H K := by rw [he]; exact h
theorem v35 {x0 x1 x2 x3 x4 x5 x6 x7 x8 x9 x10 x11 x12 x13 x14 x15 x16 x17 x18 x19 x20 x21 x22 x23 x24 x25 x26 x27 x28 x29 x30 x31 x32 x33 x34 : AV} (he : env = (x0::x1::x2::x3::x4::x5::x6::x7::x8::x9::x10::x11::x12::x13::x14::x15::x16::x17::x18::x19::x20::x21::x22::x23::x24::x25::x26::x27::x28::x29::x30::x31::x32::x33::x34::[])) (h : vops P G md ops r (x0::x1::x2::x3::x4::x5::x6::x7::x8::x9::x10::x11::x12::x13::x14::x15::x16::x17::x18::x19::x20::x21::x22::x23::x24::x25::x26::x27::x28::x29::x30::x31::x32::x33::x34::[]) H K) : vops P G md ops r env H K := by rw [he]; exact h
theorem v41 {x0 x1 x2 x3 x4 x5 x6 x7 x8 x9 x10 x11 x12 x13 x14 x15 x16 x17 x18 x19 x20 x21 x22 x23 x24 x25 x26 x27 x28 x29 x30 x31 x32 x33 x34 x35 x36 x37 x38 x39 x40 : AV} (he : env = (x0::x1::x2::x3::x4::x5::x6::x7::x8::x9::x10::x11::x12::x13::x14::x15::x16::x17::x18::x19::x20::x21::x22::x23::x24::x25::x26::x27::x28::x29::x30::x31::x32::x33::x34::x35::x36::x37::x38::x39::x40::[])) (h : vops P G md ops r (x0::x1::x2::x3::x4::x5::x6::x7::x8::x9::x10::x11::x12::x13::x14::x15::x16::x17::x18::x19::x20::x21::x22::x23::x24::x25::x26::x27::x28::x29::x30::x31::x32::x33::x34::x35::x36::x37::x38::x39::x40::[]) H K) : vops P G md ops r env H K := by rw [he]; exact h
theorem v44 {x0 x1 x2 x3 x4 x5 x6 x7 x8 x9 x10 x11 x12 x13 x14 x15 x16 x17 x18 x19 x20 x21 x22 x23 x24 x25 x26 x27 x28 x29 x30 x31 x32 x33 x34 x35 x36 x37 x38 x39 x40 x41 x42 x43 : AV} (he : env = (x0::x1::x2::x3::x4::x5::x6::x7::x8::x9::x10::x11::x12::x13::x14::x15::x16::x17::x18::x19::x20::x21::x22::x23::x24::x25::x26::x27::x28::x29::x30::x31::x32::x33::x34::x35::x36::x37::x38::x39::x40::x41::x42::x43::[])) (h : vops P G md ops r (x0::x1::x2::x3::x4::x5::x6::x7::x8::x9::x10::x11::x12::x13::x14::x15::x16::x17::x18::x19::x20::x21::x22::x23::x24::x25::x26::x27::x28::x29::x30::x31::x32::x33::x34::x35::x36::x37::x38::x39::x40::x41::x42::x43::[]) H K) : vops P G md ops r env H K := by rw [he]; exact h
theorem d47 {x0 x1 x2 x3 x4 x5 x6 x7 x8 x9 x10 x11 x12 x13 x14 x15 x16 x17 x18 x19 x20 x21 x22 x23 x24 x25 x26 x27 x28 x29 x30 x31 x32 x33 x34 x35 x36 x37 x38 x39 x40 x41 x42 x43 x44 x45 x46 : AV} (he : env = (x0::x1::x2::x3::x4::x5::x6::x7::x8::x9::x10::x11::x12::x13::x14::x15::x16::x17::x18::x19::x20::x21::x22::x23::x24::x25::x26::x27::x28::x29::x30::x31::x32::x33::x34::x35::x36::x37::x38::x39::x40::x41::x42::x43::x44::x45::x46::[])) (h : vopsD P G md ops r (x0::x1::x2::x3::x4::x5::x6::x7::x8::x9::x10::x11::x12::x13::x14::x15::x16::x17::x18::x19::x20::x21::x22::x23::x24::x25::x26::x27::x28::x29::x30::x31::x32::x33::x34::x35::x36::x37::x38::x39::x40::x41::x42::x43::x44::x45::x46::[]) H K) : vopsD P G md ops r env H K := by rw [he]; exact h
theorem v47 {x0 x1 x2 x3 x4 x5 x6 x7 x8 x9 x10 x11 x12 x13 x14 x15 x16 x17 x18 x19 x20 x21 x22 x23 x24 x25 x26 x27 x28 x29 x30 x31 x32 x33 x34 x35 x36 x37 x38 x39 x40 x41 x42 x43 x44 x45 x46 : AV} (he : env = (x0::x1::x2::x3::x4::x5::x6::x7::x8::x9::x10::x11::x12::x13::x14::x15::x16::x17::x18::x19::x20::x21::x22::x23::x24::x25::x26::x27::x28::x29::x30::x31::x32::x33::x34::x35::x36::x37::x38::x39::x40::x41::x42::x43::x44::x45::x46::[])) (h : vops P G md ops r (x0::x1::x2::x3::x4::x5::x6::x7::x8::x9::x10::x11::x12::x13::x14::x15::x16::x17::x18::x19::x20::x21::x22::x23::x24::x25::x26::x27::x28::x29::x30::x31::x32::x33::x34::x35::x36::x37::x38::x39::x40::x41::x42::x43::x44::x45::x46::[]) H K) : vops P G md ops r env H K := by rw [he]; exact h
theorem d56 {x0 x1 x2 x3 x4 x5 x6 x7 x8 x9 x10 x11 x12 x13 x14 x15 x16 x17 x18 x19 x20 x21 x22 x23 x24 x25 x26 x27 x28 x29 x30 x31 x32 x33 x34 x35 x36 x37 x38 x39 x40 x41 x42 x43 x44 x45 x46 x47 x48 x49 x50 x51 x52 x53 x54 x55 : AV} (he : env = (x0::x1::x2::x3::x4::x5::x6::x7::x8::x9::x10::x11::x12::x13::x14::x15::x16::x17::x18::x19::x20::x21::x22::x23::x24::x25::x26::x27::x28::x29::x30::x31::x32::x33::x34::x35::x36::x37::x38::x39::x40::x41::x42::x43::x44::x45::x46::x47::x48::x49::x50::x51::x52::x53::x54::x55::[])) (h : vopsD P G md ops r (x0::x1::x2::x3::x4::x5::x6::x7::x8::x9::x10::x11::x12::x13::x14::x15::x16::x17::x18::x19::x20::x21::x22::x23::x24::x25::x26::x27::x28::x29::x30::x31::x32::x33::x34::x35::x36::x37::x38::x39::x40::x41::x42::x43::x44::x45::x46::x47::x48::x49::x50::x51::x52::x53::x54::x55::[]) H K) : vopsD P G md ops r env H K := by rw [he]; exact h
theorem v56 {x0 x1 x2 x3 x4 x5 x6 x7 x8 x9 x10 x11 x12 x13 x14 x15 x16 x17 x18 x19 x20 x21 x22 x23 x24 x25 x26 x27 x28 x29 x30 x31 x32 x33 x34 x35 x36 x37 x38 x39 x40 x41 x42 x43 x44 x45 x46 x47 x48 x49 x50 x51 x52 x53 x54 x55 : AV} (he : env = (x0::x1::x2::x3::x4::x5::x6::x7::x8::x9::x10::x11::x12::x13::x14::x15::x16::x17::x18::x19::x20::x21::x22::x23::x24::x25::x26::x27::x28::x29::x30::x31::x32::x33::x34::x35::x36::x37::x38::x39::x40::x41::x42::x43::x44::x45::x46::x47::x48::x49::x50::x51::x52::x53::x54::x55::[])) (h : vops P G md ops r (x0::x1::x2::x3::x4::x5::x6::x7::x8::x9::x10::x11::x12::x13::x14::x15::x16::x17::x18::x19::x20::x21::x22::x23::x24::x25::x26::x27::x28::x29::x30::x31::x32::x33::x34::x35::x36::x37::x38::x39::x40::x41::x42::x43::x44::x45::x46::x47::x48::x49::x50::x51::x52::x53::x54::x55::[]) H K) : vops P G md ops r env H K := by rw [he]; exact h
theorem d67 {x0 x1 x2 x3 x4 x5 x6 x7 x8 x9 x10 x11 x12 x13 x14 x15 x16 x17 x18 x19 x20 x21 x22 x23 x24 x25 x26 x27 x28 x29 x30 x31 x32 x33 x34 x35 x36 x37 x38 x39 x40 x41 x42 x43 x44 x45 x46 x47 x48 x49 x50 x51 x52 x53 x54 x55 x56 x57 x58 x59 x60 x61 x62 x63 x64 x65 x66 : AV} (he : env = (x0::x1::x2::x3::x4::x5::x6::x7::x8::x9::x10::x11::x12::x13::x14::x15::x16::x17::x18::x19::x20::x21::x22::x23::x24::x25::x26::x27::x28::x29::x30::x31::x32::x33::x34::x35::x36::x37::x38::x39::x40::x41::x42::x43::x44::x45::x46::x47::x48::x49::x50::x51::x52::x53::x54::x55::x56::x57::x58::x59::x60::x61::x62::x63::x64::x65::x66::[])) (h : vopsD P G md ops r (x0::x1::x2::x3::x4::x5::x6::x7::x8::x9::x10::x11::x12::x13::x14::x15::x16::x17::x18::x19::x20::x21::x22::x23::x24::x25::x26::x27::x28::x29::x30::x31::x32::x33::x34::x35::x36::x37::x38::x39::x40::x41::x42::x43::x44::x45::x46::x47::x48::x49::x50::x51::x52::x53::x54::x55::x56::x57::x58::x59::x60::x61::x62::x63::x64::x65::x66::[]) H K) : vopsD P G md ops r env H K := by rw [he]; exact h
theorem v67 {x0 x1 x2 x3 x4 x5 x6 x7 x8 x9 x10 x11 x12 x13 x14 x15 x16 x17 x18 x19 x20 x21 x22 x23 x24 x25 x26 x27 x28 x29 x30 x31 x32 x33 x34 x35 x36 x37 x38 x39 x40 x41 x42 x43 x44 x45 x46 x47 x48 x49 x50 x51 x52 x53 x54 x55 x56 x57 x58 x59 x60 x61 x62 x63 x64 x65 x66 : AV} (he : env = (x0::x1::x2::x3::x4::x5::x6::x7::x8::x9::x10::x11::x12::x13::x14::x15::x16::x17::x18::x19::x20::x21::x22::x23::x24::x25::x26::x27::x28::x29::x30::x31::x32::x33::x34::x35::x36::x37::x38::x39::x40::x41::x42::x43::x44::x45::x46::x47::x48::x49::x50::x51::x52::x53::x54::x55::x56::x57::x58::x59::x60::x61::x62::x63::x64::x65::x66::[])) (h : vops P G md ops r (x0::x1::x2::x3::x4::x5::x6::x7::x8::x9::x10::x11::x12::x13::x14::x15::x16::x17::x18::x19::x20::x21::x22::x23::x24::x25::x26::x27::x28::x29::x30::x31::x32::x33::x34::x35::x36::x37::x38::x39::x40::x41::x42::x43::x44::x45::x46::x47::x48::x49::x50::x51::x52::x53::x54::x55::x56::x57::x58::x59::x60::x61::x62::x63::x64::x65::x66::[]) H K) : vops P G md ops r env H K := by rw [he]; exact h
theorem v76 {x0 x1 x2 x3 x4 x5 x6 x7 x8 x9 x10 x11 x12 x13 x14 x15 x16 x17 x18 x19 x20 x21 x22 x23 x24 x25 x26 x27 x28 x29 x30 x31 x32 x33 x34 x35 x36 x37 x38 x39 x40 x41 x42 x43 x44 x45 x46 x47 x48 x49 x50 x51 x52 x53 x54 x55 x56 x57 x58 x59 x60 x61 x62 x63 x64 x65 x66 x67 x68 x69 x70 x71 x72 x73 x74 x75 : AV} (he : env = (x0::x1::x2::x3::x4::x5::x6::x7::x8::x9::x10::x11::x12::x13::x14::x15::x16::x17::x18::x19::x20::x21::x22::x23::x24::x25::x26::x27::x28::x29::x30::x31::x32::x33::x34::x35::x36::x37::x38::x39::x40::x41::x42::x43::x44::x45::x46::x47::x48::x49::x50::x51::x52::x53::x54::x55::x56::x57::x58::x59::x60::x61::x62::x63::x64::x65::x66::x67::x68::x69::x70::x71::x72::x73::x74::x75::[])) (h : vops P G md ops r (x0::x1::x2::x3::x4::x5::x6::x7::x8::x9::x10::x11::x12::x13::x14::x15::x16::x17::x18::x19::x20::x21::x22::x23::x24::x25::x26::x27::x28::x29::x30::x31::x32::x33::x34::x35::x36::x37::x38::x39::x40::x41::x42::x43::x44::x45::x46::x47::x48::x49::x50::x51::x52::x53::x54::x55::x56::x57::x58::x59::x60::x61::x62::x63::x64::x65::x66::x67::x68::x69::x70::x71::x72::x73::x74::x75::[]) H K) : vops P G md ops r env H K := by rw [he]; exact h
theorem v82 {x0 x1 x2 x3 x4 x5 x6 x7 x8 x9 x10 x11 x12 x13 x14 x15 x16 x17 x18 x19 x20 x21 x22 x23 x24 x25 x26 x27 x28 x29 x30 x31 x32 x33 x34 x35 x36 x37 x38 x39 x40 x41 x42 x43 x44 x45 x46 x47 x48 x49 x50 x51 x52 x53 x54 x55 x56 x57 x58 x59 x60 x61 x62 x63 x64 x65 x66 x67 x68 x69 x70 x71 x72 x73 x74 x75 x76 x77 x78 x79 x80 x81 : AV} (he : env = (x0::x1::x2::x3::x4::x5::x6::x7::x8::x9::x10::x11::x12::x13::x14::x15::x16::x17::x18::x19::x20::x21::x22::x23::x24::x25::x26::x27::x28::x29::x30::x31::x32::x33::x34::x35::x36::x37::x38::x39::x40::x41::x42::x43::x44::x45::x46::x47::x48::x49::x50::x51::x52::x53::x54::x55::x56::x57::x58::x59::x60::x61::x62::x63::x64::x65::x66::x67::x68::x69::x70::x71::x72::x73::x74::x75::x76::x77::x78::x79::x80::x81::[])) (h : vops P G md ops r (x0::x1::x2::x3::x4::x5::x6::x7::x8::x9::x10::x11::x12::x13::x14::x15::x16::x17::x18::x19::x20::x21::x22::x23::x24::x25::x26::x27::x28::x29::x30::x31::x32::x33::x34::x35::x36::x37::x38::x39::x40::x41::x42::x43::x44::x45::x46::x47::x48::x49::x50::x51::x52::x53::x54::x55::x56::x57::x58::x59::x60::x61::x62::x63::x64::x65::x66::x67::x68::x69::x70::x71::x72::x73::x74::x75::x76::x77::x78::x79::x80::x81::[]) H K) : vops P G md ops r env H K := by rw [he]; exact h
theorem d88 {x0 x1 x2 x3 x4 x5 x6 x7 x8 x9 x10 x11 x12 x13 x14 x15 x16 x17 x18 x19 x20 x21 x22 x23 x24 x25 x26 x27 x28 x29 x30 x31 x32 x33 x34 x35 x36 x37 x38 x39 x40 x41 x42 x43 x44 x45 x46 x47 x48 x49 x50 x51 x52 x53 x54 x55 x56 x57 x58 x59 x60 x61 x62 x63 x64 x65 x66 x67 x68 x69 x70 x71 x72 x73 x74 x75 x76 x77 x78 x79 x80 x81 x82 x83 x84 x85 x86 x87 : AV} (he : env = (x0::x1::x2::x3::x4::x5::x6::x7::x8::x9::x10::x11::x12::x13::x14::x15::x16::x17::x18::x19::x20::x21::x22::x23::x24::x25::x26::x27::x28::x29::x30::x31::x32::x33::x34::x35::x36::x37::x38::x39::x40::x41::x42::x43::x44::x45::x46::x47::x48::x49::x50::x51::x52::x53::x54::x55::x56::x57::x58::x59::x60::x61::x62::x63::x64::x65::x66::x67::x68::x69::x70::x71::x72::x73::x74::x75::x76::x77::x78::x79::x80::x81::x82::x83::x84::x85::x86::x87::[])) (h : vopsD P G md ops r (x0::x1::x2::x3::x4::x5::x6::x7::x8::x9::x10::x11::x12::x13::x14::x15::x16::x17::x18::x19::x20::x21::x22::x23::x24::x25::x26::x27::x28::x29::x30::x31::x32::x33::x34::x35::x36::x37::x38::x39::x40::x41::x42::x43::x44::x45::x46::x47::x48::x49::x50::x51::x52::x53::x54::x55::x56::x57::x58::x59::x60::x61::x62::x63::x64::x65::x66::x67::x68::x69::x70::x71::x72::x73::x74::x75::x76::x77::x78::x79::x80::x81::x82::x83::x84::x85::x86::x87::[]) H K) : vopsD P G md ops r env H K := by rw [he]; exact h
theorem v88 {x0 x1 x2 x3 x4 x5 x6 x7 x8 x9 x10 x11 x12 x13 x14 x15 x16 x17 x18 x19 x20 x21 x22 x23 x24 x25 x26 x27 x28 x29 x30 x31 x32 x33 x34 x35 x36 x37 x38 x39 x40 x41 x42 x43 x44 x45 x46 x47 x48 x49 x50 x51 x52 x53 x54 x55 x56 x57 x58 x59 x60 x61 x62 x63 x64 x65 x66 x67 x68 x69 x70 x71 x72 x73 x74 x75 x76 x77 x78 x79 x80 x81 x82 x83 x84 x85 x86 x87 : AV} (he : env = (x0::x1::x2::x3::x4::x5::x6::x7::x8::x9::x10::x11::x12::x13::x14::x15::x16::x17::x18::x19::x20::x21::x22::x23::x24::x25::x26::x27::x28::x29::x30::x31::x32::x33::x34::x35::x36::x37::x38::x39::x40::x41::x42::x43::x44::x45::x46::x47::x48::x49::x50::x51::x52::x53::x54::x55::x56::x57::x58::x59::x60::x61::x62::x63::x64::x65::x66::x67::x68::x69::x70::x71::x72::x73::x74::x75::x76::x77::x78::x79::x80::x81::x82::x83::x84::x85::x86::x87::[])) (h : vops P G md ops r (x0::x1::x2::x3::x4::x5::x6::x7::x8::x9::x10::x11::x12::x13::x14::x15::x16::x17::x18::x19::x20::x21::x22::x23::x24::x25::x26::x27::x28::x29::x30::x31::x32::x33::x34::x35::x36::x37::x38::x39::x40::x41::x42::x43::x44::x45::x46::x47::x48::x49::x50::x51::x52::x53::x54::x55::x56::x57::x58::x59::x60::x61::x62::x63::x64::x65::x66::x67::x68::x69::x70::x71::x72::x73::x74::x75::x76::x77::x78::x79::x80::x81::x82::x83::x84::x85::x86::x87::[]) H K) : vops P G md ops r env H K := by rw [he]; exact h
theorem v121 {x0 x1 x2 x3 x4 x5 x6 x7 x8 x9 x10 x11 x12 x13 x14 x15 x16 x17 x18 x19 x20 x21 x22 x23 x24 x25 x26 x27 x28 x29 x30 x31 x32 x33 x34 x35 x36 x37 x38 x39 x40 x41 x42 x43 x44 x45 x46 x47 x48 x49 x50 x51 x52 x53 x54 x55 x56 x57 x58 x59 x60 x61 x62 x63 x64 x65 x66 x67 x68 x69 x70 x71 x72 x73 x74 x75 x76 x77 x78 x79 x80 x81 x82 x83 x84 x85 x86 x87 x88 x89 x90 x91 x92 x93 x94 x95 x96 x97 x98 x99 x100 x101 x102 x103 x104 x105 x106 x107 x108 x109 x110 x111 x112 x113 x114 x115 x116 x117 x118 x119 x120 : AV} (he : env = (x0::x1::x2::x3::x4::x5::x6::x7::x8::x9::x10::x11::x12::x13::x14::x15::x16::x17::x18::x19::x20::x21::x22::x23::x24::x25::x26::x27::x28::x29::x30::x31::x32::x33::x34::x35::x36::x37::x38::x39::x40::x41::x42::x43::x44::x45::x46::x47::x48::x49::x50::x51::x52::x53::x54::x55::x56::x57::x58::x59::x60::x61::x62::x63::x64::x65::x66::x67::x68::x69::x70::x71::x72::x73::x74::x75::x76::x77::x78::x79::x80::x81::x82::x83::x84::x85::x86::x87::x88::x89::x90::x91::x92::x93::x94::x95::x96::x97::x98::x99::x100::x101::x102::x103::x104::x105::x106::x107::x108::x109::x110::x111::x112::x113::x114::x115::x116::x117::x118::x119::x120::[])) (h : vops P G md ops r (x0::x1::x2::x3::x4::x5::x6::x7::x8::x9::x10::x11::x12::x13::x14::x15::x16::x17::x18::x19::x20::x21::x22::x23::x24::x25::x26::x27::x28::x29::x30::x31::x32::x33::x34::x35::x36::x37::x38::x39::x40::x41::x42::x43::x44::x45::x46::x47::x48::x49::x50::x51::x52::x53::x54::x55::x56::x57::x58::x59::x60::x61::x62::x63::x64::x65::x66::x67::x68::x69::x70::x71::x72::x73::x74::x75::x76::x77::x78::x79::x80::x81::x82::x83::x84::x85::x86::x87::x88::x89::x90::x91::x92::x93::x94::x95::x96::x97::x98::x99::x100::x101::x102::x103::x104::x105::x106::x107::x108::x109::x110::x111::x112::x113::x114::x115::x116::x117::x118::x119::x120::[]) H K) : vops P G md ops r env H K := by rw [he]; exact h
theorem v139 {x0 x1 x2 x3 x4 x5 x6 x7 x8 x9 x10 x11 x12 x13 x14 x15 x16 x17 x18 x19 x20 x21 x22 x23 x24 x25 x26 x27 x28 x29 x30 x31 x32 x33 x34 x35 x36 x37 x38 x39 x40 x41 x42 x43 x44 x45 x46 x47 x48 x49 x50 x51 x52 x53 x54 x55 x56 x57 x58 x59 x60 x61 x62 x63 x64 x65 x66 x67 x68 x69 x70 x71 x72 x73 x74 x75 x76 x77 x78 x79 x80 x81 x82 x83 x84 x85 x86 x87 x88 x89 x90 x91 x92 x93 x94 x95 x96 x97 x98 x99 x100 x101 x102 x103 x104 x105 x106 x107 x108 x109 x110 x111 x112 x113 x114 x115 x116 x117 x118 x119 x120 x121 x122 x123 x124 x125 x126 x127 x128 x129 x130 x131 x132 x133 x134 x135 x136 x137 x138 : AV} (he : env = (x0::x1::x2::x3::x4::x5::x6::x7::x8::x9::x10::x11::x12::x13::x14::x15::x16::x17::x18::x19::x20::x21::x22::x23::x24::x25::x26::x27::x28::x29::x30::x31::x32::x33::x34::x35::x36::x37::x38::x39::x40::x41::x42::x43::x44::x45::x46::x47::x48::x49::x50::x51::x52::x53::x54::x55::x56::x57::x58::x59::x60::x61::x62::x63::x64::x65::x66::x67::x68::x69::x70::x71::x72::x73::x74::x75::x76::x77::x78::x79::x80::x81::x82::x83::x84::x85::x86::x87::x88::x89::x90::x91::x92::x93::x94::x95::x96::x97::x98::x99::x100::x101::x102::x103::x104::x105::x106::x107::x108::x109::x110::x111::x112::x113::x114::x115::x116::x117::x118::x119::x120::x121::x122::x123::x124::x125::x126::x127::x128::x129::x130::x131::x132::x133::x134::x135::x136::x137::x138::[])) (h : vops P G md ops r (x0::x1::x2::x3::x4::x5::x6::x7::x8::x9::x10::x11::x12::x13::x14::x15::x16::x17::x18::x19::x20::x21::x22::x23::x24::x25::x26::x27::x28::x29::x30::x31::x32::x33::x34::x35::x36::x37::x38::x39::x40::x41::x42::x43::x44::x45::x46::x47::x48::x49::x50::x51::x52::x53::x54::x55::x56::x57::x58::x59::x60::x61::x62::x63::x64::x65::x66::x67::x68::x69::x70::x71::x72::x73::x74::x75::x76::x77::x78::x79::x80::x81::x82::x83::x84::x85::x86::x87::x88::x89::x90::x91::x92::x93::x94::x95::x96::x97::x98::x99::x100::x101::x102::x103::x104::x105::x106::x107::x108::x109::x110::x111::x112::x113::x114::x115::x116::x117::x118::x119::x120::x121::x122::x123::x124::x125::x126::x127::x128::x129::x130::x131::x132::x133::x134::x135::x136::x137::x138::[]) H K) : vops P G md ops r env H K := by rw [he]; exact h
theorem v199 {x0 x1 x2 x3 x4 x5 x6 x7 x8 x9 x10 x11 x12 x13 x14 x15 x16 x17 x18 x19 x20 x21 x22 x23 x24 x25 x26 x27 x28 x29 x30 x31 x32 x33 x34 x35 x36 x37 x38 x39 x40 x41 x42 x43 x44 x45 x46 x47 x48 x49 x50 x51 x52 x53 x54 x55 x56 x57 x58 x59 x60 x61 x62 x63 x64 x65 x66 x67 x68 x69 x70 x71 x72 x73 x74 x75 x76 x77 x78 x79 x80 x81 x82 x83 x84 x85 x86 x87 x88 x89 x90 x91 x92 x93 x94 x95 x96 x97 x98 x99 x100 x101 x102 x103 x104 x105 x106 x107 x108 x109 x110 x111 x112 x113 x114 x115 x116 x117 x118 x119 x120 x121 x122 x123 x124 x125 x126 x127 x128 x129 x130 x131 x132 x133 x134 x135 x136 x137 x138 x139 x140 x141 x142 x143 x144 x145 x146 x147 x148 x149 x150 x151 x152 x153 x154 x155 x156 x157 x158 x159 x160 x161 x162 x163 x164 x165 x166 x167 x168 x169 x170 x171 x172 x173 x174 x175 x176 x177 x178 x179 x180 x181 x182 x183 x184 x185 x186 x187 x188 x189 x190 x191 x192 x193 x194 x195 x196 x197 x198 : AV} (he : env = (x0::x1::x2::x3::x4::x5::x6::x7::x8::x9::x10::x11::x12::x13::x14::x15::x16::x17::x18::x19::x20::x21::x22::x23::x24::x25::x26::x27::x28::x29::x30::x31::x32::x33::x34::x35::x36::x37::x38::x39::x40::x41::x42::x43::x44::x45::x46::x47::x48::x49::x50::x51::x52::x53::x54::x55::x56::x57::x58::x59::x60::x61::x62::x63::x64::x65::x66::x67::x68::x69::x70::x71::x72::x73::x74::x75::x76::x77::x78::x79::x80::x81::x82::x83::x84::x85::x86::x87::x88::x89::x90::x91::x92::x93::x94::x95::x96::x97::x98::x99::x100::x101::x102::x103::x104::x105::x106::x107::x108::x109::x110::x111::x112::x113::x114::x115::x116::x117::x118::x119::x120::x121::x122::x123::x124::x125::x126::x127::x128::x129::x130::x131::x132::x133::x134::x135::x136::x137::x138::x139::x140::x141::x142::x143::x144::x145::x146::x147::x148::x149::x150::x151::x152::x153::x154::x155::x156::x157::x158::x159::x160::x161::x162::x163::x164::x165::x166::x167::x168::x169::x170::x171::x172::x173::x174::x175::x176::x177::x178::x179::x180::x181::x182::x183::x184::x185::x186::x187::x188::x189::x190::x191::x192::x193::x194::x195::x196::x197::x198::[])) (h : vops P G md ops r (x0::x1::x2::x3::x4::x5::x6::x7::x8::x9::x10::x11::x12::x13::x14::x15::x16::x17::x18::x19::x20::x21::x22::x23::x24::x25::x26::x27::x28::x29::x30::x31::x32::x33::x34::x35::x36::x37::x38::x39::x40::x41::x42::x43::x44::x45::x46::x47::x48::x49::x50::x51::x52::x53::x54::x55::x56::x57::x58::x59::x60::x61::x62::x63::x64::x65::x66::x67::x68::x69::x70::x71::x72::x73::x74::x75::x76::x77::x78::x79::x80::x81::x82::x83::x84::x85::x86::x87::x88::x89::x90::x91::x92::x93::x94::x95::x96::x97::x98::x99::x100::x101::x102::x103::x104::x105::x106::x107::x108::x109::x110::x111::x112::x113::x114::x115::x116::x117::x118::x119::x120::x121::x122::x123::x124::x125::x126::x127::x128::x129::x130::x131::x132::x133::x134::x135::x136::x137::x138::x139::x140::x141::x142::x143::x144::x145::x146::x147::x148::x149::x150::x151::x152::x153::x154::x155::x156::x157::x158::x159::x160::x161::x162::x163::x164::x165::x166::x167::x168::x169::x170::x171::x172::x173::x174::x175::x176::x177::x178::x179::x180::x181::x182::x183::x184::x185::x186::x187::x188::x189::x190::x191::x192::x193::x194::x195::x196::x197::x198::[]) H K) : vops P G md ops r env H K := by rw [he]; exact h
end
end Go.Vi
namespace Go.Vi
section
variable {P : Program} {G : Glob} {md : Oper → Md} {ops : Array Oper} {r : List Oper} {env : List AV} {wn : Nat → Nat × Nat} {hh : Nat → Hp} {i k : Nat} {KK : List AV → Nat → Prop}
theorem e_skip {d : Tmp} {op : Op} {ty : TypeId} {pos : String} {aft : Array Edge} {g : Option (Nat × Bool)} {env' : List AV} {a b : Nat} (hg : wantedV g ops env = some false) (hc : clsOp md ⟨some d, op, ty, pos, aft, g⟩ ≠ 2) (hw : wn i = (a, b)) (hk : a ≤ k ∧ k ≤ b) (he : env.set d (.tup []) = env')
 (h : vopsW P G md ops wn hh (i + 1) r env' k KK) : vopsW P G md ops wn hh i (⟨some d, op, ty, pos, aft, g⟩ :: r) env k KK := by
 subst he
 simp only [vopsW, hg]
 rw [if_neg hc, hw]
 exact ⟨hk, h⟩
theorem e_skip2 {d : Tmp} {op : Op} {ty : TypeId} {pos : String} {aft : Array Edge} {g : Option (Nat × Bool)} {env' : List AV} {b : Nat} (hg : wantedV g ops env = some false) (hc : clsOp md ⟨some d, op, ty, pos, aft, g⟩ = 2) (hw : wn i = (k, b)) (hH : hh (k + 1) = hh k) (he : env.set d (.tup []) = env')
 (h : vopsW P G md ops wn hh (i + 1) r env' (k + 1) KK) : vopsW P G md ops wn hh i (⟨some d, op, ty, pos, aft, g⟩ :: r) env k KK := by
 subst he
 simp only [vopsW, hg]
 rw [if_pos hc, hw]
 exact ⟨rfl, hH, h⟩
theorem e_callI {d : Tmp} {ty : TypeId} {pos : String} {aft : Array Edge} {f : Operand} {args : Array Operand} {ts : Array TypeId} {gd : Option (Nat × Bool)} {g : Nat} {cs xs ys : List AV} {v : AV} {env' : List AV} {a b : Nat} (hg : wantedV gd ops env = some true) (hf : ev G env f = some (.clo g cs)) (hx : evL (ev G env) args.toList = some xs) (he : enterOk P g = true)
 (hm : md ⟨some d, .call ⟨.value f, args, ts⟩, ty, pos, aft, gd⟩ = .iso) (hw : wn i = (a, b)) (hk : a ≤ k ∧ k ≤ b) (hl : ∀ q, a ≤ q → q ≤ b → mapL (lend (hh q)) (xs ++ cs) = some ys) (hF : Fn P G g ys v) (hE : env.set d v = env')
 (h : vopsW P G md ops wn hh (i + 1) r env' k KK) : vopsW P G md ops wn hh i (⟨some d, .call ⟨.value f, args, ts⟩, ty, pos, aft, gd⟩ :: r) env k KK := by
 subst hE
 have hc : clsOp md ⟨some d, .call ⟨.value f, args, ts⟩, ty, pos, aft, gd⟩ ≠ 2 := by
  simp [clsOp, hm]
 simp only [vopsW, hg]
 rw [if_neg hc, hw]
 refine ⟨hk, v, fun q h1 h2 => ?_, h⟩
 simp only [vop, hf, hx, he, if_true]
 rw [hm]
 exact call_iso (hl q h1 h2) hF ⟨rfl, rfl⟩
end
def oldCx (c c' : Cx) : Cx := { c' with ρ := c.ρ }
theorem Rel.old {c c' : Cx} (m : Mono c c') {x : AV} {V' : Value} (h' : Rel c' x V') : ∀ {V : Value}, Rel c x V → Rel (oldCx c c') x V' := by
 induction h' with
 | undef V => intro V h; exact .undef _
 | int k n => intro V h; exact .int k n
 | bool b => intro V h; exact .bool b
 | str s => intro V h; exact .str s
 | nilp => intro V h; exact .nilp
 | ptr l i k cl hρ =>
   intro V h
   cases h with
   | ptr _ _ _ cl0 h0 =>
     have := m.ρ _ _ h0
     rw [hρ] at this
     cases this
     exact .ptr l i k cl h0
 | iptr bo cs b o F hb hv h1 h2 ih =>
   intro V h
   cases h with
   | iptr _ _ b0 o0 F0 hb0 hv0 h10 h20 => exact .iptr bo cs b o F hb hv h1 (fun j x hx => ih j x hx (h20 j x hx))
 | nils => intro V h; exact .nils
 | list t rows b o sz cap sp hsp F hb hc ht hsz hv h1 h2 ih =>
   intro V h
   cases h with
   | list _ _ b0 o0 sz0 cap0 sp0 hsp0 F0 hb0 hc0 ht0 hsz0 hv0 h10 h20 =>
     refine .list t rows b o sz cap sp hsp F (hb.imp id fun h => ?_) hc ht hsz hv h1 (fun i r j x hr hx => ih i r j x hr hx (h20 i r j x hr hx))
     cases t <;> exact h
 | row t l i n cl o cap hρ ho hn ht hl =>
   intro V h
   cases h with
   | row _ _ _ _ cl0 o0 cap0 h0 _ _ _ _ =>
     have := m.ρ _ _ h0
     rw [hρ] at this
     cases this
     exact .row t l i n cl o cap h0 ho hn ht hl
 | sub l i k es n cl o cap hρ ho hn =>
   intro V h
   cases h with
   | sub _ _ _ _ _ cl0 o0 cap0 h0 _ _ =>
     have := m.ρ _ _ h0
     rw [hρ] at this
     cases this
     exact .sub l i k es n cl o cap h0 ho hn
 | agg cs Vs hl h1 h2 ih =>
   intro V h
   cases h with
   | agg _ Us hl0 h10 h20 =>
     refine .agg cs Vs hl h1 (fun j x W hx hW => ?_)
     have hj : j < Us.size := by rw [← hl0]; exact (List.getElem?_eq_some_iff.1 hx).1
     exact ih j x W hx hW (h20 j x _ hx (Array.getElem?_eq_getElem hj))
 | tup cs Vs hl h2 ih =>
   intro V h
   cases h with
   | tup _ Us hl0 h20 =>
     refine .tup cs Vs hl (fun j x W hx hW => ?_)
     have hj : j < Us.size := by rw [← hl0]; exact (List.getElem?_eq_some_iff.1 hx).1
     exact ih j x W hx hW (h20 j x _ hx (Array.getElem?_eq_getElem hj))
 | clo f cs Vs hl h2 ih =>
   intro V h
   cases h with
   | clo _ _ Us hl0 h20 =>
     refine .clo f cs Vs hl (fun j x W hx hW => ?_)
     have hj : j < Us.size := by rw [← hl0]; exact (List.getElem?_eq_some_iff.1 hx).1
     exact ih j x W hx hW (h20 j x _ hx (Array.getElem?_eq_getElem hj))
 | nilf => intro V h; exact .nilf
 | nilm => intro V h; exact .nilm
 | mapr l cl hρ =>
   intro V h
   cases h with
   | mapr _ cl0 h0 =>
     have := m.ρ _ _ h0
     rw [hρ] at this
     cases this
     exact .mapr l cl h0
 | iface t v V h ih =>
   intro W hW
   cases hW with
   | iface _ _ U hU => exact .iface t v V (ih hU)
 | nili => intro V h; exact .nili
theorem RowsAt.old {c c' : Cx} (m : Mono c c') {cells cells0 : Array Value} {base base0 sz : Nat} {rows : List (List AV)} (h : RowsAt c' cells base sz rows) (h0 : RowsAt c cells0 base0 sz rows) : RowsAt (oldCx c c') cells base sz rows := by
 intro i r hr
 obtain ⟨a1, a2⟩ := h i r hr
 refine ⟨a1, fun j x hx => ?_⟩
 obtain ⟨V, v1, v2, v3⟩ := a2 j x hx
 obtain ⟨U, u1, u2, u3⟩ := (h0 i r hr).2 j x hx
 exact ⟨V, v1, v2, v3.old m u3⟩
theorem ObjAt.old {c c' : Cx} (m : Mono c c') {l : Nat} {o : VO} (h : ObjAt c' l o) (h0 : ObjAt c l o) : ObjAt (oldCx c c') l o := by
 have same : ∀ {k : Nat} {a b : CL}, c.ρ k = Option.some a → c'.ρ k = Option.some b → a = b := fun h1 h2 => by
  rw [m.ρ _ _ h1] at h2; cases h2; rfl
 cases o with
 | arr T sz rows =>
   obtain ⟨cl, cells, h1, h2, h3, h4, h5, h6, h7⟩ := h
   obtain ⟨cl0, cells0, g1, g2, g3, g4, g5, g6, g7⟩ := h0
   obtain rfl := same g1 h1
   exact ⟨cl0, cells, g1, h2, h3, h4, h5, h6, h7.old m g7⟩
 | frz sz rows =>
   obtain ⟨hv, cl, cells, T, fr, h1, h2, h3, h4, h5, h6⟩ := h
   obtain ⟨hv0, cl0, cells0, T0, fr0, g1, g2, g3, g4, g5, g6⟩ := h0
   obtain rfl := same g1 h1
   exact ⟨hv, cl0, cells, T, fr, g1, h2, h3, h4, h5, h6.old m g6⟩
 | one T cs =>
   obtain ⟨cl, cells, h1, h2, h3, h4, h5, h6, h7, h8, h9⟩ := h
   obtain ⟨cl0, cells0, g1, g2, g3, g4, g5, g6, g7, g8, g9⟩ := h0
   obtain rfl := same g1 h1
   exact ⟨cl0, cells, g1, h2, h3, h4, h5, h6, h7.old m g7, h8, h9⟩
 | map es =>
   obtain ⟨cl, ms, h1, h2, h3, h4, h5, h6⟩ := h
   obtain ⟨cl0, ms0, g1, g2, g3, g4, g5, g6⟩ := h0
   obtain rfl := same g1 h1
   exact ⟨cl0, ms, g1, h2, h3, h4, h5, fun j e he => let ⟨V, a, b⟩ := h6 j e he; let ⟨U, a0, b0⟩ := g6 j e he; ⟨V, a, b.old m b0⟩⟩
 | iter mm n seen =>
   obtain ⟨cl, cm, h1, h2, h3, h4, h5, h6⟩ := h
   obtain ⟨cl0, cm0, g1, g2, g3, g4, g5, g6⟩ := h0
   obtain rfl := same g1 h1
   obtain rfl := same g3 h3
   exact ⟨cl0, cm0, g1, h2, g3, h4, h5, h6⟩
 | dead => trivial
theorem To.strip {c c' : Cx} {H g : Hp} (s : Sim c H) (t : To c H c' (H ++ g)) : To c H (oldCx c c') H := by
 have m := t.ext.mono
 refine ⟨⟨⟨m.I, m.B, fun _ _ h => h, m.heap⟩, t.ext.size, t.ext.frame, t.ext.inew, t.ext.beq, fun l cl h => .inl h, t.ext.os, t.ext.tape, t.ext.output⟩,
  ⟨t.sim.bound, t.sim.boundB, fun l o h => ?_, fun l l' cl cl' h1 h2 e1 e2 e => ?_, s.fresh⟩, Nat.le_refl _, fun _ _ h => h⟩
 · exact (t.sim.obj l o (by rw [List.getElem?_append_left (List.getElem?_eq_some_iff.1 h).1]; exact h)).old m (s.obj l o h)
 exact t.sim.inj l l' cl cl' (live_app h1) (live_app h2) (m.ρ _ _ e1) (m.ρ _ _ e2) e
theorem XS.strip {P : Program} {G : Glob} {f : Nat} {args : List AV} {H : Hp} {K : AV → Hp → Prop} (h : XS P G f args H fun r H' => ∃ g, H' = H ++ g ∧ r.isVal = true ∧ K r H) : XS P G f args H K := by
 intro c Vs s hg hl hr
 refine (h c Vs s hg hl hr).mono ?_
 rintro e w' ⟨r, H', c', V, rfl, rfl, t, hR, g, rfl, hv, hk⟩
 exact ⟨r, H, oldCx c c', V, rfl, rfl, t.strip s, Rel.val (show MonoI c' (oldCx c c') from ⟨fun _ h => h, fun _ _ => rfl⟩) hR hv, hk⟩
theorem XS.stripF {P : Program} {G : Glob} {f : Nat} {args : List AV} {H : Hp} {K : AV → Hp → Prop} (h : XS P G f args H fun r H' => ∃ g H3 r', H' = H ++ g ∧ frzv H' r = some (H3, r') ∧ (∃ g', H3 = H ++ g') ∧ r'.isVal = true ∧ K r' H) : XS P G f args H K := by
 intro c Vs s hg hl hr
 refine (h c Vs s hg hl hr).mono ?_
 rintro e w' ⟨r, H', c', V, rfl, rfl, t, hR, g, H3, r', rfl, hf, ⟨g', rfl⟩, hv, hk⟩
 obtain ⟨c2, st, hR2⟩ := frzv_sound t.sim hR hf
 have t2 := t.trans s st.to_
 exact ⟨r', H, oldCx c c2, V, rfl, st.w.symm, t2.strip s, Rel.val (show MonoI c2 (oldCx c c2) from ⟨fun _ h => h, fun _ _ => rfl⟩) hR2 hv, hk⟩
end Go.Vi
set_option maxRecDepth 100000
namespace Go.Vi
section
variable {P : Program} {G : Glob} {md : Oper → Md} {ops : Array Oper} {r : List Oper} {env : List AV} {H : Hp} {K : List AV → Hp → Prop} {wn : Nat → Nat × Nat} {hh : Nat → Hp} {i k : Nat} {J : List AV → Nat → Prop}
theorem w13 {x0 x1 x2 x3 x4 x5 x6 x7 x8 x9 x10 x11 x12 : AV} (he : env = (x0::x1::x2::x3::x4::x5::x6::x7::x8::x9::x10::x11::x12::[])) (h : vopsW P G md ops wn hh i r (x0::x1::x2::x3::x4::x5::x6::x7::x8::x9::x10::x11::x12::[]) k J) : vopsW P G md ops wn hh i r env k J := by rw [he]; exact h
theorem v27 {x0 x1 x2 x3 x4 x5 x6 x7 x8 x9 x10 x11 x12 x13 x14 x15 x16 x17 x18 x19 x20 x21 x22 x23 x24 x25 x26 : AV} (he : env = (x0::x1::x2::x3::x4::x5::x6::x7::x8::x9::x10::x11::x12::x13::x14::x15::x16::x17::x18::x19::x20::x21::x22::x23::x24::x25::x26::[])) (h : vops P G md ops r (x0::x1::x2::x3::x4::x5::x6::x7::x8::x9::x10::x11::x12::x13::x14::x15::x16::x17::x18::x19::x20::x21::x22::x23::x24::x25::x26::[]) H K) : vops P G md ops r env H K := by rw [he]; exact h
theorem w27 {x0 x1 x2 x3 x4 x5 x6 x7 x8 x9 x10 x11 x12 x13 x14 x15 x16 x17 x18 x19 x20 x21 x22 x23 x24 x25 x26 : AV} (he : env = (x0::x1::x2::x3::x4::x5::x6::x7::x8::x9::x10::x11::x12::x13::x14::x15::x16::x17::x18::x19::x20::x21::x22::x23::x24::x25::x26::[])) (h : vopsW P G md ops wn hh i r (x0::x1::x2::x3::x4::x5::x6::x7::x8::x9::x10::x11::x12::x13::x14::x15::x16::x17::x18::x19::x20::x21::x22::x23::x24::x25::x26::[]) k J) : vopsW P G md ops wn hh i r env k J := by rw [he]; exact h
theorem v30 {x0 x1 x2 x3 x4 x5 x6 x7 x8 x9 x10 x11 x12 x13 x14 x15 x16 x17 x18 x19 x20 x21 x22 x23 x24 x25 x26 x27 x28 x29 : AV} (he : env = (x0::x1::x2::x3::x4::x5::x6::x7::x8::x9::x10::x11::x12::x13::x14::x15::x16::x17::x18::x19::x20::x21::x22::x23::x24::x25::x26::x27::x28::x29::[])) (h : vops P G md ops r (x0::x1::x2::x3::x4::x5::x6::x7::x8::x9::x10::x11::x12::x13::x14::x15::x16::x17::x18::x19::x20::x21::x22::x23::x24::x25::x26::x27::x28::x29::[]) H K) : vops P G md ops r env H K := by rw [he]; exact h
theorem v36 {x0 x1 x2 x3 x4 x5 x6 x7 x8 x9 x10 x11 x12 x13 x14 x15 x16 x17 x18 x19 x20 x21 x22 x23 x24 x25 x26 x27 x28 x29 x30 x31 x32 x33 x34 x35 : AV} (he : env = (x0::x1::x2::x3::x4::x5::x6::x7::x8::x9::x10::x11::x12::x13::x14::x15::x16::x17::x18::x19::x20::x21::x22::x23::x24::x25::x26::x27::x28::x29::x30::x31::x32::x33::x34::x35::[])) (h : vops P G md ops r (x0::x1::x2::x3::x4::x5::x6::x7::x8::x9::x10::x11::x12::x13::x14::x15::x16::x17::x18::x19::x20::x21::x22::x23::x24::x25::x26::x27::x28::x29::x30::x31::x32::x33::x34::x35::[]) H K) : vops P G md ops r env H K := by rw [he]; exact h
theorem d48 {x0 x1 x2 x3 x4 x5 x6 x7 x8 x9 x10 x11 x12 x13 x14 x15 x16 x17 x18 x19 x20 x21 x22 x23 x24 x25 x26 x27 x28 x29 x30 x31 x32 x33 x34 x35 x36 x37 x38 x39 x40 x41 x42 x43 x44 x45 x46 x47 : AV} (he : env = (x0::x1::x2::x3::x4::x5::x6::x7::x8::x9::x10::x11::x12::x13::x14::x15::x16::x17::x18::x19::x20::x21::x22::x23::x24::x25::x26::x27::x28::x29::x30::x31::x32::x33::x34::x35::x36::x37::x38::x39::x40::x41::x42::x43::x44::x45::x46::x47::[])) (h : vopsD P G md ops r (x0::x1::x2::x3::x4::x5::x6::x7::x8::x9::x10::x11::x12::x13::x14::x15::x16::x17::x18::x19::x20::x21::x22::x23::x24::x25::x26::x27::x28::x29::x30::x31::x32::x33::x34::x35::x36::x37::x38::x39::x40::x41::x42::x43::x44::x45::x46::x47::[]) H K) : vopsD P G md ops r env H K := by rw [he]; exact h
theorem v48 {x0 x1 x2 x3 x4 x5 x6 x7 x8 x9 x10 x11 x12 x13 x14 x15 x16 x17 x18 x19 x20 x21 x22 x23 x24 x25 x26 x27 x28 x29 x30 x31 x32 x33 x34 x35 x36 x37 x38 x39 x40 x41 x42 x43 x44 x45 x46 x47 : AV} (he : env = (x0::x1::x2::x3::x4::x5::x6::x7::x8::x9::x10::x11::x12::x13::x14::x15::x16::x17::x18::x19::x20::x21::x22::x23::x24::x25::x26::x27::x28::x29::x30::x31::x32::x33::x34::x35::x36::x37::x38::x39::x40::x41::x42::x43::x44::x45::x46::x47::[])) (h : vops P G md ops r (x0::x1::x2::x3::x4::x5::x6::x7::x8::x9::x10::x11::x12::x13::x14::x15::x16::x17::x18::x19::x20::x21::x22::x23::x24::x25::x26::x27::x28::x29::x30::x31::x32::x33::x34::x35::x36::x37::x38::x39::x40::x41::x42::x43::x44::x45::x46::x47::[]) H K) : vops P G md ops r env H K := by rw [he]; exact h
theorem v53 {x0 x1 x2 x3 x4 x5 x6 x7 x8 x9 x10 x11 x12 x13 x14 x15 x16 x17 x18 x19 x20 x21 x22 x23 x24 x25 x26 x27 x28 x29 x30 x31 x32 x33 x34 x35 x36 x37 x38 x39 x40 x41 x42 x43 x44 x45 x46 x47 x48 x49 x50 x51 x52 : AV} (he : env = (x0::x1::x2::x3::x4::x5::x6::x7::x8::x9::x10::x11::x12::x13::x14::x15::x16::x17::x18::x19::x20::x21::x22::x23::x24::x25::x26::x27::x28::x29::x30::x31::x32::x33::x34::x35::x36::x37::x38::x39::x40::x41::x42::x43::x44::x45::x46::x47::x48::x49::x50::x51::x52::[])) (h : vops P G md ops r (x0::x1::x2::x3::x4::x5::x6::x7::x8::x9::x10::x11::x12::x13::x14::x15::x16::x17::x18::x19::x20::x21::x22::x23::x24::x25::x26::x27::x28::x29::x30::x31::x32::x33::x34::x35::x36::x37::x38::x39::x40::x41::x42::x43::x44::x45::x46::x47::x48::x49::x50::x51::x52::[]) H K) : vops P G md ops r env H K := by rw [he]; exact h
theorem v61 {x0 x1 x2 x3 x4 x5 x6 x7 x8 x9 x10 x11 x12 x13 x14 x15 x16 x17 x18 x19 x20 x21 x22 x23 x24 x25 x26 x27 x28 x29 x30 x31 x32 x33 x34 x35 x36 x37 x38 x39 x40 x41 x42 x43 x44 x45 x46 x47 x48 x49 x50 x51 x52 x53 x54 x55 x56 x57 x58 x59 x60 : AV} (he : env = (x0::x1::x2::x3::x4::x5::x6::x7::x8::x9::x10::x11::x12::x13::x14::x15::x16::x17::x18::x19::x20::x21::x22::x23::x24::x25::x26::x27::x28::x29::x30::x31::x32::x33::x34::x35::x36::x37::x38::x39::x40::x41::x42::x43::x44::x45::x46::x47::x48::x49::x50::x51::x52::x53::x54::x55::x56::x57::x58::x59::x60::[])) (h : vops P G md ops r (x0::x1::x2::x3::x4::x5::x6::x7::x8::x9::x10::x11::x12::x13::x14::x15::x16::x17::x18::x19::x20::x21::x22::x23::x24::x25::x26::x27::x28::x29::x30::x31::x32::x33::x34::x35::x36::x37::x38::x39::x40::x41::x42::x43::x44::x45::x46::x47::x48::x49::x50::x51::x52::x53::x54::x55::x56::x57::x58::x59::x60::[]) H K) : vops P G md ops r env H K := by rw [he]; exact h
theorem w61 {x0 x1 x2 x3 x4 x5 x6 x7 x8 x9 x10 x11 x12 x13 x14 x15 x16 x17 x18 x19 x20 x21 x22 x23 x24 x25 x26 x27 x28 x29 x30 x31 x32 x33 x34 x35 x36 x37 x38 x39 x40 x41 x42 x43 x44 x45 x46 x47 x48 x49 x50 x51 x52 x53 x54 x55 x56 x57 x58 x59 x60 : AV} (he : env = (x0::x1::x2::x3::x4::x5::x6::x7::x8::x9::x10::x11::x12::x13::x14::x15::x16::x17::x18::x19::x20::x21::x22::x23::x24::x25::x26::x27::x28::x29::x30::x31::x32::x33::x34::x35::x36::x37::x38::x39::x40::x41::x42::x43::x44::x45::x46::x47::x48::x49::x50::x51::x52::x53::x54::x55::x56::x57::x58::x59::x60::[])) (h : vopsW P G md ops wn hh i r (x0::x1::x2::x3::x4::x5::x6::x7::x8::x9::x10::x11::x12::x13::x14::x15::x16::x17::x18::x19::x20::x21::x22::x23::x24::x25::x26::x27::x28::x29::x30::x31::x32::x33::x34::x35::x36::x37::x38::x39::x40::x41::x42::x43::x44::x45::x46::x47::x48::x49::x50::x51::x52::x53::x54::x55::x56::x57::x58::x59::x60::[]) k J) : vopsW P G md ops wn hh i r env k J := by rw [he]; exact h
theorem d90 {x0 x1 x2 x3 x4 x5 x6 x7 x8 x9 x10 x11 x12 x13 x14 x15 x16 x17 x18 x19 x20 x21 x22 x23 x24 x25 x26 x27 x28 x29 x30 x31 x32 x33 x34 x35 x36 x37 x38 x39 x40 x41 x42 x43 x44 x45 x46 x47 x48 x49 x50 x51 x52 x53 x54 x55 x56 x57 x58 x59 x60 x61 x62 x63 x64 x65 x66 x67 x68 x69 x70 x71 x72 x73 x74 x75 x76 x77 x78 x79 x80 x81 x82 x83 x84 x85 x86 x87 x88 x89 : AV} (he : env = (x0::x1::x2::x3::x4::x5::x6::x7::x8::x9::x10::x11::x12::x13::x14::x15::x16::x17::x18::x19::x20::x21::x22::x23::x24::x25::x26::x27::x28::x29::x30::x31::x32::x33::x34::x35::x36::x37::x38::x39::x40::x41::x42::x43::x44::x45::x46::x47::x48::x49::x50::x51::x52::x53::x54::x55::x56::x57::x58::x59::x60::x61::x62::x63::x64::x65::x66::x67::x68::x69::x70::x71::x72::x73::x74::x75::x76::x77::x78::x79::x80::x81::x82::x83::x84::x85::x86::x87::x88::x89::[])) (h : vopsD P G md ops r (x0::x1::x2::x3::x4::x5::x6::x7::x8::x9::x10::x11::x12::x13::x14::x15::x16::x17::x18::x19::x20::x21::x22::x23::x24::x25::x26::x27::x28::x29::x30::x31::x32::x33::x34::x35::x36::x37::x38::x39::x40::x41::x42::x43::x44::x45::x46::x47::x48::x49::x50::x51::x52::x53::x54::x55::x56::x57::x58::x59::x60::x61::x62::x63::x64::x65::x66::x67::x68::x69::x70::x71::x72::x73::x74::x75::x76::x77::x78::x79::x80::x81::x82::x83::x84::x85::x86::x87::x88::x89::[]) H K) : vopsD P G md ops r env H K := by rw [he]; exact h
theorem v90 {x0 x1 x2 x3 x4 x5 x6 x7 x8 x9 x10 x11 x12 x13 x14 x15 x16 x17 x18 x19 x20 x21 x22 x23 x24 x25 x26 x27 x28 x29 x30 x31 x32 x33 x34 x35 x36 x37 x38 x39 x40 x41 x42 x43 x44 x45 x46 x47 x48 x49 x50 x51 x52 x53 x54 x55 x56 x57 x58 x59 x60 x61 x62 x63 x64 x65 x66 x67 x68 x69 x70 x71 x72 x73 x74 x75 x76 x77 x78 x79 x80 x81 x82 x83 x84 x85 x86 x87 x88 x89 : AV} (he : env = (x0::x1::x2::x3::x4::x5::x6::x7::x8::x9::x10::x11::x12::x13::x14::x15::x16::x17::x18::x19::x20::x21::x22::x23::x24::x25::x26::x27::x28::x29::x30::x31::x32::x33::x34::x35::x36::x37::x38::x39::x40::x41::x42::x43::x44::x45::x46::x47::x48::x49::x50::x51::x52::x53::x54::x55::x56::x57::x58::x59::x60::x61::x62::x63::x64::x65::x66::x67::x68::x69::x70::x71::x72::x73::x74::x75::x76::x77::x78::x79::x80::x81::x82::x83::x84::x85::x86::x87::x88::x89::[])) (h : vops P G md ops r (x0::x1::x2::x3::x4::x5::x6::x7::x8::x9::x10::x11::x12::x13::x14::x15::x16::x17::x18::x19::x20::x21::x22::x23::x24::x25::x26::x27::x28::x29::x30::x31::x32::x33::x34::x35::x36::x37::x38::x39::x40::x41::x42::x43::x44::x45::x46::x47::x48::x49::x50::x51::x52::x53::x54::x55::x56::x57::x58::x59::x60::x61::x62::x63::x64::x65::x66::x67::x68::x69::x70::x71::x72::x73::x74::x75::x76::x77::x78::x79::x80::x81::x82::x83::x84::x85::x86::x87::x88::x89::[]) H K) : vops P G md ops r env H K := by rw [he]; exact h
theorem d91 {x0 x1 x2 x3 x4 x5 x6 x7 x8 x9 x10 x11 x12 x13 x14 x15 x16 x17 x18 x19 x20 x21 x22 x23 x24 x25 x26 x27 x28 x29 x30 x31 x32 x33 x34 x35 x36 x37 x38 x39 x40 x41 x42 x43 x44 x45 x46 x47 x48 x49 x50 x51 x52 x53 x54 x55 x56 x57 x58 x59 x60 x61 x62 x63 x64 x65 x66 x67 x68 x69 x70 x71 x72 x73 x74 x75 x76 x77 x78 x79 x80 x81 x82 x83 x84 x85 x86 x87 x88 x89 x90 : AV} (he : env = (x0::x1::x2::x3::x4::x5::x6::x7::x8::x9::x10::x11::x12::x13::x14::x15::x16::x17::x18::x19::x20::x21::x22::x23::x24::x25::x26::x27::x28::x29::x30::x31::x32::x33::x34::x35::x36::x37::x38::x39::x40::x41::x42::x43::x44::x45::x46::x47::x48::x49::x50::x51::x52::x53::x54::x55::x56::x57::x58::x59::x60::x61::x62::x63::x64::x65::x66::x67::x68::x69::x70::x71::x72::x73::x74::x75::x76::x77::x78::x79::x80::x81::x82::x83::x84::x85::x86::x87::x88::x89::x90::[])) (h : vopsD P G md ops r (x0::x1::x2::x3::x4::x5::x6::x7::x8::x9::x10::x11::x12::x13::x14::x15::x16::x17::x18::x19::x20::x21::x22::x23::x24::x25::x26::x27::x28::x29::x30::x31::x32::x33::x34::x35::x36::x37::x38::x39::x40::x41::x42::x43::x44::x45::x46::x47::x48::x49::x50::x51::x52::x53::x54::x55::x56::x57::x58::x59::x60::x61::x62::x63::x64::x65::x66::x67::x68::x69::x70::x71::x72::x73::x74::x75::x76::x77::x78::x79::x80::x81::x82::x83::x84::x85::x86::x87::x88::x89::x90::[]) H K) : vopsD P G md ops r env H K := by rw [he]; exact h
theorem v91 {x0 x1 x2 x3 x4 x5 x6 x7 x8 x9 x10 x11 x12 x13 x14 x15 x16 x17 x18 x19 x20 x21 x22 x23 x24 x25 x26 x27 x28 x29 x30 x31 x32 x33 x34 x35 x36 x37 x38 x39 x40 x41 x42 x43 x44 x45 x46 x47 x48 x49 x50 x51 x52 x53 x54 x55 x56 x57 x58 x59 x60 x61 x62 x63 x64 x65 x66 x67 x68 x69 x70 x71 x72 x73 x74 x75 x76 x77 x78 x79 x80 x81 x82 x83 x84 x85 x86 x87 x88 x89 x90 : AV} (he : env = (x0::x1::x2::x3::x4::x5::x6::x7::x8::x9::x10::x11::x12::x13::x14::x15::x16::x17::x18::x19::x20::x21::x22::x23::x24::x25::x26::x27::x28::x29::x30::x31::x32::x33::x34::x35::x36::x37::x38::x39::x40::x41::x42::x43::x44::x45::x46::x47::x48::x49::x50::x51::x52::x53::x54::x55::x56::x57::x58::x59::x60::x61::x62::x63::x64::x65::x66::x67::x68::x69::x70::x71::x72::x73::x74::x75::x76::x77::x78::x79::x80::x81::x82::x83::x84::x85::x86::x87::x88::x89::x90::[])) (h : vops P G md ops r (x0::x1::x2::x3::x4::x5::x6::x7::x8::x9::x10::x11::x12::x13::x14::x15::x16::x17::x18::x19::x20::x21::x22::x23::x24::x25::x26::x27::x28::x29::x30::x31::x32::x33::x34::x35::x36::x37::x38::x39::x40::x41::x42::x43::x44::x45::x46::x47::x48::x49::x50::x51::x52::x53::x54::x55::x56::x57::x58::x59::x60::x61::x62::x63::x64::x65::x66::x67::x68::x69::x70::x71::x72::x73::x74::x75::x76::x77::x78::x79::x80::x81::x82::x83::x84::x85::x86::x87::x88::x89::x90::[]) H K) : vops P G md ops r env H K := by rw [he]; exact h
theorem w91 {x0 x1 x2 x3 x4 x5 x6 x7 x8 x9 x10 x11 x12 x13 x14 x15 x16 x17 x18 x19 x20 x21 x22 x23 x24 x25 x26 x27 x28 x29 x30 x31 x32 x33 x34 x35 x36 x37 x38 x39 x40 x41 x42 x43 x44 x45 x46 x47 x48 x49 x50 x51 x52 x53 x54 x55 x56 x57 x58 x59 x60 x61 x62 x63 x64 x65 x66 x67 x68 x69 x70 x71 x72 x73 x74 x75 x76 x77 x78 x79 x80 x81 x82 x83 x84 x85 x86 x87 x88 x89 x90 : AV} (he : env = (x0::x1::x2::x3::x4::x5::x6::x7::x8::x9::x10::x11::x12::x13::x14::x15::x16::x17::x18::x19::x20::x21::x22::x23::x24::x25::x26::x27::x28::x29::x30::x31::x32::x33::x34::x35::x36::x37::x38::x39::x40::x41::x42::x43::x44::x45::x46::x47::x48::x49::x50::x51::x52::x53::x54::x55::x56::x57::x58::x59::x60::x61::x62::x63::x64::x65::x66::x67::x68::x69::x70::x71::x72::x73::x74::x75::x76::x77::x78::x79::x80::x81::x82::x83::x84::x85::x86::x87::x88::x89::x90::[])) (h : vopsW P G md ops wn hh i r (x0::x1::x2::x3::x4::x5::x6::x7::x8::x9::x10::x11::x12::x13::x14::x15::x16::x17::x18::x19::x20::x21::x22::x23::x24::x25::x26::x27::x28::x29::x30::x31::x32::x33::x34::x35::x36::x37::x38::x39::x40::x41::x42::x43::x44::x45::x46::x47::x48::x49::x50::x51::x52::x53::x54::x55::x56::x57::x58::x59::x60::x61::x62::x63::x64::x65::x66::x67::x68::x69::x70::x71::x72::x73::x74::x75::x76::x77::x78::x79::x80::x81::x82::x83::x84::x85::x86::x87::x88::x89::x90::[]) k J) : vopsW P G md ops wn hh i r env k J := by rw [he]; exact h
theorem d93 {x0 x1 x2 x3 x4 x5 x6 x7 x8 x9 x10 x11 x12 x13 x14 x15 x16 x17 x18 x19 x20 x21 x22 x23 x24 x25 x26 x27 x28 x29 x30 x31 x32 x33 x34 x35 x36 x37 x38 x39 x40 x41 x42 x43 x44 x45 x46 x47 x48 x49 x50 x51 x52 x53 x54 x55 x56 x57 x58 x59 x60 x61 x62 x63 x64 x65 x66 x67 x68 x69 x70 x71 x72 x73 x74 x75 x76 x77 x78 x79 x80 x81 x82 x83 x84 x85 x86 x87 x88 x89 x90 x91 x92 : AV} (he : env = (x0::x1::x2::x3::x4::x5::x6::x7::x8::x9::x10::x11::x12::x13::x14::x15::x16::x17::x18::x19::x20::x21::x22::x23::x24::x25::x26::x27::x28::x29::x30::x31::x32::x33::x34::x35::x36::x37::x38::x39::x40::x41::x42::x43::x44::x45::x46::x47::x48::x49::x50::x51::x52::x53::x54::x55::x56::x57::x58::x59::x60::x61::x62::x63::x64::x65::x66::x67::x68::x69::x70::x71::x72::x73::x74::x75::x76::x77::x78::x79::x80::x81::x82::x83::x84::x85::x86::x87::x88::x89::x90::x91::x92::[])) (h : vopsD P G md ops r (x0::x1::x2::x3::x4::x5::x6::x7::x8::x9::x10::x11::x12::x13::x14::x15::x16::x17::x18::x19::x20::x21::x22::x23::x24::x25::x26::x27::x28::x29::x30::x31::x32::x33::x34::x35::x36::x37::x38::x39::x40::x41::x42::x43::x44::x45::x46::x47::x48::x49::x50::x51::x52::x53::x54::x55::x56::x57::x58::x59::x60::x61::x62::x63::x64::x65::x66::x67::x68::x69::x70::x71::x72::x73::x74::x75::x76::x77::x78::x79::x80::x81::x82::x83::x84::x85::x86::x87::x88::x89::x90::x91::x92::[]) H K) : vopsD P G md ops r env H K := by rw [he]; exact h
theorem v93 {x0 x1 x2 x3 x4 x5 x6 x7 x8 x9 x10 x11 x12 x13 x14 x15 x16 x17 x18 x19 x20 x21 x22 x23 x24 x25 x26 x27 x28 x29 x30 x31 x32 x33 x34 x35 x36 x37 x38 x39 x40 x41 x42 x43 x44 x45 x46 x47 x48 x49 x50 x51 x52 x53 x54 x55 x56 x57 x58 x59 x60 x61 x62 x63 x64 x65 x66 x67 x68 x69 x70 x71 x72 x73 x74 x75 x76 x77 x78 x79 x80 x81 x82 x83 x84 x85 x86 x87 x88 x89 x90 x91 x92 : AV} (he : env = (x0::x1::x2::x3::x4::x5::x6::x7::x8::x9::x10::x11::x12::x13::x14::x15::x16::x17::x18::x19::x20::x21::x22::x23::x24::x25::x26::x27::x28::x29::x30::x31::x32::x33::x34::x35::x36::x37::x38::x39::x40::x41::x42::x43::x44::x45::x46::x47::x48::x49::x50::x51::x52::x53::x54::x55::x56::x57::x58::x59::x60::x61::x62::x63::x64::x65::x66::x67::x68::x69::x70::x71::x72::x73::x74::x75::x76::x77::x78::x79::x80::x81::x82::x83::x84::x85::x86::x87::x88::x89::x90::x91::x92::[])) (h : vops P G md ops r (x0::x1::x2::x3::x4::x5::x6::x7::x8::x9::x10::x11::x12::x13::x14::x15::x16::x17::x18::x19::x20::x21::x22::x23::x24::x25::x26::x27::x28::x29::x30::x31::x32::x33::x34::x35::x36::x37::x38::x39::x40::x41::x42::x43::x44::x45::x46::x47::x48::x49::x50::x51::x52::x53::x54::x55::x56::x57::x58::x59::x60::x61::x62::x63::x64::x65::x66::x67::x68::x69::x70::x71::x72::x73::x74::x75::x76::x77::x78::x79::x80::x81::x82::x83::x84::x85::x86::x87::x88::x89::x90::x91::x92::[]) H K) : vops P G md ops r env H K := by rw [he]; exact h
theorem w93 {x0 x1 x2 x3 x4 x5 x6 x7 x8 x9 x10 x11 x12 x13 x14 x15 x16 x17 x18 x19 x20 x21 x22 x23 x24 x25 x26 x27 x28 x29 x30 x31 x32 x33 x34 x35 x36 x37 x38 x39 x40 x41 x42 x43 x44 x45 x46 x47 x48 x49 x50 x51 x52 x53 x54 x55 x56 x57 x58 x59 x60 x61 x62 x63 x64 x65 x66 x67 x68 x69 x70 x71 x72 x73 x74 x75 x76 x77 x78 x79 x80 x81 x82 x83 x84 x85 x86 x87 x88 x89 x90 x91 x92 : AV} (he : env = (x0::x1::x2::x3::x4::x5::x6::x7::x8::x9::x10::x11::x12::x13::x14::x15::x16::x17::x18::x19::x20::x21::x22::x23::x24::x25::x26::x27::x28::x29::x30::x31::x32::x33::x34::x35::x36::x37::x38::x39::x40::x41::x42::x43::x44::x45::x46::x47::x48::x49::x50::x51::x52::x53::x54::x55::x56::x57::x58::x59::x60::x61::x62::x63::x64::x65::x66::x67::x68::x69::x70::x71::x72::x73::x74::x75::x76::x77::x78::x79::x80::x81::x82::x83::x84::x85::x86::x87::x88::x89::x90::x91::x92::[])) (h : vopsW P G md ops wn hh i r (x0::x1::x2::x3::x4::x5::x6::x7::x8::x9::x10::x11::x12::x13::x14::x15::x16::x17::x18::x19::x20::x21::x22::x23::x24::x25::x26::x27::x28::x29::x30::x31::x32::x33::x34::x35::x36::x37::x38::x39::x40::x41::x42::x43::x44::x45::x46::x47::x48::x49::x50::x51::x52::x53::x54::x55::x56::x57::x58::x59::x60::x61::x62::x63::x64::x65::x66::x67::x68::x69::x70::x71::x72::x73::x74::x75::x76::x77::x78::x79::x80::x81::x82::x83::x84::x85::x86::x87::x88::x89::x90::x91::x92::[]) k J) : vopsW P G md ops wn hh i r env k J := by rw [he]; exact h
theorem d121 {x0 x1 x2 x3 x4 x5 x6 x7 x8 x9 x10 x11 x12 x13 x14 x15 x16 x17 x18 x19 x20 x21 x22 x23 x24 x25 x26 x27 x28 x29 x30 x31 x32 x33 x34 x35 x36 x37 x38 x39 x40 x41 x42 x43 x44 x45 x46 x47 x48 x49 x50 x51 x52 x53 x54 x55 x56 x57 x58 x59 x60 x61 x62 x63 x64 x65 x66 x67 x68 x69 x70 x71 x72 x73 x74 x75 x76 x77 x78 x79 x80 x81 x82 x83 x84 x85 x86 x87 x88 x89 x90 x91 x92 x93 x94 x95 x96 x97 x98 x99 x100 x101 x102 x103 x104 x105 x106 x107 x108 x109 x110 x111 x112 x113 x114 x115 x116 x117 x118 x119 x120 : AV} (he : env = (x0::x1::x2::x3::x4::x5::x6::x7::x8::x9::x10::x11::x12::x13::x14::x15::x16::x17::x18::x19::x20::x21::x22::x23::x24::x25::x26::x27::x28::x29::x30::x31::x32::x33::x34::x35::x36::x37::x38::x39::x40::x41::x42::x43::x44::x45::x46::x47::x48::x49::x50::x51::x52::x53::x54::x55::x56::x57::x58::x59::x60::x61::x62::x63::x64::x65::x66::x67::x68::x69::x70::x71::x72::x73::x74::x75::x76::x77::x78::x79::x80::x81::x82::x83::x84::x85::x86::x87::x88::x89::x90::x91::x92::x93::x94::x95::x96::x97::x98::x99::x100::x101::x102::x103::x104::x105::x106::x107::x108::x109::x110::x111::x112::x113::x114::x115::x116::x117::x118::x119::x120::[])) (h : vopsD P G md ops r (x0::x1::x2::x3::x4::x5::x6::x7::x8::x9::x10::x11::x12::x13::x14::x15::x16::x17::x18::x19::x20::x21::x22::x23::x24::x25::x26::x27::x28::x29::x30::x31::x32::x33::x34::x35::x36::x37::x38::x39::x40::x41::x42::x43::x44::x45::x46::x47::x48::x49::x50::x51::x52::x53::x54::x55::x56::x57::x58::x59::x60::x61::x62::x63::x64::x65::x66::x67::x68::x69::x70::x71::x72::x73::x74::x75::x76::x77::x78::x79::x80::x81::x82::x83::x84::x85::x86::x87::x88::x89::x90::x91::x92::x93::x94::x95::x96::x97::x98::x99::x100::x101::x102::x103::x104::x105::x106::x107::x108::x109::x110::x111::x112::x113::x114::x115::x116::x117::x118::x119::x120::[]) H K) : vopsD P G md ops r env H K := by rw [he]; exact h
theorem w121 {x0 x1 x2 x3 x4 x5 x6 x7 x8 x9 x10 x11 x12 x13 x14 x15 x16 x17 x18 x19 x20 x21 x22 x23 x24 x25 x26 x27 x28 x29 x30 x31 x32 x33 x34 x35 x36 x37 x38 x39 x40 x41 x42 x43 x44 x45 x46 x47 x48 x49 x50 x51 x52 x53 x54 x55 x56 x57 x58 x59 x60 x61 x62 x63 x64 x65 x66 x67 x68 x69 x70 x71 x72 x73 x74 x75 x76 x77 x78 x79 x80 x81 x82 x83 x84 x85 x86 x87 x88 x89 x90 x91 x92 x93 x94 x95 x96 x97 x98 x99 x100 x101 x102 x103 x104 x105 x106 x107 x108 x109 x110 x111 x112 x113 x114 x115 x116 x117 x118 x119 x120 : AV} (he : env = (x0::x1::x2::x3::x4::x5::x6::x7::x8::x9::x10::x11::x12::x13::x14::x15::x16::x17::x18::x19::x20::x21::x22::x23::x24::x25::x26::x27::x28::x29::x30::x31::x32::x33::x34::x35::x36::x37::x38::x39::x40::x41::x42::x43::x44::x45::x46::x47::x48::x49::x50::x51::x52::x53::x54::x55::x56::x57::x58::x59::x60::x61::x62::x63::x64::x65::x66::x67::x68::x69::x70::x71::x72::x73::x74::x75::x76::x77::x78::x79::x80::x81::x82::x83::x84::x85::x86::x87::x88::x89::x90::x91::x92::x93::x94::x95::x96::x97::x98::x99::x100::x101::x102::x103::x104::x105::x106::x107::x108::x109::x110::x111::x112::x113::x114::x115::x116::x117::x118::x119::x120::[])) (h : vopsW P G md ops wn hh i r (x0::x1::x2::x3::x4::x5::x6::x7::x8::x9::x10::x11::x12::x13::x14::x15::x16::x17::x18::x19::x20::x21::x22::x23::x24::x25::x26::x27::x28::x29::x30::x31::x32::x33::x34::x35::x36::x37::x38::x39::x40::x41::x42::x43::x44::x45::x46::x47::x48::x49::x50::x51::x52::x53::x54::x55::x56::x57::x58::x59::x60::x61::x62::x63::x64::x65::x66::x67::x68::x69::x70::x71::x72::x73::x74::x75::x76::x77::x78::x79::x80::x81::x82::x83::x84::x85::x86::x87::x88::x89::x90::x91::x92::x93::x94::x95::x96::x97::x98::x99::x100::x101::x102::x103::x104::x105::x106::x107::x108::x109::x110::x111::x112::x113::x114::x115::x116::x117::x118::x119::x120::[]) k J) : vopsW P G md ops wn hh i r env k J := by rw [he]; exact h
theorem d132 {x0 x1 x2 x3 x4 x5 x6 x7 x8 x9 x10 x11 x12 x13 x14 x15 x16 x17 x18 x19 x20 x21 x22 x23 x24 x25 x26 x27 x28 x29 x30 x31 x32 x33 x34 x35 x36 x37 x38 x39 x40 x41 x42 x43 x44 x45 x46 x47 x48 x49 x50 x51 x52 x53 x54 x55 x56 x57 x58 x59 x60 x61 x62 x63 x64 x65 x66 x67 x68 x69 x70 x71 x72 x73 x74 x75 x76 x77 x78 x79 x80 x81 x82 x83 x84 x85 x86 x87 x88 x89 x90 x91 x92 x93 x94 x95 x96 x97 x98 x99 x100 x101 x102 x103 x104 x105 x106 x107 x108 x109 x110 x111 x112 x113 x114 x115 x116 x117 x118 x119 x120 x121 x122 x123 x124 x125 x126 x127 x128 x129 x130 x131 : AV} (he : env = (x0::x1::x2::x3::x4::x5::x6::x7::x8::x9::x10::x11::x12::x13::x14::x15::x16::x17::x18::x19::x20::x21::x22::x23::x24::x25::x26::x27::x28::x29::x30::x31::x32::x33::x34::x35::x36::x37::x38::x39::x40::x41::x42::x43::x44::x45::x46::x47::x48::x49::x50::x51::x52::x53::x54::x55::x56::x57::x58::x59::x60::x61::x62::x63::x64::x65::x66::x67::x68::x69::x70::x71::x72::x73::x74::x75::x76::x77::x78::x79::x80::x81::x82::x83::x84::x85::x86::x87::x88::x89::x90::x91::x92::x93::x94::x95::x96::x97::x98::x99::x100::x101::x102::x103::x104::x105::x106::x107::x108::x109::x110::x111::x112::x113::x114::x115::x116::x117::x118::x119::x120::x121::x122::x123::x124::x125::x126::x127::x128::x129::x130::x131::[])) (h : vopsD P G md ops r (x0::x1::x2::x3::x4::x5::x6::x7::x8::x9::x10::x11::x12::x13::x14::x15::x16::x17::x18::x19::x20::x21::x22::x23::x24::x25::x26::x27::x28::x29::x30::x31::x32::x33::x34::x35::x36::x37::x38::x39::x40::x41::x42::x43::x44::x45::x46::x47::x48::x49::x50::x51::x52::x53::x54::x55::x56::x57::x58::x59::x60::x61::x62::x63::x64::x65::x66::x67::x68::x69::x70::x71::x72::x73::x74::x75::x76::x77::x78::x79::x80::x81::x82::x83::x84::x85::x86::x87::x88::x89::x90::x91::x92::x93::x94::x95::x96::x97::x98::x99::x100::x101::x102::x103::x104::x105::x106::x107::x108::x109::x110::x111::x112::x113::x114::x115::x116::x117::x118::x119::x120::x121::x122::x123::x124::x125::x126::x127::x128::x129::x130::x131::[]) H K) : vopsD P G md ops r env H K := by rw [he]; exact h
theorem v132 {x0 x1 x2 x3 x4 x5 x6 x7 x8 x9 x10 x11 x12 x13 x14 x15 x16 x17 x18 x19 x20 x21 x22 x23 x24 x25 x26 x27 x28 x29 x30 x31 x32 x33 x34 x35 x36 x37 x38 x39 x40 x41 x42 x43 x44 x45 x46 x47 x48 x49 x50 x51 x52 x53 x54 x55 x56 x57 x58 x59 x60 x61 x62 x63 x64 x65 x66 x67 x68 x69 x70 x71 x72 x73 x74 x75 x76 x77 x78 x79 x80 x81 x82 x83 x84 x85 x86 x87 x88 x89 x90 x91 x92 x93 x94 x95 x96 x97 x98 x99 x100 x101 x102 x103 x104 x105 x106 x107 x108 x109 x110 x111 x112 x113 x114 x115 x116 x117 x118 x119 x120 x121 x122 x123 x124 x125 x126 x127 x128 x129 x130 x131 : AV} (he : env = (x0::x1::x2::x3::x4::x5::x6::x7::x8::x9::x10::x11::x12::x13::x14::x15::x16::x17::x18::x19::x20::x21::x22::x23::x24::x25::x26::x27::x28::x29::x30::x31::x32::x33::x34::x35::x36::x37::x38::x39::x40::x41::x42::x43::x44::x45::x46::x47::x48::x49::x50::x51::x52::x53::x54::x55::x56::x57::x58::x59::x60::x61::x62::x63::x64::x65::x66::x67::x68::x69::x70::x71::x72::x73::x74::x75::x76::x77::x78::x79::x80::x81::x82::x83::x84::x85::x86::x87::x88::x89::x90::x91::x92::x93::x94::x95::x96::x97::x98::x99::x100::x101::x102::x103::x104::x105::x106::x107::x108::x109::x110::x111::x112::x113::x114::x115::x116::x117::x118::x119::x120::x121::x122::x123::x124::x125::x126::x127::x128::x129::x130::x131::[])) (h : vops P G md ops r (x0::x1::x2::x3::x4::x5::x6::x7::x8::x9::x10::x11::x12::x13::x14::x15::x16::x17::x18::x19::x20::x21::x22::x23::x24::x25::x26::x27::x28::x29::x30::x31::x32::x33::x34::x35::x36::x37::x38::x39::x40::x41::x42::x43::x44::x45::x46::x47::x48::x49::x50::x51::x52::x53::x54::x55::x56::x57::x58::x59::x60::x61::x62::x63::x64::x65::x66::x67::x68::x69::x70::x71::x72::x73::x74::x75::x76::x77::x78::x79::x80::x81::x82::x83::x84::x85::x86::x87::x88::x89::x90::x91::x92::x93::x94::x95::x96::x97::x98::x99::x100::x101::x102::x103::x104::x105::x106::x107::x108::x109::x110::x111::x112::x113::x114::x115::x116::x117::x118::x119::x120::x121::x122::x123::x124::x125::x126::x127::x128::x129::x130::x131::[]) H K) : vops P G md ops r env H K := by rw [he]; exact h
theorem v158 {x0 x1 x2 x3 x4 x5 x6 x7 x8 x9 x10 x11 x12 x13 x14 x15 x16 x17 x18 x19 x20 x21 x22 x23 x24 x25 x26 x27 x28 x29 x30 x31 x32 x33 x34 x35 x36 x37 x38 x39 x40 x41 x42 x43 x44 x45 x46 x47 x48 x49 x50 x51 x52 x53 x54 x55 x56 x57 x58 x59 x60 x61 x62 x63 x64 x65 x66 x67 x68 x69 x70 x71 x72 x73 x74 x75 x76 x77 x78 x79 x80 x81 x82 x83 x84 x85 x86 x87 x88 x89 x90 x91 x92 x93 x94 x95 x96 x97 x98 x99 x100 x101 x102 x103 x104 x105 x106 x107 x108 x109 x110 x111 x112 x113 x114 x115 x116 x117 x118 x119 x120 x121 x122 x123 x124 x125 x126 x127 x128 x129 x130 x131 x132 x133 x134 x135 x136 x137 x138 x139 x140 x141 x142 x143 x144 x145 x146 x147 x148 x149 x150 x151 x152 x153 x154 x155 x156 x157 : AV} (he : env = (x0::x1::x2::x3::x4::x5::x6::x7::x8::x9::x10::x11::x12::x13::x14::x15::x16::x17::x18::x19::x20::x21::x22::x23::x24::x25::x26::x27::x28::x29::x30::x31::x32::x33::x34::x35::x36::x37::x38::x39::x40::x41::x42::x43::x44::x45::x46::x47::x48::x49::x50::x51::x52::x53::x54::x55::x56::x57::x58::x59::x60::x61::x62::x63::x64::x65::x66::x67::x68::x69::x70::x71::x72::x73::x74::x75::x76::x77::x78::x79::x80::x81::x82::x83::x84::x85::x86::x87::x88::x89::x90::x91::x92::x93::x94::x95::x96::x97::x98::x99::x100::x101::x102::x103::x104::x105::x106::x107::x108::x109::x110::x111::x112::x113::x114::x115::x116::x117::x118::x119::x120::x121::x122::x123::x124::x125::x126::x127::x128::x129::x130::x131::x132::x133::x134::x135::x136::x137::x138::x139::x140::x141::x142::x143::x144::x145::x146::x147::x148::x149::x150::x151::x152::x153::x154::x155::x156::x157::[])) (h : vops P G md ops r (x0::x1::x2::x3::x4::x5::x6::x7::x8::x9::x10::x11::x12::x13::x14::x15::x16::x17::x18::x19::x20::x21::x22::x23::x24::x25::x26::x27::x28::x29::x30::x31::x32::x33::x34::x35::x36::x37::x38::x39::x40::x41::x42::x43::x44::x45::x46::x47::x48::x49::x50::x51::x52::x53::x54::x55::x56::x57::x58::x59::x60::x61::x62::x63::x64::x65::x66::x67::x68::x69::x70::x71::x72::x73::x74::x75::x76::x77::x78::x79::x80::x81::x82::x83::x84::x85::x86::x87::x88::x89::x90::x91::x92::x93::x94::x95::x96::x97::x98::x99::x100::x101::x102::x103::x104::x105::x106::x107::x108::x109::x110::x111::x112::x113::x114::x115::x116::x117::x118::x119::x120::x121::x122::x123::x124::x125::x126::x127::x128::x129::x130::x131::x132::x133::x134::x135::x136::x137::x138::x139::x140::x141::x142::x143::x144::x145::x146::x147::x148::x149::x150::x151::x152::x153::x154::x155::x156::x157::[]) H K) : vops P G md ops r env H K := by rw [he]; exact h
theorem d270 {x0 x1 x2 x3 x4 x5 x6 x7 x8 x9 x10 x11 x12 x13 x14 x15 x16 x17 x18 x19 x20 x21 x22 x23 x24 x25 x26 x27 x28 x29 x30 x31 x32 x33 x34 x35 x36 x37 x38 x39 x40 x41 x42 x43 x44 x45 x46 x47 x48 x49 x50 x51 x52 x53 x54 x55 x56 x57 x58 x59 x60 x61 x62 x63 x64 x65 x66 x67 x68 x69 x70 x71 x72 x73 x74 x75 x76 x77 x78 x79 x80 x81 x82 x83 x84 x85 x86 x87 x88 x89 x90 x91 x92 x93 x94 x95 x96 x97 x98 x99 x100 x101 x102 x103 x104 x105 x106 x107 x108 x109 x110 x111 x112 x113 x114 x115 x116 x117 x118 x119 x120 x121 x122 x123 x124 x125 x126 x127 x128 x129 x130 x131 x132 x133 x134 x135 x136 x137 x138 x139 x140 x141 x142 x143 x144 x145 x146 x147 x148 x149 x150 x151 x152 x153 x154 x155 x156 x157 x158 x159 x160 x161 x162 x163 x164 x165 x166 x167 x168 x169 x170 x171 x172 x173 x174 x175 x176 x177 x178 x179 x180 x181 x182 x183 x184 x185 x186 x187 x188 x189 x190 x191 x192 x193 x194 x195 x196 x197 x198 x199 x200 x201 x202 x203 x204 x205 x206 x207 x208 x209 x210 x211 x212 x213 x214 x215 x216 x217 x218 x219 x220 x221 x222 x223 x224 x225 x226 x227 x228 x229 x230 x231 x232 x233 x234 x235 x236 x237 x238 x239 x240 x241 x242 x243 x244 x245 x246 x247 x248 x249 x250 x251 x252 x253 x254 x255 x256 x257 x258 x259 x260 x261 x262 x263 x264 x265 x266 x267 x268 x269 : AV} (he : env = (x0::x1::x2::x3::x4::x5::x6::x7::x8::x9::x10::x11::x12::x13::x14::x15::x16::x17::x18::x19::x20::x21::x22::x23::x24::x25::x26::x27::x28::x29::x30::x31::x32::x33::x34::x35::x36::x37::x38::x39::x40::x41::x42::x43::x44::x45::x46::x47::x48::x49::x50::x51::x52::x53::x54::x55::x56::x57::x58::x59::x60::x61::x62::x63::x64::x65::x66::x67::x68::x69::x70::x71::x72::x73::x74::x75::x76::x77::x78::x79::x80::x81::x82::x83::x84::x85::x86::x87::x88::x89::x90::x91::x92::x93::x94::x95::x96::x97::x98::x99::x100::x101::x102::x103::x104::x105::x106::x107::x108::x109::x110::x111::x112::x113::x114::x115::x116::x117::x118::x119::x120::x121::x122::x123::x124::x125::x126::x127::x128::x129::x130::x131::x132::x133::x134::x135::x136::x137::x138::x139::x140::x141::x142::x143::x144::x145::x146::x147::x148::x149::x150::x151::x152::x153::x154::x155::x156::x157::x158::x159::x160::x161::x162::x163::x164::x165::x166::x167::x168::x169::x170::x171::x172::x173::x174::x175::x176::x177::x178::x179::x180::x181::x182::x183::x184::x185::x186::x187::x188::x189::x190::x191::x192::x193::x194::x195::x196::x197::x198::x199::x200::x201::x202::x203::x204::x205::x206::x207::x208::x209::x210::x211::x212::x213::x214::x215::x216::x217::x218::x219::x220::x221::x222::x223::x224::x225::x226::x227::x228::x229::x230::x231::x232::x233::x234::x235::x236::x237::x238::x239::x240::x241::x242::x243::x244::x245::x246::x247::x248::x249::x250::x251::x252::x253::x254::x255::x256::x257::x258::x259::x260::x261::x262::x263::x264::x265::x266::x267::x268::x269::[])) (h : vopsD P G md ops r (x0::x1::x2::x3::x4::x5::x6::x7::x8::x9::x10::x11::x12::x13::x14::x15::x16::x17::x18::x19::x20::x21::x22::x23::x24::x25::x26::x27::x28::x29::x30::x31::x32::x33::x34::x35::x36::x37::x38::x39::x40::x41::x42::x43::x44::x45::x46::x47::x48::x49::x50::x51::x52::x53::x54::x55::x56::x57::x58::x59::x60::x61::x62::x63::x64::x65::x66::x67::x68::x69::x70::x71::x72::x73::x74::x75::x76::x77::x78::x79::x80::x81::x82::x83::x84::x85::x86::x87::x88::x89::x90::x91::x92::x93::x94::x95::x96::x97::x98::x99::x100::x101::x102::x103::x104::x105::x106::x107::x108::x109::x110::x111::x112::x113::x114::x115::x116::x117::x118::x119::x120::x121::x122::x123::x124::x125::x126::x127::x128::x129::x130::x131::x132::x133::x134::x135::x136::x137::x138::x139::x140::x141::x142::x143::x144::x145::x146::x147::x148::x149::x150::x151::x152::x153::x154::x155::x156::x157::x158::x159::x160::x161::x162::x163::x164::x165::x166::x167::x168::x169::x170::x171::x172::x173::x174::x175::x176::x177::x178::x179::x180::x181::x182::x183::x184::x185::x186::x187::x188::x189::x190::x191::x192::x193::x194::x195::x196::x197::x198::x199::x200::x201::x202::x203::x204::x205::x206::x207::x208::x209::x210::x211::x212::x213::x214::x215::x216::x217::x218::x219::x220::x221::x222::x223::x224::x225::x226::x227::x228::x229::x230::x231::x232::x233::x234::x235::x236::x237::x238::x239::x240::x241::x242::x243::x244::x245::x246::x247::x248::x249::x250::x251::x252::x253::x254::x255::x256::x257::x258::x259::x260::x261::x262::x263::x264::x265::x266::x267::x268::x269::[]) H K) : vopsD P G md ops r env H K := by rw [he]; exact h
theorem v270 {x0 x1 x2 x3 x4 x5 x6 x7 x8 x9 x10 x11 x12 x13 x14 x15 x16 x17 x18 x19 x20 x21 x22 x23 x24 x25 x26 x27 x28 x29 x30 x31 x32 x33 x34 x35 x36 x37 x38 x39 x40 x41 x42 x43 x44 x45 x46 x47 x48 x49 x50 x51 x52 x53 x54 x55 x56 x57 x58 x59 x60 x61 x62 x63 x64 x65 x66 x67 x68 x69 x70 x71 x72 x73 x74 x75 x76 x77 x78 x79 x80 x81 x82 x83 x84 x85 x86 x87 x88 x89 x90 x91 x92 x93 x94 x95 x96 x97 x98 x99 x100 x101 x102 x103 x104 x105 x106 x107 x108 x109 x110 x111 x112 x113 x114 x115 x116 x117 x118 x119 x120 x121 x122 x123 x124 x125 x126 x127 x128 x129 x130 x131 x132 x133 x134 x135 x136 x137 x138 x139 x140 x141 x142 x143 x144 x145 x146 x147 x148 x149 x150 x151 x152 x153 x154 x155 x156 x157 x158 x159 x160 x161 x162 x163 x164 x165 x166 x167 x168 x169 x170 x171 x172 x173 x174 x175 x176 x177 x178 x179 x180 x181 x182 x183 x184 x185 x186 x187 x188 x189 x190 x191 x192 x193 x194 x195 x196 x197 x198 x199 x200 x201 x202 x203 x204 x205 x206 x207 x208 x209 x210 x211 x212 x213 x214 x215 x216 x217 x218 x219 x220 x221 x222 x223 x224 x225 x226 x227 x228 x229 x230 x231 x232 x233 x234 x235 x236 x237 x238 x239 x240 x241 x242 x243 x244 x245 x246 x247 x248 x249 x250 x251 x252 x253 x254 x255 x256 x257 x258 x259 x260 x261 x262 x263 x264 x265 x266 x267 x268 x269 : AV} (he : env = (x0::x1::x2::x3::x4::x5::x6::x7::x8::x9::x10::x11::x12::x13::x14::x15::x16::x17::x18::x19::x20::x21::x22::x23::x24::x25::x26::x27::x28::x29::x30::x31::x32::x33::x34::x35::x36::x37::x38::x39::x40::x41::x42::x43::x44::x45::x46::x47::x48::x49::x50::x51::x52::x53::x54::x55::x56::x57::x58::x59::x60::x61::x62::x63::x64::x65::x66::x67::x68::x69::x70::x71::x72::x73::x74::x75::x76::x77::x78::x79::x80::x81::x82::x83::x84::x85::x86::x87::x88::x89::x90::x91::x92::x93::x94::x95::x96::x97::x98::x99::x100::x101::x102::x103::x104::x105::x106::x107::x108::x109::x110::x111::x112::x113::x114::x115::x116::x117::x118::x119::x120::x121::x122::x123::x124::x125::x126::x127::x128::x129::x130::x131::x132::x133::x134::x135::x136::x137::x138::x139::x140::x141::x142::x143::x144::x145::x146::x147::x148::x149::x150::x151::x152::x153::x154::x155::x156::x157::x158::x159::x160::x161::x162::x163::x164::x165::x166::x167::x168::x169::x170::x171::x172::x173::x174::x175::x176::x177::x178::x179::x180::x181::x182::x183::x184::x185::x186::x187::x188::x189::x190::x191::x192::x193::x194::x195::x196::x197::x198::x199::x200::x201::x202::x203::x204::x205::x206::x207::x208::x209::x210::x211::x212::x213::x214::x215::x216::x217::x218::x219::x220::x221::x222::x223::x224::x225::x226::x227::x228::x229::x230::x231::x232::x233::x234::x235::x236::x237::x238::x239::x240::x241::x242::x243::x244::x245::x246::x247::x248::x249::x250::x251::x252::x253::x254::x255::x256::x257::x258::x259::x260::x261::x262::x263::x264::x265::x266::x267::x268::x269::[])) (h : vops P G md ops r (x0::x1::x2::x3::x4::x5::x6::x7::x8::x9::x10::x11::x12::x13::x14::x15::x16::x17::x18::x19::x20::x21::x22::x23::x24::x25::x26::x27::x28::x29::x30::x31::x32::x33::x34::x35::x36::x37::x38::x39::x40::x41::x42::x43::x44::x45::x46::x47::x48::x49::x50::x51::x52::x53::x54::x55::x56::x57::x58::x59::x60::x61::x62::x63::x64::x65::x66::x67::x68::x69::x70::x71::x72::x73::x74::x75::x76::x77::x78::x79::x80::x81::x82::x83::x84::x85::x86::x87::x88::x89::x90::x91::x92::x93::x94::x95::x96::x97::x98::x99::x100::x101::x102::x103::x104::x105::x106::x107::x108::x109::x110::x111::x112::x113::x114::x115::x116::x117::x118::x119::x120::x121::x122::x123::x124::x125::x126::x127::x128::x129::x130::x131::x132::x133::x134::x135::x136::x137::x138::x139::x140::x141::x142::x143::x144::x145::x146::x147::x148::x149::x150::x151::x152::x153::x154::x155::x156::x157::x158::x159::x160::x161::x162::x163::x164::x165::x166::x167::x168::x169::x170::x171::x172::x173::x174::x175::x176::x177::x178::x179::x180::x181::x182::x183::x184::x185::x186::x187::x188::x189::x190::x191::x192::x193::x194::x195::x196::x197::x198::x199::x200::x201::x202::x203::x204::x205::x206::x207::x208::x209::x210::x211::x212::x213::x214::x215::x216::x217::x218::x219::x220::x221::x222::x223::x224::x225::x226::x227::x228::x229::x230::x231::x232::x233::x234::x235::x236::x237::x238::x239::x240::x241::x242::x243::x244::x245::x246::x247::x248::x249::x250::x251::x252::x253::x254::x255::x256::x257::x258::x259::x260::x261::x262::x263::x264::x265::x266::x267::x268::x269::[]) H K) : vops P G md ops r env H K := by rw [he]; exact h
theorem w270 {x0 x1 x2 x3 x4 x5 x6 x7 x8 x9 x10 x11 x12 x13 x14 x15 x16 x17 x18 x19 x20 x21 x22 x23 x24 x25 x26 x27 x28 x29 x30 x31 x32 x33 x34 x35 x36 x37 x38 x39 x40 x41 x42 x43 x44 x45 x46 x47 x48 x49 x50 x51 x52 x53 x54 x55 x56 x57 x58 x59 x60 x61 x62 x63 x64 x65 x66 x67 x68 x69 x70 x71 x72 x73 x74 x75 x76 x77 x78 x79 x80 x81 x82 x83 x84 x85 x86 x87 x88 x89 x90 x91 x92 x93 x94 x95 x96 x97 x98 x99 x100 x101 x102 x103 x104 x105 x106 x107 x108 x109 x110 x111 x112 x113 x114 x115 x116 x117 x118 x119 x120 x121 x122 x123 x124 x125 x126 x127 x128 x129 x130 x131 x132 x133 x134 x135 x136 x137 x138 x139 x140 x141 x142 x143 x144 x145 x146 x147 x148 x149 x150 x151 x152 x153 x154 x155 x156 x157 x158 x159 x160 x161 x162 x163 x164 x165 x166 x167 x168 x169 x170 x171 x172 x173 x174 x175 x176 x177 x178 x179 x180 x181 x182 x183 x184 x185 x186 x187 x188 x189 x190 x191 x192 x193 x194 x195 x196 x197 x198 x199 x200 x201 x202 x203 x204 x205 x206 x207 x208 x209 x210 x211 x212 x213 x214 x215 x216 x217 x218 x219 x220 x221 x222 x223 x224 x225 x226 x227 x228 x229 x230 x231 x232 x233 x234 x235 x236 x237 x238 x239 x240 x241 x242 x243 x244 x245 x246 x247 x248 x249 x250 x251 x252 x253 x254 x255 x256 x257 x258 x259 x260 x261 x262 x263 x264 x265 x266 x267 x268 x269 : AV} (he : env = (x0::x1::x2::x3::x4::x5::x6::x7::x8::x9::x10::x11::x12::x13::x14::x15::x16::x17::x18::x19::x20::x21::x22::x23::x24::x25::x26::x27::x28::x29::x30::x31::x32::x33::x34::x35::x36::x37::x38::x39::x40::x41::x42::x43::x44::x45::x46::x47::x48::x49::x50::x51::x52::x53::x54::x55::x56::x57::x58::x59::x60::x61::x62::x63::x64::x65::x66::x67::x68::x69::x70::x71::x72::x73::x74::x75::x76::x77::x78::x79::x80::x81::x82::x83::x84::x85::x86::x87::x88::x89::x90::x91::x92::x93::x94::x95::x96::x97::x98::x99::x100::x101::x102::x103::x104::x105::x106::x107::x108::x109::x110::x111::x112::x113::x114::x115::x116::x117::x118::x119::x120::x121::x122::x123::x124::x125::x126::x127::x128::x129::x130::x131::x132::x133::x134::x135::x136::x137::x138::x139::x140::x141::x142::x143::x144::x145::x146::x147::x148::x149::x150::x151::x152::x153::x154::x155::x156::x157::x158::x159::x160::x161::x162::x163::x164::x165::x166::x167::x168::x169::x170::x171::x172::x173::x174::x175::x176::x177::x178::x179::x180::x181::x182::x183::x184::x185::x186::x187::x188::x189::x190::x191::x192::x193::x194::x195::x196::x197::x198::x199::x200::x201::x202::x203::x204::x205::x206::x207::x208::x209::x210::x211::x212::x213::x214::x215::x216::x217::x218::x219::x220::x221::x222::x223::x224::x225::x226::x227::x228::x229::x230::x231::x232::x233::x234::x235::x236::x237::x238::x239::x240::x241::x242::x243::x244::x245::x246::x247::x248::x249::x250::x251::x252::x253::x254::x255::x256::x257::x258::x259::x260::x261::x262::x263::x264::x265::x266::x267::x268::x269::[])) (h : vopsW P G md ops wn hh i r (x0::x1::x2::x3::x4::x5::x6::x7::x8::x9::x10::x11::x12::x13::x14::x15::x16::x17::x18::x19::x20::x21::x22::x23::x24::x25::x26::x27::x28::x29::x30::x31::x32::x33::x34::x35::x36::x37::x38::x39::x40::x41::x42::x43::x44::x45::x46::x47::x48::x49::x50::x51::x52::x53::x54::x55::x56::x57::x58::x59::x60::x61::x62::x63::x64::x65::x66::x67::x68::x69::x70::x71::x72::x73::x74::x75::x76::x77::x78::x79::x80::x81::x82::x83::x84::x85::x86::x87::x88::x89::x90::x91::x92::x93::x94::x95::x96::x97::x98::x99::x100::x101::x102::x103::x104::x105::x106::x107::x108::x109::x110::x111::x112::x113::x114::x115::x116::x117::x118::x119::x120::x121::x122::x123::x124::x125::x126::x127::x128::x129::x130::x131::x132::x133::x134::x135::x136::x137::x138::x139::x140::x141::x142::x143::x144::x145::x146::x147::x148::x149::x150::x151::x152::x153::x154::x155::x156::x157::x158::x159::x160::x161::x162::x163::x164::x165::x166::x167::x168::x169::x170::x171::x172::x173::x174::x175::x176::x177::x178::x179::x180::x181::x182::x183::x184::x185::x186::x187::x188::x189::x190::x191::x192::x193::x194::x195::x196::x197::x198::x199::x200::x201::x202::x203::x204::x205::x206::x207::x208::x209::x210::x211::x212::x213::x214::x215::x216::x217::x218::x219::x220::x221::x222::x223::x224::x225::x226::x227::x228::x229::x230::x231::x232::x233::x234::x235::x236::x237::x238::x239::x240::x241::x242::x243::x244::x245::x246::x247::x248::x249::x250::x251::x252::x253::x254::x255::x256::x257::x258::x259::x260::x261::x262::x263::x264::x265::x266::x267::x268::x269::[]) k J) : vopsW P G md ops wn hh i r env k J := by rw [he]; exact h
end
end Go.Vi
namespace Go.Vi
def allCx (w : World) : Cx := { w := w, I := fun b => b < w.heap.size, B := fun _ => False, ρ := fun _ => none }
theorem allSim (w : World) : Sim (allCx w) [] :=
 ⟨fun b h => h, fun b h => h.elim, fun l o h => (by simp at h), fun l l' cl cl' h => (by obtain ⟨o, h, _⟩ := h; simp at h), fun l _ => rfl⟩
def fieldsS (P : Program) (S : TypeId → List AV → Prop) : List Field → List AV → Prop
 | [], xs => xs = []
 | f :: r, xs => ∃ p q, xs = p ++ q ∧ p.length = P.cellsOf f.type ∧ S f.type p ∧ fieldsS P S r q
def timesS (P : Program) (S : TypeId → List AV → Prop) (e : TypeId) : Nat → List AV → Prop
 | 0, xs => xs = []
 | n + 1, xs => ∃ p q, xs = p ++ q ∧ p.length = P.cellsOf e ∧ S e p ∧ timesS P S e n q
def Shp (P : Program) : Nat → TypeId → List AV → Prop
 | 0, _, _ => False
 | f + 1, t, xs => match P.underlying t with
   | some .bool => ∃ b, xs = [.bool b]
   | some (.int k) => ∃ n, xs = [.int k n] ∧ (Lit.int k n).wf = true
   | some .string => ∃ s, xs = [.str s] ∧ s.size ≤ maxLen
   | some (.slice e) => xs = [.nils] ∨ ∃ rows, xs = [.list .loose rows] ∧ rows.length ≤ maxLen ∧ ∀ r ∈ rows, r.length = P.cellsOf e ∧ Shp P f e r
   | some (.struct fs) => fieldsS P (Shp P f) fs.toList xs
   | some (.array n e) => timesS P (Shp P f) e n xs
   | _ => False
def consec (P : Program) : List Field → Nat → Nat → Bool
 | [], o, e => o == e
 | f :: r, o, e => f.offset == o && consec P r (o + P.cellsOf f.type) e
def plainT (P : Program) : Nat → TypeId → Bool
 | 0, _ => false
 | f + 1, t => match P.underlying t with
   | some .bool | some (.int _) | some .string => P.cellsOf t == 1
   | some (.slice e) => P.cellsOf t == 1 && P.cellsOf e != 0 && plainT P f e
   | some (.struct fs) => consec P fs.toList 0 (P.cellsOf t) && fs.toList.all fun fd => plainT P f fd.type
   | some (.array n e) => n * P.cellsOf e == P.cellsOf t && plainT P f e
   | _ => false
theorem plainT_succ {P : Program} : ∀ (f : Nat) (t : TypeId), plainT P f t = true → plainT P (f + 1) t = true
 | 0, t, h => by cases h
 | f + 1, t, h => by
   unfold plainT at h ⊢
   cases hu : P.underlying t with
   | none => rw [hu] at h; cases h
   | some d =>
     rw [hu] at h
     cases d <;> first
      | exact h
      | (simp only [Bool.and_eq_true] at h ⊢; exact ⟨h.1, plainT_succ f _ h.2⟩)
      | (simp only [Bool.and_eq_true, List.all_eq_true] at h ⊢; exact ⟨h.1, fun fd hfd => plainT_succ f _ (h.2 fd hfd)⟩)
      | (cases h; done)
theorem plainT_le {P : Program} {n : Nat} {t : TypeId} (h : plainT P n t = true) : ∀ f, n ≤ f → plainT P f t = true := by
 intro f hf
 induction hf with
 | refl => exact h
 | step _ ih => exact plainT_succ _ _ ih
def CellsR (c : Cx) (xs : List AV) (cs : List Value) : Prop :=
 xs.length = cs.length ∧ ∀ (j : Nat) (x : AV) (V : Value), xs[j]? = some x → cs[j]? = some V → Rel c x V ∧ x.isVal = true ∧ V.oneCell' = true
theorem CellsR.append {c : Cx} {xs ys : List AV} {cs ds : List Value} (h : CellsR c xs cs) (k : CellsR c ys ds) : CellsR c (xs ++ ys) (cs ++ ds) := by
 refine ⟨by simp [h.1, k.1], fun j x V hx hV => ?_⟩
 by_cases hj : j < xs.length
 · rw [List.getElem?_append_left hj] at hx
   rw [List.getElem?_append_left (by rw [← h.1]; exact hj)] at hV
   exact h.2 j x V hx hV
 rw [List.getElem?_append_right (by omega)] at hx
 rw [List.getElem?_append_right (by rw [← h.1]; omega), ← h.1] at hV
 exact k.2 _ x V hx hV
theorem CellsR.one {c : Cx} {x : AV} {V : Value} (h : Rel c x V) (hv : x.isVal = true) (ho : V.oneCell' = true) : CellsR c [x] [V] := by
 refine ⟨rfl, fun j y W hy hW => ?_⟩
 cases j with
 | zero => simp at hy hW; subst hy; subst hW; exact ⟨h, hv, ho⟩
 | succ j => simp at hy
theorem mapM_get {α β : Type} {f : α → Option β} : ∀ {l : List α} {ys : List β}, l.mapM f = some ys → ys.length = l.length ∧ ∀ (i : Nat) (x : α), l[i]? = some x → ∃ y, ys[i]? = some y ∧ f x = some y
 | [], ys, h => by simp at h; subst h; exact ⟨rfl, fun i x hx => by cases hx⟩
 | a :: l, ys, h => by
   rw [List.mapM_cons] at h
   cases hf : f a with
   | none => rw [hf] at h; cases h
   | some b =>
     rw [hf] at h
     cases hm : l.mapM f with
     | none => simp [hm] at h
     | some bs =>
       simp [hm] at h
       subst h
       obtain ⟨i1, i2⟩ := mapM_get hm
       refine ⟨by simp [i1], fun i x hx => ?_⟩
       cases i with
       | zero => simp at hx; subst hx; exact ⟨b, rfl, hf⟩
       | succ i => simpa using i2 i x (by simpa using hx)
theorem cells_get {w : World} {base : Nat} {a : Addr} {n : Nat} {cs : List Value} (h : w.cells? base a n = some cs) : cs.length = n ∧ ∀ (j : Nat) (V : Value), cs[j]? = some V → w.cell? (a.add j) = some V := by
 unfold World.cells? at h
 split at h
 · obtain ⟨i1, i2⟩ := mapM_get h
   refine ⟨by simpa using i1, fun j V hV => ?_⟩
   have hj : j < n := by have := (List.getElem?_eq_some_iff.1 hV).1; simp at i1; omega
   obtain ⟨y, h1, h2⟩ := i2 j j (by rw [List.getElem?_range hj])
   rw [hV] at h1
   cases h1
   exact h2
 cases h
section
variable {H : Type} {enc : TypeId × Value → H} {P : Program} {w : World} {base : Nat} {sp : Nat → Bool} {held : Bool}
theorem fields_bridge {f : Nat} (ih : ∀ (t : TypeId) (cs : List Value) (x : DataW H × List MemPlace), plainT P f t = true → DataW.trod enc P w base sp held f t cs = some x → ∃ xs, CellsR (allCx w) xs cs ∧ Shp P f t xs)
 (hlen : ∀ (t : TypeId) (cs : List Value) (x : DataW H × List MemPlace), plainT P f t = true → DataW.trod enc P w base sp held f t cs = some x → cs.length = P.cellsOf t) :
 ∀ (fl : List Field) (o e : Nat) (cs : List Value) (xs : List (DataW H × List MemPlace)), consec P fl o e = true → cs.length = e → (∀ fd ∈ fl, plainT P f fd.type = true) →
   fl.mapM (fun fd => DataW.trod enc P w base sp held f fd.type ((cs.drop fd.offset).take (P.cellsOf fd.type))) = some xs → ∃ ys, CellsR (allCx w) ys (cs.drop o) ∧ fieldsS P (Shp P f) fl ys
 | [], o, e, cs, xs, hc, hl, hp, hm => by
   have : o = e := by simpa [consec] using hc
   refine ⟨[], ⟨by simp; omega, fun j x V hx => by cases hx⟩, rfl⟩
 | fd :: r, o, e, cs, xs, hc, hl, hp, hm => by
   simp only [consec, Bool.and_eq_true, beq_iff_eq] at hc
   obtain ⟨h1, h2⟩ := hc
   rw [List.mapM_cons] at hm
   cases hf : DataW.trod enc P w base sp held f fd.type ((cs.drop fd.offset).take (P.cellsOf fd.type)) with
   | none => rw [hf] at hm; cases hm
   | some x =>
     rw [hf] at hm
     cases hm2 : r.mapM (fun fd => DataW.trod enc P w base sp held f fd.type ((cs.drop fd.offset).take (P.cellsOf fd.type))) with
     | none => simp [hm2] at hm
     | some xs2 =>
       obtain ⟨p, p1, p2⟩ := ih _ _ _ (hp fd (by simp)) hf
       have hpl := hlen _ _ _ (hp fd (by simp)) hf
       obtain ⟨q, q1, q2⟩ := fields_bridge ih hlen r _ e cs xs2 h2 hl (fun fd hfd => hp fd (by simp [hfd])) hm2
       refine ⟨p ++ q, ?_, p, q, rfl, p1.1.trans hpl, p2, q2⟩
       have := p1.append q1
       rw [h1] at this
       have e1 : (cs.drop o).take (P.cellsOf fd.type) ++ cs.drop (o + P.cellsOf fd.type) = cs.drop o := by
        rw [← List.drop_drop]
        exact List.take_append_drop _ _
       rwa [e1] at this
theorem times_bridge {f : Nat} {e : TypeId} (ih : ∀ (cs : List Value) (x : DataW H × List MemPlace), DataW.trod enc P w base sp held f e cs = some x → ∃ xs, CellsR (allCx w) xs cs ∧ Shp P f e xs)
 (hlen : ∀ (cs : List Value) (x : DataW H × List MemPlace), DataW.trod enc P w base sp held f e cs = some x → cs.length = P.cellsOf e) (cs : List Value) :
 ∀ (n i : Nat) (g : Nat → Option (DataW H × List MemPlace)), (∀ k, i ≤ k → k < i + n → ∃ x, DataW.trod enc P w base sp held f e ((cs.drop (k * P.cellsOf e)).take (P.cellsOf e)) = some x) → cs.length = (i + n) * P.cellsOf e →
   ∃ ys, CellsR (allCx w) ys (cs.drop (i * P.cellsOf e)) ∧ timesS P (Shp P f) e n ys
 | 0, i, g, h, hl => ⟨[], ⟨by simp [hl], fun j x V hx => by cases hx⟩, rfl⟩
 | n + 1, i, g, h, hl => by
   obtain ⟨x, hx⟩ := h i (Nat.le_refl _) (by omega)
   obtain ⟨p, p1, p2⟩ := ih _ _ hx
   have hpl := hlen _ _ hx
   obtain ⟨q, q1, q2⟩ := times_bridge ih hlen cs n (i + 1) g (fun k h1 h2 => h k (by omega) (by omega)) (by rw [hl]; congr 1; omega)
   refine ⟨p ++ q, ?_, p, q, rfl, p1.1.trans hpl, p2, q2⟩
   have := p1.append q1
   have e1 : (cs.drop (i * P.cellsOf e)).take (P.cellsOf e) ++ cs.drop ((i + 1) * P.cellsOf e) = cs.drop (i * P.cellsOf e) := by
    rw [Nat.add_mul, Nat.one_mul, ← List.drop_drop]
    exact List.take_append_drop _ _
   rwa [e1] at this
theorem trod_len : ∀ (f : Nat) (t : TypeId) (cs : List Value) (x : DataW H × List MemPlace), plainT P f t = true → DataW.trod enc P w base sp held f t cs = some x → cs.length = P.cellsOf t
 | 0, t, cs, x, hp, h => by cases hp
 | f + 1, t, cs, x, hp, h => by
   unfold plainT at hp
   unfold DataW.trod at h
   cases hu : P.underlying t with
   | none => rw [hu] at hp; cases hp
   | some d =>
     rw [hu] at hp h
     have one : ∀ {c1 : Nat}, (c1 == 1) = true → c1 = 1 := fun h => by simpa using h
     cases d with
     | bool =>
       match cs, h with
       | [.bool b], _ => exact (one hp).symm
     | int k =>
       match cs, h with
       | [.int k' n], _ => exact (one hp).symm
     | string =>
       match cs, h with
       | [.string s], _ => exact (one hp).symm
     | slice e =>
       simp only [Bool.and_eq_true] at hp
       match cs, h with
       | [.slice none 0 0], _ => exact (one hp.1.1).symm
       | [.slice (some a) l c], _ => exact (one hp.1.1).symm
     | struct fs =>
       simp only at h
       split at h
       · assumption
       cases h
     | array n e =>
       simp only at h
       split at h
       · assumption
       cases h
     | _ => cases hp
theorem bridge : ∀ (f : Nat) (t : TypeId) (cs : List Value) (x : DataW H × List MemPlace), plainT P f t = true → DataW.trod enc P w base sp held f t cs = some x → ∃ xs, CellsR (allCx w) xs cs ∧ Shp P f t xs
 | 0, t, cs, x, hp, h => by cases hp
 | f + 1, t, cs, x, hp0, h => by
   have hp := hp0
   unfold plainT at hp
   unfold DataW.trod at h
   unfold Shp
   cases hu : P.underlying t with
   | none => rw [hu] at hp; cases hp
   | some d =>
     rw [hu] at hp h
     cases d with
     | bool =>
       match cs, h with
       | [.bool b], _ => exact ⟨[.bool b], .one (.bool b) rfl rfl, b, rfl⟩
     | int k =>
       match cs, h with
       | [.int k' n], h =>
         simp only at h
         split at h
         · rename_i hk
           obtain ⟨rfl, hk⟩ := hk
           exact ⟨[.int k' n], .one (.int k' n) rfl rfl, n, rfl, hk⟩
         cases h
     | string =>
       match cs, h with
       | [.string s], h =>
         simp only at h
         split at h
         · rename_i hs
           exact ⟨[.str s], .one (.str s) rfl rfl, s, rfl, hs⟩
         cases h
     | slice e =>
       simp only [Bool.and_eq_true, bne_iff_ne, ne_eq] at hp
       match cs, h with
       | [.slice none 0 0], _ => exact ⟨[.nils], .one .nils rfl rfl, .inl rfl⟩
       | [.slice (some a) len cap], h =>
         simp only at h
         split at h
         · rename_i hc
           obtain ⟨c1, c2, c3⟩ := hc
           cases hm : (List.range len).mapM (fun i => (w.cells? base (a.add (i * P.cellsOf e)) (P.cellsOf e)).bind (DataW.trod enc P w base sp held f e)) with
           | none => rw [hm] at h; cases h
           | some elems =>
             obtain ⟨m1, m2⟩ := mapM_get hm
             have hel : ∀ i, ∃ r : List AV, i < len → ∃ cs', w.cells? base (a.add (i * P.cellsOf e)) (P.cellsOf e) = some cs' ∧ CellsR (allCx w) r cs' ∧ Shp P f e r ∧ r.length = P.cellsOf e := fun i => by
              by_cases hi : i < len
              · obtain ⟨y, _, hy⟩ := m2 i i (by rw [List.getElem?_range hi])
                cases hcs : w.cells? base (a.add (i * P.cellsOf e)) (P.cellsOf e) with
                | none => rw [hcs] at hy; cases hy
                | some cs' =>
                  rw [hcs] at hy
                  obtain ⟨r, r1, r2⟩ := bridge f e cs' y hp.2 hy
                  exact ⟨r, fun _ => ⟨cs', rfl, r1, r2, r1.1.trans (cells_get hcs).1⟩⟩
              exact ⟨[], fun h => absurd h hi⟩
             let rows : List (List AV) := (List.range len).map fun i => (hel i).choose
             have hrl : rows.length = len := by simp [rows]
             have hrow : ∀ (i : Nat) (r : List AV), rows[i]? = some r → i < len ∧ r = (hel i).choose := fun i r hr => by
              have hi : i < len := by rw [← hrl]; exact (List.getElem?_eq_some_iff.1 hr).1
              simp only [rows, List.getElem?_map, List.getElem?_range hi, Option.map_some, Option.some.injEq] at hr
              exact ⟨hi, hr.symm⟩
             have hspot : len = 0 ∨ (a.spot = none ∧ a.block < w.heap.size) := by
              by_cases h0 : len = 0
              · exact .inl h0
              obtain ⟨cs', k1, k2, k3, k4⟩ := (hel 0).choose_spec (by omega)
              obtain ⟨l1, l2⟩ := cells_get k1
              have := l2 0 cs'[0] (List.getElem?_eq_getElem (by omega))
              simp only [Nat.zero_mul, Addr.add, if_true] at this
              refine .inr ?_
              unfold World.cell? at this
              split at this
              · rename_i cc tt fr hh
                split at this
                · cases this
                rename_i hsn
                exact ⟨by simpa using hsn, (Array.getElem?_eq_some_iff.1 hh).1⟩
              cases this
             have hF : ∀ i j, ∃ V, i < len → j < P.cellsOf e → w.cell? ⟨a.block, a.off + i * P.cellsOf e + j, none⟩ = some V ∧ V.oneCell' = true ∧ ∀ x, ((hel i).choose)[j]? = some x → Rel (allCx w) x V ∧ x.isVal = true := fun i j => by
              by_cases hij : i < len ∧ j < P.cellsOf e
              · obtain ⟨cs', k1, k2, k3, k4⟩ := (hel i).choose_spec hij.1
                obtain ⟨l1, l2⟩ := cells_get k1
                have hV := l2 j cs'[j] (List.getElem?_eq_getElem (by omega))
                obtain ⟨s1, s2⟩ := hspot.resolve_left (by omega)
                obtain ⟨ab, ao, as⟩ := a
                simp only at s1
                subst s1
                rw [add_spot, add_spot] at hV
                have hx := k2.2 j ((hel i).choose)[j] cs'[j] (List.getElem?_eq_getElem (by omega)) (List.getElem?_eq_getElem (by omega))
                refine ⟨cs'[j], fun _ _ => ⟨hV, hx.2.2, fun x hx' => ?_⟩⟩
                rw [List.getElem?_eq_getElem (by omega)] at hx'
                cases hx'
                exact ⟨hx.1, hx.2.1⟩
              exact ⟨undef, fun a b => absurd ⟨a, b⟩ hij⟩
             have hR := Rel.list (c := allCx w) .loose rows a.block a.off (P.cellsOf e) cap a.spot
              (hspot.imp (fun h0 => List.eq_nil_of_length_eq_zero (hrl.trans h0)) (fun h => h.1)) (fun i j => (hF i j).choose)
              (hspot.imp (fun h0 => List.eq_nil_of_length_eq_zero (hrl.trans h0)) (fun h => h.2)) (by omega) (fun h => by cases h)
              (fun r hr => by
               obtain ⟨i, hi⟩ := List.mem_iff_getElem?.1 hr
               obtain ⟨q1, q2⟩ := hrow i r hi
               obtain ⟨_, _, _, _, k4⟩ := (hel i).choose_spec q1
               rw [q2]; exact k4)
              (List.all_eq_true.2 fun r hr => List.all_eq_true.2 fun x hx => by
               obtain ⟨i, hi⟩ := List.mem_iff_getElem?.1 hr
               obtain ⟨j, hj⟩ := List.mem_iff_getElem?.1 hx
               obtain ⟨q1, q2⟩ := hrow i r hi
               obtain ⟨_, _, _, _, k4⟩ := (hel i).choose_spec q1
               subst q2
               exact (((hF i j).choose_spec q1 (by rw [← k4]; exact (List.getElem?_eq_some_iff.1 hj).1)).2.2 x hj).2)
              (fun i j hi hj => ⟨((hF i j).choose_spec (by omega) hj).1, ((hF i j).choose_spec (by omega) hj).2.1⟩)
              (fun i r j x hr hx => by
               obtain ⟨q1, q2⟩ := hrow i r hr
               obtain ⟨_, _, _, _, k4⟩ := (hel i).choose_spec q1
               subst q2
               exact (((hF i j).choose_spec q1 (by rw [← k4]; exact (List.getElem?_eq_some_iff.1 hx).1)).2.2 x hx).1)
             rw [hrl] at hR
             refine ⟨[.list .loose rows], .one hR rfl rfl, .inr ⟨rows, rfl, by omega, fun r hr => ?_⟩⟩
             obtain ⟨i, hi⟩ := List.mem_iff_getElem?.1 hr
             obtain ⟨q1, q2⟩ := hrow i r hi
             obtain ⟨_, _, _, k3, k4⟩ := (hel i).choose_spec q1
             rw [q2]
             exact ⟨k4, k3⟩
         cases h
     | struct fs =>
       simp only at h
       split at h
       · rename_i hl
         simp only [Bool.and_eq_true, List.all_eq_true] at hp
         cases hm : fs.toList.mapM (fun fd => DataW.trod enc P w base sp held f fd.type ((cs.drop fd.offset).take (P.cellsOf fd.type))) with
         | none => rw [hm] at h; cases h
         | some xs =>
           obtain ⟨ys, y1, y2⟩ := fields_bridge (fun t cs x => bridge f t cs x) (fun t cs x => trod_len f t cs x) fs.toList 0 (P.cellsOf t) cs xs hp.1 hl hp.2 hm
           exact ⟨ys, by simpa using y1, y2⟩
       cases h
     | array n e =>
       simp only at h
       split at h
       · rename_i hl
         simp only [Bool.and_eq_true, beq_iff_eq] at hp
         cases hm : (List.range n).mapM (fun i => DataW.trod enc P w base sp held f e ((cs.drop (i * P.cellsOf e)).take (P.cellsOf e))) with
         | none => rw [hm] at h; cases h
         | some xs =>
           obtain ⟨m1, m2⟩ := mapM_get hm
           obtain ⟨ys, y1, y2⟩ := times_bridge (fun cs x => bridge f e cs x hp.2) (fun cs x => trod_len f e cs x hp.2) cs n 0 (fun _ => none) (fun k _ hk => by
            obtain ⟨y, _, hy⟩ := m2 k k (by rw [List.getElem?_range (by omega)])
            exact ⟨y, hy⟩) (by rw [hl, ← hp.1]; congr 1; omega)
           exact ⟨ys, by simpa using y1, y2⟩
       cases h
     | _ => cases hp
end
end Go.Vi
namespace Go.Vi
open Go.RowKit Go.ChangeShapes
section
variable {H : Type} {enc : TypeId × Value → H} {P : Program}
theorem To.below {w : World} {c' : Cx} {H' : Hp} (t : To (allCx w) [] c' H') : Below w.heap.size w c'.w :=
 ⟨t.ext.os, t.ext.tape, t.ext.output, t.ext.size, fun k hk => t.ext.frame k hk (fun ⟨l, cl, ⟨o, h, _⟩, _⟩ => by simp at h)⟩
theorem Below.trodAll {W W' : World} (hl : laidOutB P = true) (hb : Below W.heap.size W W') : ∀ {ts : List TypeId} {vs : List Value} {ds : List (DataW H)} {ps : List MemPlace}, (∀ t ∈ ts, P.readableRec t = true ∧ t < P.types.size) → (∀ x ∈ ps, x.block < W.heap.size) →
 DataW.TrodAll enc P W 0 (fun _ => true) true ts vs ds ps → DataW.TrodAll enc P W' 0 (fun b => decide (b < W.heap.size)) true ts vs ds ps
 | [], vs, ds, ps, hr, hlt, h => by
   obtain ⟨rfl, rfl, rfl⟩ := trodAll_nil h
   exact rfl
 | t :: ts, vs, ds, ps, hr, hlt, h => by
   obtain ⟨v, vs', d, ds', p, q, rfl, rfl, rfl, h1, h2⟩ := trodAll_cons h
   exact ⟨p, q, Below.trod hl (hr t (by simp)).1 (hr t (by simp)).2 h1 hb (fun x hx => hlt x (by simp [hx])), Below.trodAll hl hb (fun t ht => hr t (by simp [ht])) (fun x hx => hlt x (by simp [hx])) h2, rfl⟩
theorem post_law {f : Func} {s : ChangeSpec} {apart fresh handsOn : Bool} {W W' : World} {args : Array Value} {ds gs : List (DataW H)} {before : List MemPlace} {tb : TypeId}
 (hW : DataW.Whole enc P f.params.toList s.vars apart W args.toList ds gs before) (hvars : s.vars = []) (hfn : s.fn H (ds ++ gs) = { results := [.lit (.bool true)], args := ds })
 (hl : laidOutB P = true) (hr : ∀ t ∈ f.params.toList, P.readableRec t = true ∧ t < P.types.size) (hres : f.resultTypes = #[tb]) (hbool : P.underlying tb = some .bool) (hb : Below W.heap.size W W') :
 s.post enc P f apart fresh handsOn false W args (.bool true) W' := by
 have hlt := hW.lt
 have hW' := hW
 obtain ⟨p, q, h1, h2, rfl, _⟩ := hW
 refine ⟨ds, gs, p ++ q, [], p, [], hW', ?_, ?_, ?_, hb.frame _, fun h => by cases h⟩
 · rw [hfn, hres]
   exact trodAll_mk1 (shut_bool hbool true)
 · rw [hfn]
   exact Below.trodAll hl hb hr (fun x hx => hlt x (by simp [hx])) h1
 rw [hfn, hvars]
 exact rfl
def argOf (P : Program) (t : TypeId) (xs : List AV) : Option AV :=
 match P.underlying t with
 | some (.struct _) | some (.array _ _) => some (.agg xs)
 | _ => match xs with
   | [x] => some x
   | _ => none
def ArgIs (P : Program) (F : Nat) (t : TypeId) (a : AV) : Prop := ∃ f xs, F ≤ f ∧ Shp P f t xs ∧ argOf P t xs = some a ∧ xs.all AV.isVal = true
theorem arg_bridge {W : World} {F base : Nat} {t : TypeId} {v : Value} {d : DataW H} {p : List MemPlace} {sp : Nat → Bool} {held : Bool} (hp : ∀ f, F ≤ f → plainT P f t = true) (hok : Value.okWide P W .any base t v) (h : DataW.Trod enc P W 0 sp held t v d p) :
 ∃ a, ArgIs P F t a ∧ Rel (allCx W) a v := by
 obtain ⟨f, h⟩ := h
 have h' := DataW.trod_le (Nat.le_max_left f F) h
 obtain ⟨xs, x1, x2⟩ := bridge (max f F) t _ _ (hp _ (Nat.le_max_right f F)) h'
 have hval : xs.all AV.isVal = true := List.all_eq_true.2 fun x hx => by
  obtain ⟨j, hj⟩ := List.mem_iff_getElem?.1 hx
  have hlt : j < v.cells.toList.length := by rw [← x1.1]; exact (List.getElem?_eq_some_iff.1 hj).1
  exact (x1.2 j x _ hj (List.getElem?_eq_getElem hlt)).2.1
 have hagg : (∃ cs, v = .agg cs) → Rel (allCx W) (.agg xs) v := by
  rintro ⟨cs, rfl⟩
  refine .agg xs cs (by simpa [Value.cells] using x1.1) (fun j V hV => ?_) (fun j x V hx hV => (x1.2 j x V hx (by simpa [Value.cells] using hV)).1)
  have hj : j < xs.length := by rw [x1.1]; simpa [Value.cells] using (Array.getElem?_eq_some_iff.1 hV).1
  exact (x1.2 j _ V (List.getElem?_eq_getElem hj) (by simpa [Value.cells] using hV)).2.2
 have hone : ∀ x, xs = [x] → (∀ cs, v ≠ .agg cs) → Rel (allCx W) x v := by
  intro x hx hne
  subst hx
  have hc : v.cells = #[v] := by cases v <;> first | rfl | exact absurd rfl (hne _)
  exact (x1.2 0 x v rfl (by rw [hc]; rfl)).1
 have hf := hp (max f F) (Nat.le_max_right f F)
 unfold Value.okWide at hok
 have x2' := x2
 cases hm : max f F with
 | zero => rw [hm] at x2'; exact x2'.elim
 | succ m =>
   rw [hm] at x2'
   unfold Shp at x2'
   cases hu : P.underlying t with
   | none => rw [hu] at x2'; exact x2'.elim
   | some dd =>
     rw [hu] at x2' hok
     have leaf : ∀ x, xs = [x] → (argOf P t xs = some x) → (∀ cs, v ≠ .agg cs) → ∃ a, ArgIs P F t a ∧ Rel (allCx W) a v := fun x hx ha hne => ⟨x, ⟨max f F, xs, Nat.le_max_right _ _, x2, ha, hval⟩, hone x hx hne⟩
     have na : ∀ (T : Cell.okWide P W .any base t v), (∀ fs, dd ≠ .struct fs) → (∀ n e, dd ≠ .array n e) → dd ≠ .unsafePointer → ∀ cs, v ≠ .agg cs := by
      intro T _ _ _ cs e
      subst e
      unfold Cell.okWide at T
      rw [hu] at T
      cases dd <;> first
       | (simp [Cell.ok, hu] at T; done)
       | (exact T.elim)
     cases dd with
     | struct fs =>
       obtain ⟨cs, hv, _⟩ := hok
       exact ⟨.agg xs, ⟨max f F, xs, Nat.le_max_right _ _, x2, by simp [argOf, hu], hval⟩, hagg ⟨cs, hv⟩⟩
     | array n e =>
       obtain ⟨cs, hv, _⟩ := hok
       exact ⟨.agg xs, ⟨max f F, xs, Nat.le_max_right _ _, x2, by simp [argOf, hu], hval⟩, hagg ⟨cs, hv⟩⟩
     | bool =>
       obtain ⟨b, hb⟩ := x2'
       exact leaf _ hb (by simp [argOf, hu, hb]) (na hok (fun _ h => by cases h) (fun _ _ h => by cases h) (by simp))
     | int k =>
       obtain ⟨b, hb, _⟩ := x2'
       exact leaf _ hb (by simp [argOf, hu, hb]) (na hok (fun _ h => by cases h) (fun _ _ h => by cases h) (by simp))
     | string =>
       obtain ⟨b, hb, _⟩ := x2'
       exact leaf _ hb (by simp [argOf, hu, hb]) (na hok (fun _ h => by cases h) (fun _ _ h => by cases h) (by simp))
     | slice e =>
       rcases x2' with hb | ⟨rows, hb, _⟩
       · exact leaf _ hb (by simp [argOf, hu, hb]) (na hok (fun _ h => by cases h) (fun _ _ h => by cases h) (by simp))
       exact leaf _ hb (by simp [argOf, hu, hb]) (na hok (fun _ h => by cases h) (fun _ _ h => by cases h) (by simp))
     | _ => exact x2'.elim
theorem law_calls {f : Nat} {W : World} {as : List AV} {Vs : List Value} (h : XS P (fun _ => none) f as [] fun r _ => r = .bool true) (hl : as.length = Vs.length) (hr : ∀ (j : Nat) (x : AV) (V : Value), as[j]? = some x → Vs[j]? = some V → Rel (allCx W) x V) :
 Calls P f Vs.toArray W fun e W' => e = .returned (.bool true) ∧ Below W.heap.size W W' := by
 refine (h (allCx W) Vs (allSim W) (fun g cs hg => by cases hg) hl hr).mono ?_
 rintro e w' ⟨r, H', c', V, rfl, rfl, t, hR, rfl⟩
 cases hR
 exact ⟨rfl, To.below t⟩
end
end Go.Vi
