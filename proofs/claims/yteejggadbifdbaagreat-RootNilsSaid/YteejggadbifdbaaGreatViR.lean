/- Vi, part R: calls that are computed. -/
import Derived.Test.YteejggadbifdbaaGreatViQ
section
set_option autoImplicit false
set_option linter.unusedVariables false
set_option linter.unusedSimpArgs false
namespace Go.Vi

abbrev Rec := Nat → List AV → Hp → Option (AV × Hp)

def ecallX (R : Rec) (m : Md) (g : Nat) (xs : List AV) (H : Hp) : Option (AV × Hp) :=
  match m with
  | .shr => R g xs H
  | .iso => match mapL (lend H) xs with
    | some ys => match R g ys [] with
      | some (r, H2) => (retv H2 r).map (·, H)
      | none => none
    | none => none
  | .shf => match R g xs H with
    | some (r, H2) => (frzv H2 r).map fun p => (p.2, p.1)
    | none => none

/-- The walk's next step, where it is no choice. -/
def enext (H : Hp) (x : AV) : Option (AV × Hp) :=
  match x with
  | .ptr li 0 0 => match H[li]? with
    | some (.iter l n seen) => match H[l]? with
      | some (.map es) => if es.length = n then match (List.range n).filter (fun j => !seen.contains j) with
          | [] => some (.tup [.bool false], H)
          | [j] => match es[j]? with
            | some e => some (.tup [.bool true, .int .i64 e.1, e.2], H.set li (.iter l n (seen ++ [j])))
            | none => none
          | _ => none
        else none
      | _ => none
    | _ => none
  | _ => none

theorem enext_sound {H H' : Hp} {x r : AV} (h : enext H x = some (r, H')) : vnext H x fun r1 H1 => r1 = r ∧ H1 = H' := by
  unfold enext at h
  unfold vnext
  split at h
  · rename_i li
    split at h
    · rename_i l n seen hi
      split at h
      · rename_i es hl
        split at h
        · rename_i hn
          have mem : ∀ j, j ∈ (List.range n).filter (fun j => !seen.contains j) ↔ j < n ∧ j ∉ seen := fun j => by simp
          split at h
          · rename_i hf
            cases h
            rw [hf] at mem
            simp only [hi, hl]
            refine ⟨hn, fun _ => by simp, fun j e he hj => ?_⟩
            have hlt := (List.getElem?_eq_some_iff.1 he).1
            exact absurd ((mem j).2 ⟨by omega, hj⟩) (by simp)
          · rename_i j hf
            rw [hf] at mem
            split at h
            · rename_i e he
              cases h
              simp only [hi, hl]
              refine ⟨hn, fun hall => ?_, fun k e2 he2 hk => ?_⟩
              · have := (mem j).1 (by simp)
                exact absurd (hall j this.1) this.2
              · have hlt := (List.getElem?_eq_some_iff.1 he2).1
                have : k ∈ [j] := (mem k).2 ⟨by omega, hk⟩
                simp at this
                subst this
                rw [he] at he2
                cases he2
                exact ⟨rfl, rfl⟩
            · cases h
          · cases h
        · cases h
      · cases h
    · cases h
  · cases h

def eop (R : Rec) (P : Program) (md : Oper → Md) (G : Glob) (env : List AV) (H : Hp) (o : Oper) : Option (AV × Hp) :=
  match o.op with
  | .call { callee := .value f, args, .. } => match ev G env f, evL (ev G env) args.toList with
    | some (.clo g cs), some xs => if enterOk P g = true then ecallX R (md o) g (xs ++ cs) H else (vext2 P H g (xs ++ cs)).map (·, H)
    | _, _ => none
  | .call { callee := .invoke rv name, args, .. } => match ev G env rv, evL (ev G env) args.toList with
    | some (.iface t v), some xs => match methOf P t name with
      | some g => if enterOk P g = true then ecallX R (md o) g (v :: xs) H else none
      | none => none
    | _, _ => none
  | .next x false => match ev G env x with
    | some v => enext H v
    | none => none
  | _ => vexec2 P md (ev G env) H o

def eseq (R : Rec) (P : Program) (md : Oper → Md) (G : Glob) (ops : Array Oper) : List Nat → List AV → Hp → Option (List AV × Hp)
  | [], env, H => some (env, H)
  | i :: r, env, H => match ops[i]? with
    | none => none
    | some o => match wantedV o.guard ops env with
      | some true => match eop R P md G env H o with
        | some (v, H') => eseq R P md G ops r (putE env o.dst v) H'
        | none => none
      | some false => eseq R P md G ops r (putE env o.dst (.tup [])) H
      | none => none

mutual
def AV.same : AV → AV → Bool
  | .undef, .undef => true
  | .int k n, .int k' n' => decide (k = k') && decide (n = n')
  | .bool a, .bool b => a == b
  | .str a, .str b => decide (a = b)
  | .nilp, .nilp => true
  | .ptr l i k, .ptr l' i' k' => l == l' && i == i' && k == k'
  | .iptr b cs, .iptr b' cs' => b == b' && sameL cs cs'
  | .nils, .nils => true
  | .list t r, .list t' r' => decide (t = t') && sameLL r r'
  | .row t l i n, .row t' l' i' n' => t == t' && l == l' && i == i' && n == n'
  | .sub l i k e n, .sub l' i' k' e' n' => l == l' && i == i' && k == k' && e == e' && n == n'
  | .agg cs, .agg cs' => sameL cs cs'
  | .tup cs, .tup cs' => sameL cs cs'
  | .clo f cs, .clo f' cs' => f == f' && sameL cs cs'
  | .nilf, .nilf => true
  | .nilm, .nilm => true
  | .mapr l, .mapr l' => l == l'
  | .nili, .nili => true
  | .iface t v, .iface t' v' => Nat.beq t t' && AV.same v v'
  | .meth n t v, .meth n' t' v' => decide (n = n') && Nat.beq t t' && AV.same v v'
  | _, _ => false
def sameL : List AV → List AV → Bool
  | [], [] => true
  | x :: r, y :: s => AV.same x y && sameL r s
  | _, _ => false
def sameLL : List (List AV) → List (List AV) → Bool
  | [], [] => true
  | x :: r, y :: s => sameL x y && sameLL r s
  | _, _ => false
end

/-- The same run, with the objects' states behind each change. -/
def eseqH (R : Rec) (P : Program) (md : Oper → Md) (G : Glob) (ops : Array Oper) : List Nat → List AV → Hp → Option (List Hp × List AV × Hp)
  | [], env, H => some ([], env, H)
  | i :: r, env, H => match ops[i]? with
    | none => none
    | some o => match wantedV o.guard ops env with
      | some true => match eop R P md G env H o with
        | some (v, H') => match eseqH R P md G ops r (putE env o.dst v) H' with
          | some (hs, e, H2) => some (if clsOp md o = 2 then H' :: hs else hs, e, H2)
          | none => none
        | none => none
      | some false => match eseqH R P md G ops r (putE env o.dst (.tup [])) H with
        | some (hs, e, H2) => some (if clsOp md o = 2 then H :: hs else hs, e, H2)
        | none => none
      | none => none

def echkW (R : Rec) (P : Program) (md : Oper → Md) (G : Glob) (ops : Array Oper) (wn : Nat → Nat × Nat) (h : Nat → Hp) : List Nat → List AV → Nat → Bool
  | [], env, k => true
  | i :: r, env, k => match ops[i]? with
    | none => false
    | some o => match wantedV o.guard ops env with
      | some true => match eop R P md G env (h k) o with
        | some (v, _) => if clsOp md o = 2 then decide (k = (wn i).1) && echkW R P md G ops wn h r (putE env o.dst v) (k + 1)
          else (decide ((wn i).1 ≤ k) && decide (k ≤ (wn i).2)) && ((List.range ((wn i).2 + 1)).all fun q => decide (q < (wn i).1) || match eop R P md G env (h q) o with
            | some (v', _) => AV.same v' v
            | none => false) && echkW R P md G ops wn h r (putE env o.dst v) k
        | none => false
      | some false => if clsOp md o = 2 then decide (k = (wn i).1) && echkW R P md G ops wn h r (putE env o.dst (.tup [])) (k + 1)
        else (decide ((wn i).1 ≤ k) && decide (k ≤ (wn i).2)) && echkW R P md G ops wn h r (putE env o.dst (.tup [])) k
      | none => false

def eregW (R : Rec) (P : Program) (md : Oper → Md) (G : Glob) (ops : Array Oper) (env : List AV) (H : Hp) : Option (List AV × Hp) :=
  match eseqH R P md G ops (List.range ops.size) env H with
  | some (hs, env', H') => if drawOkOf (okW md ops (winOf md ops)) ops = true ∧ echkW R P md G ops (winOf md ops) (fun q => (H :: hs).getD q []) (List.range ops.size) env 0 = true then some (env', H') else none
  | none => none

/-- Rounds of a loop: at most n. -/
def eloop (f : List AV → Hp → Option (Exit × List AV × Hp)) : Nat → List AV → Hp → Option (Exit × List AV × Hp)
  | 0, _, _ => none
  | n + 1, env, H => match f env H with
    | some (.normal, env', H') => eloop f n env' H'
    | r => r

def ecode (R : Rec) (P : Program) (md : Oper → Md) (G : Glob) (n : Nat) : Code → List AV → Hp → Option (Exit × List AV × Hp)
  | .skip, env, H => some (.normal, env, H)
  | .label _, env, H => some (.normal, env, H)
  | .region _ ops d, env, H => match (if d = true ∧ drawOk md ops = false then eregW R P md G ops env H else eseq R P md G ops (List.range ops.size) env H) with
    | some (env', H') => some (.normal, env', H')
    | none => none
  | .seq x y, env, H => match ecode R P md G n x env H with
    | some (.normal, env', H') => ecode R P md G n y env' H'
    | r => r
  | .cond c x y, env, H => match ev G env c with
    | some (.bool b) => if b = true then ecode R P md G n x env H else ecode R P md G n y env H
    | _ => none
  | .block id c, env, H => match ecode R P md G n c env H with
    | some (.exit id', env', H') => if id' = id then some (.normal, env', H') else some (.exit id', env', H')
    | r => r
  | .loop c, env, H => eloop (ecode R P md G n c) n env H
  | .exit id, env, H => some (.exit id, env, H)
  | .ret, env, H => some (.ret, env, H)
  | _, _, _ => none

def efin (P : Program) (fn : Func) : Option (Exit × List AV × Hp) → Option (AV × Hp)
  | some (.normal, env, H) => (vres P H fn env).map (·, H)
  | some (.ret, env, H) => (vres P H fn env).map (·, H)
  | _ => none

def erun (P : Program) (md : Nat → Oper → Md) (G : Glob) (n : Nat) : Nat → Rec
  | 0, _, _, _ => none
  | d + 1, f, args, H => match P.funcs[f]? with
    | some fn => match fn.body with
      | some code => efin P fn (ecode (erun P md G n d) P (md f) G n code (args ++ List.replicate (fn.ntmps - args.length) .undef) H)
      | none => none
    | none => none

def RecOk (P : Program) (G : Glob) (R : Rec) : Prop := ∀ g xs H r H', R g xs H = some (r, H') → XS P G g xs H fun r1 H1 => r1 = r ∧ H1 = H'

section
variable {R : Rec} {P : Program} {md : Oper → Md} {G : Glob}

theorem ecallX_sound (hR : RecOk P G R) {m : Md} {g : Nat} {xs : List AV} {H H' : Hp} {r : AV} (h : ecallX R m g xs H = some (r, H')) : vcallX (XS P G) m g xs H fun r1 H1 => r1 = r ∧ H1 = H' := by
  cases m with
  | shr => exact hR _ _ _ _ _ h
  | iso =>
    simp only [ecallX, vcallX] at h ⊢
    split at h
    · rename_i ys hys
      rw [hys]
      simp only
      split at h
      · rename_i r2 H2 hr
        refine (hR _ _ _ _ _ hr).mono ?_
        rintro r1 H1 ⟨rfl, rfl⟩
        obtain ⟨z, h1, h2⟩ := map_some h
        rw [h1]
        cases h2
        exact ⟨rfl, rfl⟩
      · cases h
    · cases h
  | shf =>
    simp only [ecallX, vcallX] at h ⊢
    split at h
    · rename_i r2 H2 hr
      refine (hR _ _ _ _ _ hr).mono ?_
      rintro r1 H1 ⟨rfl, rfl⟩
      obtain ⟨z, h1, h2⟩ := map_some h
      obtain ⟨z1, z2⟩ := z
      rw [h1]
      cases h2
      exact ⟨rfl, rfl⟩
    · cases h

theorem eop_sound (hR : RecOk P G R) {env : List AV} {H H' : Hp} {o : Oper} {r : AV} (h : eop R P md G env H o = some (r, H')) : vop (XS P G) P md G env H o fun r1 H1 => r1 = r ∧ H1 = H' := by
  obtain ⟨dst, op, type, pos, after, guard⟩ := o
  have key : ∀ (z : Option (AV × Hp)), z = some (r, H') → (match z with | some (r1, H1) => r1 = r ∧ H1 = H' | none => False) := fun z hz => by subst hz; exact ⟨rfl, rfl⟩
  cases op with
  | call c =>
    obtain ⟨callee, args, ts⟩ := c
    cases callee with
    | value f =>
      simp only [eop, vop] at h ⊢
      split at h
      · rename_i g cs xs h1 h2
        rw [h1, h2]
        simp only
        split at h
        · rename_i hen
          rw [if_pos hen]
          exact ecallX_sound hR h
        · rename_i hen
          rw [if_neg hen]
          obtain ⟨x, h1, h2⟩ := Option.map_eq_some_iff.1 h
          cases h2
          exact ⟨_, h1, rfl, rfl⟩
      · cases h
    | invoke rv name =>
      simp only [eop, vop] at h ⊢
      split at h
      · rename_i t v xs h1 h2
        rw [h1, h2]
        simp only
        split at h
        · rename_i g hg
          rw [hg]
          split at h
          · rename_i hen
            exact ⟨hen, ecallX_sound hR h⟩
          · cases h
        · cases h
      · cases h
    | _ => exact key _ h
  | next x sb =>
    cases sb with
    | true => cases h
    | false =>
      simp only [eop] at h
      simp only [vop]
      split at h
      · rename_i v hv
        rw [hv]
        exact enext_sound h
      · cases h
  | _ => exact key _ h

theorem eop_keeps {env : List AV} {H H' : Hp} {o : Oper} {r : AV} (h : eop R P md G env H o = some (r, H')) (hc : clsOp md o ≠ 2) : H' = H := by
  obtain ⟨dst, op, type, pos, after, guard⟩ := o
  have key : ∀ {α : Type} (z : Option α) (f : α → AV × Hp), (∀ a, (f a).2 = H) → z.map f = some (r, H') → H' = H := by
    intro α z f hf hz
    cases z with
    | none => cases hz
    | some z => simp only [Option.map_some, Option.some.injEq] at hz; have := hf z; rw [hz] at this; exact this
  cases op with
  | move x | assign x => simp only [eop, vexec] at h; exact key _ _ (fun _ => rfl) h
  | pick a b d =>
    simp only [eop, vexec2, vexec] at h
    split at h
    · exact key _ _ (fun _ => rfl) h
    · exact key _ _ (fun _ => rfl) h
    · cases h
  | buildSlice t len ps =>
    simp only [clsOp] at hc
    split at hc
    · rename_i hm
      simp only [eop, vexec2] at h
      split at h
      · rw [if_pos hm] at h
        exact key _ _ (fun _ => rfl) h
      · cases h
    · exact absurd rfl hc
  | nilCheck x =>
    simp only [eop, vexec2, vexec] at h
    split at h
    · split at h
      · cases h; rfl
      · cases h
    · cases h
  | convert a b x =>
    simp only [clsOp] at hc
    split at hc
    · exact absurd rfl hc
    · rename_i hab
      simp only [eop, vexec2, if_neg hab, vexec] at h
      split at h
      · exact key _ _ (fun _ => rfl) h
      · cases h
  | build t ps | load t x | unOp a b x | fieldAddr a x b | field a x b | extract x a | binOp a b x y d | index d x y | indexAddr d x y | slice a b c d e | lookup a x y d =>
    simp only [eop, vexec2, vexec] at h
    split at h
    · exact key _ _ (fun _ => rfl) h
    · cases h
  | call c =>
    obtain ⟨callee, args, ts⟩ := c
    cases callee with
    | builtin b =>
      cases b <;> first
        | exact absurd rfl hc
        | (simp only [eop, vexec2, vexec] at h
           split at h
           · unfold vbuiltin at h
             split at h <;> first
               | (split at h
                  · exact key _ _ (fun _ => rfl) h
                  · cases h)
               | exact key _ _ (fun _ => rfl) h
               | cases h
               | contradiction
           · cases h)
    | value f =>
      simp only [clsOp] at hc
      split at hc
      · rename_i hm
        simp only [eop] at h
        split at h
        · split at h
          · rw [hm] at h
            simp only [ecallX] at h
            split at h
            · split at h
              · exact key _ _ (fun _ => rfl) h
              · cases h
            · cases h
          · obtain ⟨x, h1, h2⟩ := Option.map_eq_some_iff.1 h
            cases h2; rfl
        · cases h
      · exact absurd rfl hc
    | invoke a b => exact absurd rfl hc
  | _ => exact absurd rfl hc

theorem eseq_vseq (hR : RecOk P G R) {ops : Array Oper} {K : List AV → Hp → Prop} : ∀ (l : List Nat) (env : List AV) (H : Hp) (env' : List AV) (H' : Hp), eseq R P md G ops l env H = some (env', H') → K env' H' → vseq (XS P G) P md G ops l env H K
  | [], env, H, env', H', h, hK => by cases h; exact ⟨_, Wk.refl _, hK⟩
  | i :: r, env, H, env', H', h, hK => by
    simp only [eseq] at h
    simp only [vseq]
    refine ⟨env, Wk.refl _, ?_⟩
    cases ho : ops[i]? with
    | none => rw [ho] at h; cases h
    | some o =>
      rw [ho] at h
      simp only at h ⊢
      cases hw : wantedV o.guard ops env with
      | none => rw [hw] at h; cases h
      | some b =>
        rw [hw] at h
        cases b with
        | true =>
          simp only at h ⊢
          split at h
          · rename_i v H1 hv
            refine vop_mono (eop_sound hR hv) ?_
            rintro _ _ ⟨rfl, rfl⟩
            exact eseq_vseq hR r _ _ env' H' h hK
          · cases h
        | false => exact eseq_vseq hR r _ _ env' H' h hK

theorem eseq_vseqD (hR : RecOk P G R) {ops : Array Oper} {K : List AV → Hp → Prop} : ∀ (l : List Nat) (env : List AV) (H : Hp) (env' : List AV) (H' : Hp), eseq R P md G ops l env H = some (env', H') → K env' H' → vseqD (XS P G) P md G ops l env H K
  | [], env, H, env', H', h, hK => by cases h; exact hK
  | i :: r, env, H, env', H', h, hK => by
    simp only [eseq] at h
    simp only [vseqD]
    cases ho : ops[i]? with
    | none => rw [ho] at h; cases h
    | some o =>
      rw [ho] at h
      simp only at h ⊢
      cases hw : wantedV o.guard ops env with
      | none => rw [hw] at h; cases h
      | some b =>
        rw [hw] at h
        cases b with
        | true =>
          simp only at h ⊢
          split at h
          · rename_i v H1 hv
            by_cases hc : clsOp md o = 2
            · rw [if_pos hc]
              exact ⟨v, H1, eop_sound hR hv, eseq_vseqD hR r _ _ env' H' h hK⟩
            · rw [if_neg hc]
              have := eop_keeps hv hc
              subst this
              exact ⟨v, eop_sound hR hv, eseq_vseqD hR r _ _ env' H' h hK⟩
          · cases h
        | false => exact eseq_vseqD hR r _ _ env' H' h hK

mutual
theorem AV.same_eq : ∀ {a b : AV}, AV.same a b = true → a = b := by
  intro a b h
  cases a <;> cases b <;> simp only [AV.same, Bool.and_eq_true, beq_iff_eq, decide_eq_true_eq, Bool.false_eq_true] at h <;> first
    | rfl
    | (cases h; done)
    | (subst h; rfl)
    | (obtain ⟨rfl, rfl⟩ := h; rfl)
    | (obtain ⟨⟨rfl, rfl⟩, rfl⟩ := h; rfl)
    | (obtain ⟨⟨⟨rfl, rfl⟩, rfl⟩, rfl⟩ := h; rfl)
    | (obtain ⟨⟨⟨⟨rfl, rfl⟩, rfl⟩, rfl⟩, rfl⟩ := h; rfl)
    | (obtain ⟨rfl, h2⟩ := h; rw [sameL_eq h2])
    | (obtain ⟨h1, h2⟩ := h; rw [Nat.eq_of_beq_eq_true h1, AV.same_eq h2])
    | (obtain ⟨⟨rfl, h1⟩, h2⟩ := h; rw [Nat.eq_of_beq_eq_true h1, AV.same_eq h2])
    | (obtain ⟨rfl, h2⟩ := h; rw [sameLL_eq h2])
    | (rw [sameL_eq h])
theorem sameL_eq : ∀ {a b : List AV}, sameL a b = true → a = b
  | [], [], _ => rfl
  | [], _ :: _, h => by simp [sameL] at h
  | _ :: _, [], h => by simp [sameL] at h
  | x :: r, y :: s, h => by
    simp only [sameL, Bool.and_eq_true] at h
    rw [AV.same_eq h.1, sameL_eq h.2]
theorem sameLL_eq : ∀ {a b : List (List AV)}, sameLL a b = true → a = b
  | [], [], _ => rfl
  | [], _ :: _, h => by simp [sameLL] at h
  | _ :: _, [], h => by simp [sameLL] at h
  | x :: r, y :: s, h => by
    simp only [sameLL, Bool.and_eq_true] at h
    rw [sameL_eq h.1, sameLL_eq h.2]
end

theorem eseqH_seqW (hR : RecOk P G R) {ops : Array Oper} {wn : Nat → Nat × Nat} {h : Nat → Hp} {K : List AV → Nat → Prop} : ∀ (l : List Nat) (env : List AV) (H : Hp) (k : Nat) (hs : List Hp) (env' : List AV) (H' : Hp),
    eseqH R P md G ops l env H = some (hs, env', H') → (∀ j x, (H :: hs)[j]? = some x → h (k + j) = x) → echkW R P md G ops wn h l env k = true → (h (k + hs.length) = H' → K env' (k + hs.length)) → vseqW (XS P G) P md G ops wn h l env k K
  | [], env, H, k, hs, env', H', he, hh, hc, hK => by
    simp only [eseqH, Option.some.injEq, Prod.mk.injEq] at he
    obtain ⟨rfl, rfl, rfl⟩ := he
    exact hK (hh 0 H rfl)
  | i :: r, env, H, k, hs, env', H', he, hh, hc, hK => by
    have hk : h k = H := hh 0 H rfl
    simp only [eseqH] at he
    simp only [echkW] at hc
    simp only [vseqW]
    cases ho : ops[i]? with
    | none => rw [ho] at he; cases he
    | some o =>
      rw [ho] at he hc
      simp only at he hc ⊢
      cases hw : wantedV o.guard ops env with
      | none => rw [hw] at he; cases he
      | some b =>
        rw [hw] at he hc
        cases b with
        | true =>
          simp only at he hc ⊢
          rw [hk] at hc
          cases hv : eop R P md G env H o with
          | none => rw [hv] at he; cases he
          | some p =>
            obtain ⟨v, H1⟩ := p
            rw [hv] at he hc
            simp only at he hc
            cases hr : eseqH R P md G ops r (putE env o.dst v) H1 with
            | none => rw [hr] at he; cases he
            | some q =>
              obtain ⟨hs1, e1, H2⟩ := q
              rw [hr] at he
              simp only [Option.some.injEq, Prod.mk.injEq] at he
              obtain ⟨g1, rfl, rfl⟩ := he
              by_cases hcl : clsOp md o = 2
              · rw [if_pos hcl] at g1 hc ⊢
                subst g1
                simp only [Bool.and_eq_true, decide_eq_true_eq] at hc
                refine ⟨hc.1, v, ?_, eseqH_seqW hR r _ H1 (k + 1) hs1 _ _ hr (fun j x hx => ?_) hc.2 (fun hf => ?_)⟩
                · rw [hk, hh 1 H1 rfl]
                  exact eop_sound hR hv
                · have := hh (j + 1) x hx
                  rw [← this]
                  congr 1
                  omega
                · have e : k + 1 + hs1.length = k + (H1 :: hs1).length := by simp; omega
                  rw [e] at hf ⊢
                  exact hK hf
              · rw [if_neg hcl] at g1 hc ⊢
                subst g1
                have := eop_keeps hv hcl
                subst this
                simp only [Bool.and_eq_true, decide_eq_true_eq, List.all_eq_true, List.mem_range, Bool.or_eq_true] at hc
                obtain ⟨⟨c1, c2⟩, c3⟩ := hc
                refine ⟨c1, v, fun q l1 l2 => ?_, eseqH_seqW hR r _ H1 k hs1 _ _ hr hh c3 hK⟩
                have := (c2 q (by omega)).resolve_left (by omega)
                split at this
                · rename_i v' H3 hv'
                  have e := AV.same_eq this
                  subst e
                  have := eop_keeps hv' hcl
                  subst this
                  exact eop_sound hR hv'
                · cases this
        | false =>
          simp only at he hc ⊢
          cases hr : eseqH R P md G ops r (putE env o.dst (.tup [])) H with
          | none => rw [hr] at he; cases he
          | some q =>
            obtain ⟨hs1, e1, H2⟩ := q
            rw [hr] at he
            simp only [Option.some.injEq, Prod.mk.injEq] at he
            obtain ⟨g1, rfl, rfl⟩ := he
            by_cases hcl : clsOp md o = 2
            · rw [if_pos hcl] at g1 hc ⊢
              subst g1
              simp only [Bool.and_eq_true, decide_eq_true_eq] at hc
              refine ⟨hc.1, by rw [hk, hh 1 H rfl], eseqH_seqW hR r _ H (k + 1) hs1 _ _ hr (fun j x hx => ?_) hc.2 (fun hf => ?_)⟩
              · have := hh (j + 1) x hx
                rw [← this]
                congr 1
                omega
              · have e : k + 1 + hs1.length = k + (H :: hs1).length := by simp; omega
                rw [e] at hf ⊢
                exact hK hf
            · rw [if_neg hcl] at g1 hc ⊢
              subst g1
              simp only [Bool.and_eq_true, decide_eq_true_eq] at hc
              exact ⟨hc.1, eseqH_seqW hR r _ H k hs1 _ _ hr hh hc.2 hK⟩

theorem eregW_sound (hR : RecOk P G R) {ops : Array Oper} {env env' : List AV} {H H' : Hp} {K : List AV → Hp → Prop} (he : eregW R P md G ops env H = some (env', H')) (hK : K env' H') : vregW (XS P G) P md G ops env H K := by
  unfold eregW at he
  split at he
  · rename_i hs e1 H1 h1
    split at he
    · rename_i hc
      cases he
      refine ⟨hc.1, hs, eseqH_seqW hR _ _ H 0 hs _ _ h1 (fun j x hx => ?_) hc.2 (fun hf => ?_)⟩
      · simp only [Nat.zero_add]
        rw [List.getD_eq_getElem?_getD, hx]
        rfl
      · have hf : (H :: hs).getD (0 + hs.length) [] = H' := hf
        show K env' ((H :: hs).getD (0 + hs.length) [])
        rw [hf]
        exact hK
    · cases he
  · cases he

theorem ecode_sound (hR : RecOk P G R) {n nb : Nat} : ∀ (code : Code) (Q : Qv) (env : List AV) (H : Hp) (e : Exit) (env' : List AV) (H' : Hp), ecode R P md G n code env H = some (e, env', H') → Q e env' H' → vcode (XS P G) P md G nb code Q env H
  | .skip, Q, env, H, e, env', H', h, hQ => by cases h; exact hQ
  | .label _, Q, env, H, e, env', H', h, hQ => by cases h; exact hQ
  | .exit _, Q, env, H, e, env', H', h, hQ => by cases h; exact hQ
  | .ret, Q, env, H, e, env', H', h, hQ => by cases h; exact hQ
  | .region _ ops false, Q, env, H, e, env', H', h, hQ => by
    simp only [ecode, Bool.false_eq_true, false_and, if_false] at h
    split at h
    · rename_i e1 H1 hs
      cases h
      exact eseq_vseq hR _ _ _ _ _ hs hQ
    · cases h
  | .region _ ops true, Q, env, H, e, env', H', h, hQ => by
    simp only [ecode, true_and] at h
    split at h
    · rename_i e1 H1 hs
      cases h
      split at hs
      · exact .inr (.inl (eregW_sound hR hs hQ))
      · rename_i hd
        exact .inl ⟨by simpa using hd, eseq_vseqD hR _ _ _ _ _ hs hQ⟩
    · cases h
  | .seq x y, Q, env, H, e, env', H', h, hQ => by
    simp only [ecode] at h
    refine .inl ?_
    split at h
    · rename_i e1 H1 hx
      exact ecode_sound hR x _ env H .normal e1 H1 hx (ecode_sound hR y Q e1 H1 e env' H' h hQ)
    · rename_i hne
      refine ecode_sound hR x _ env H e env' H' h ?_
      cases e with
      | normal => exact absurd h (hne _ _)
      | _ => exact hQ
  | .cond c x y, Q, env, H, e, env', H', h, hQ => by
    simp only [ecode] at h
    simp only [vcode]
    split at h
    · rename_i b hb
      rw [hb]
      simp only
      split at h
      · rename_i hb2; rw [if_pos hb2]; exact ecode_sound hR x Q env H e env' H' h hQ
      · rename_i hb2; rw [if_neg hb2]; exact ecode_sound hR y Q env H e env' H' h hQ
    · cases h
  | .block id c, Q, env, H, e, env', H', h, hQ => by
    simp only [ecode] at h
    split at h
    · rename_i id' e1 H1 hx
      refine ecode_sound hR c _ env H (.exit id') e1 H1 hx ?_
      simp only [blockQ]
      split at h
      · rename_i hid; cases h; rw [if_pos hid]; exact hQ
      · rename_i hid; cases h; rw [if_neg hid]; exact hQ
    · rename_i hne
      refine ecode_sound hR c _ env H e env' H' h ?_
      cases e with
      | exit id' => exact absurd h (hne _ _ _)
      | _ => exact hQ
  | .loop c, Q, env, H, e, env', H', h, hQ => by
    intro Y hY _ _ _
    have key : ∀ (m : Nat) (env : List AV) (H : Hp), eloop (ecode R P md G n c) m env H = some (e, env', H') → Y env H := by
      intro m
      induction m with
      | zero => intro env H h; cases h
      | succ m ih =>
        intro env H h
        simp only [eloop] at h
        split at h
        · rename_i e1 H1 hx
          exact hY _ _ (ecode_sound hR c _ env H .normal e1 H1 hx (ih _ _ h))
        · rename_i hne
          refine hY _ _ (ecode_sound hR c _ env H e env' H' h ?_)
          cases e with
          | normal => exact absurd h (hne _ _)
          | _ => exact hQ
    exact key n env H h
  | .rangeFunc .., Q, env, H, e, env', H', h, hQ => by cases h
  | .scope .., Q, env, H, e, env', H', h, hQ => by cases h
  | .goto .., Q, env, H, e, env', H', h, hQ => by cases h
  | .refuse .., Q, env, H, e, env', H', h, hQ => by cases h
end

/-- What is computed is what comes. -/
theorem erun_ok (P : Program) (md : Nat → Oper → Md) (G : Glob) (n : Nat) : ∀ (d : Nat), RecOk P G (erun P md G n d)
  | 0 => fun g xs H r H' h => by cases h
  | d + 1 => fun f args H r H' h => by
    simp only [erun] at h
    split at h
    · rename_i fn hf
      split at h
      · rename_i code hb
        refine (XS.pre P G).body f fn code (md f) args H _ hf hb ?_
        generalize hc : ecode (erun P md G n d) P (md f) G n code (args ++ List.replicate (fn.ntmps - args.length) .undef) H = res at h
        cases res with
        | none => cases h
        | some p =>
          obtain ⟨e, env', H1⟩ := p
          refine ecode_sound (erun_ok P md G n d) code _ _ H e env' H1 hc ?_
          cases e <;> first
            | (obtain ⟨z, h1, h2⟩ := map_some h
               simp only [fnQ, h1]
               cases h2
               exact ⟨rfl, rfl⟩)
            | (cases h; done)
      · cases h
    · cases h
end Go.Vi
end
section
set_option autoImplicit false
set_option linter.unusedVariables false
set_option linter.unusedSimpArgs false
namespace Go.Vi

/-- Functions of which what they do is known. -/
abbrev Known := Nat → Option (List AV → Hp → Option (AV × Hp))
def KnownOk (P : Program) (G : Glob) (O : Known) : Prop := ∀ g k, O g = some k → ∀ xs H r H', k xs H = some (r, H') → XS P G g xs H fun r1 H1 => r1 = r ∧ H1 = H'

def erunO (P : Program) (md : Nat → Oper → Md) (G : Glob) (O : Known) (n : Nat) : Nat → Rec
  | 0, _, _, _ => none
  | d + 1, f, args, H => match O f with
    | some k => k args H
    | none => match P.funcs[f]? with
      | some fn => match fn.body with
        | some code => efin P fn (ecode (erunO P md G O n d) P (md f) G n code (args ++ List.replicate (fn.ntmps - args.length) .undef) H)
        | none => none
      | none => none

theorem erunO_ok (P : Program) (md : Nat → Oper → Md) (G : Glob) (O : Known) (hO : KnownOk P G O) (n : Nat) : ∀ (d : Nat), RecOk P G (erunO P md G O n d)
  | 0 => fun g xs H r H' h => by cases h
  | d + 1 => fun f args H r H' h => by
    simp only [erunO] at h
    split at h
    · rename_i p hp
      exact hO f p hp args H r H' h
    split at h
    · rename_i fn hf
      split at h
      · rename_i code hb
        refine (XS.pre P G).body f fn code (md f) args H _ hf hb ?_
        generalize hc : ecode (erunO P md G O n d) P (md f) G n code (args ++ List.replicate (fn.ntmps - args.length) .undef) H = res at h
        cases res with
        | none => cases h
        | some p =>
          obtain ⟨e, env', H1⟩ := p
          refine ecode_sound (erunO_ok P md G O hO n d) code _ _ H e env' H1 hc ?_
          cases e <;> first
            | (obtain ⟨z, h1, h2⟩ := map_some h
               simp only [fnQ, h1]
               cases h2
               exact ⟨rfl, rfl⟩)
            | (cases h; done)
      · cases h
    · cases h
end Go.Vi
end
