/- Vi, part Ff: code that is computed on trees. -/
import Derived.Test.YtecjobmgphdjoaaGreatViFe
set_option autoImplicit false
set_option linter.unusedVariables false
set_option linter.unusedSimpArgs false
namespace Go.Vi

abbrev FRec := Nat → List AV → HT → Option (AV × HT)

noncomputable def fev (G : Glob) (env : Br AV) : Operand → Option AV
  | .tmp t => env.get t
  | o => ev G [] o
theorem fev_eq {G : Glob} {env : Br AV} {N : Nat} (e : env.ex N) (o : Operand) : ev G (env.toL N) o = fev G env o := by
  cases o with
  | tmp t => exact e.toL_get t
  | _ => rfl
theorem fev_fun {G : Glob} {env : Br AV} {N : Nat} (e : env.ex N) : ev G (env.toL N) = fev G env := funext (fev_eq e)

noncomputable def fput (N : Nat) (env : Br AV) (dst : Option Tmp) (v : AV) : Br AV :=
  match dst with
  | some d => match Nat.blt d N with
    | true => env.set d v
    | false => env
  | none => env
theorem fput_eq {N : Nat} {env : Br AV} (e : env.ex N) (dst : Option Tmp) (v : AV) : (fput N env dst v).ex N ∧ (fput N env dst v).toL N = putE (env.toL N) dst v := by
  cases dst with
  | none => exact ⟨e, rfl⟩
  | some d =>
    simp only [fput, putE]
    cases hb : Nat.blt d N with
    | true =>
      have : d < N := by simpa [Nat.blt_eq] using hb
      exact e.set this v
    | false =>
      have : ¬ d < N := fun h => by rw [← Nat.blt_eq] at h; rw [h] at hb; cases hb
      refine ⟨e, ?_⟩
      rw [List.set_eq_of_length_le (by rw [e.len]; exact Nat.le_of_not_lt this)]

noncomputable def fwant (g : Option (Nat × Bool)) (ops : Array Oper) (env : Br AV) : Option Bool :=
  match g with
  | none => some true
  | some (j, want) => match ((ops[j]?).bind (·.dst)).bind env.get with
    | some (.bool b) => some (b == want)
    | some (.tup []) => some false
    | _ => none
theorem fwant_eq {N : Nat} {env : Br AV} (e : env.ex N) (g : Option (Nat × Bool)) (ops : Array Oper) : wantedV g ops (env.toL N) = fwant g ops env := by
  unfold wantedV fwant
  cases g with
  | none => rfl
  | some p =>
    obtain ⟨j, want⟩ := p
    simp only
    have : ((ops[j]?).bind (·.dst)).bind (fun x => (env.toL N)[x]?) = ((ops[j]?).bind (·.dst)).bind env.get := by
      congr 1
      funext x
      exact e.toL_get x
    rw [this]
    rfl

/-- The Compare of bytes, and what else looks at objects. -/
noncomputable def bytesAtT (h : HT) (x : AV) : Option (List UInt8) := (rowsOfT h x).bind byteRows
noncomputable def vext2T (P : Program) (h : HT) (g : Nat) (xs : List AV) : Option AV :=
  match vext P g xs with
  | some x => some x
  | none => match xs with
    | [a, b] => if isExt P g "internal/bytealg.Compare" = true then match bytesAtT h a, bytesAtT h b with
        | some x, some y => some (.int .i64 (Lib.compareBytes x y))
        | _, _ => none
      else none
    | _ => none
theorem bytesAtT_eq {h : HT} (k : h.ok) {x : AV} {b : List UInt8} (hv : bytesAtT h x = some b) : bytesAt h.den x = some b := by
  unfold bytesAtT at hv
  unfold bytesAt
  obtain ⟨rows, h1, h2⟩ := Option.bind_eq_some_iff.1 hv
  rw [rowsOfT_eq k h1]
  exact h2
theorem vext2T_eq {P : Program} {h : HT} (k : h.ok) {g : Nat} {xs : List AV} {v : AV} (hv : vext2T P h g xs = some v) : vext2 P h.den g xs = some v := by
  unfold vext2T at hv
  unfold vext2
  split at hv
  · rename_i x hx; rw [hx]; exact hv
  · rename_i hx
    rw [hx]
    simp only
    unfold vextH
    split at hv
    · rename_i a b
      simp only
      split at hv
      · rename_i hi
        rw [if_pos hi]
        split at hv
        · rename_i p q hp hq
          rw [bytesAtT_eq k hp, bytesAtT_eq k hq]
          exact hv
        · cases hv
      · cases hv
    · cases hv

noncomputable def fop (R : FRec) (P : Program) (G : Glob) (env : Br AV) (h : HT) (o : Oper) : Option (AV × HT) :=
  match o.op with
  | .call { callee := .value f, args, .. } => match fev G env f, evL (fev G env) args.toList with
    | some (.clo g cs), some xs => if enterOk P g = true then R g (xs ++ cs) h else (vext2T P h g (xs ++ cs)).map (·, h)
    | _, _ => none
  | .next x false => match fev G env x with
    | some v => fnext h v
    | none => none
  | _ => fexec P (fev G env) h o

/-- The computed calls say what those on lists say. -/
def FSim (R : FRec) (R' : Rec) : Prop := ∀ g xs h r h', h.ok → R g xs h = some (r, h') → h'.ok ∧ R' g xs h.den = some (r, h'.den)

section
variable {R : FRec} {R' : Rec} {P : Program} {G : Glob} {N : Nat}

theorem fop_eq (hR : FSim R R') {env : Br AV} (e : env.ex N) {h h' : HT} (k : h.ok) {o : Oper} {v : AV} (hv : fop R P G env h o = some (v, h')) : h'.ok ∧ eop R' P mdA G (env.toL N) h.den o = some (v, h'.den) := by
  have hE := fev_fun (G := G) e
  unfold eop
  rw [hE]
  unfold fop at hv
  split at hv
  · rename_i f args ts ho
    simp only [ho]
    split at hv
    · rename_i g cs xs h1 h2
      rw [h1, h2]
      simp only
      split at hv
      · rename_i hen
        rw [if_pos hen]
        exact hR _ _ _ _ _ k hv
      · rename_i hen
        rw [if_neg hen]
        obtain ⟨x, h3, h4⟩ := map_pair hv
        cases h4
        exact ⟨k, by rw [vext2T_eq k h3]; rfl⟩
    · cases hv
  · rename_i x ho
    simp only [ho]
    split at hv
    · rename_i w hw
      rw [hw]
      exact fnext_eq k hv
    · cases hv
  · rename_i h1 h2
    obtain ⟨a, b⟩ := fexec_eq k hv
    refine ⟨a, ?_⟩
    split
    · rename_i f args ts ho
      exact absurd ho (h1 _ _ _)
    · rename_i x ho
      exact absurd ho (h2 _)
    · exact b

noncomputable def fseq (R : FRec) (P : Program) (G : Glob) (N : Nat) (ops : Array Oper) : List Oper → Br AV → HT → Option (Br AV × HT)
  | [], env, h => some (env, h)
  | o :: r, env, h => match fwant o.guard ops env with
    | some true => match fop R P G env h o with
      | some (v, h') => fseq R P G N ops r (fput N env o.dst v) h'
      | none => none
    | some false => fseq R P G N ops r (fput N env o.dst (.tup [])) h
    | none => none

theorem fseq_eq (hR : FSim R R') {ops : Array Oper} : ∀ (l : List Oper) (ix : List Nat) {env env' : Br AV} {h h' : HT}, ix.map (ops[·]?) = l.map some → env.ex N → h.ok → fseq R P G N ops l env h = some (env', h') →
    env'.ex N ∧ h'.ok ∧ eseq R' P mdA G ops ix (env.toL N) h.den = some (env'.toL N, h'.den)
  | [], ix, env, env', h, h', hm, e, k, hv => by
    have : ix = [] := by simpa using hm
    subst this
    cases hv
    exact ⟨e, k, rfl⟩
  | o :: r, [], env, env', h, h', hm, e, k, hv => by simp at hm
  | o :: r, i :: ix, env, env', h, h', hm, e, k, hv => by
    simp only [List.map_cons, List.cons.injEq] at hm
    obtain ⟨hi, hm⟩ := hm
    simp only [fseq] at hv
    simp only [eseq, hi, fwant_eq e]
    split at hv
    · rename_i hw
      rw [hw]
      simp only
      split at hv
      · rename_i v h1 ho
        obtain ⟨a, b⟩ := fop_eq hR e k ho
        rw [b]
        obtain ⟨e1, e2⟩ := fput_eq e o.dst v
        obtain ⟨c1, c2, c3⟩ := fseq_eq hR r ix hm e1 a hv
        rw [e2] at c3
        exact ⟨c1, c2, c3⟩
      · cases hv
    · rename_i hw
      rw [hw]
      simp only
      obtain ⟨e1, e2⟩ := fput_eq e o.dst (.tup [])
      obtain ⟨c1, c2, c3⟩ := fseq_eq hR r ix hm e1 k hv
      rw [e2] at c3
      exact ⟨c1, c2, c3⟩
    · cases hv

theorem range_ops (ops : Array Oper) : (List.range ops.size).map (ops[·]?) = ops.toList.map some := by
  apply List.ext_getElem?
  intro i
  have ht : ops.toList[i]? = ops[i]? := Array.getElem?_toList
  rw [List.getElem?_map, List.getElem?_map, ht]
  by_cases hi : i < ops.size
  · rw [List.getElem?_range hi, Array.getElem?_eq_getElem hi]
    simp
  · rw [List.getElem?_eq_none (l := List.range ops.size) (by simpa using hi), Array.getElem?_eq_none (by omega)]
    rfl

/-! ### Regions whose order is drawn -/
noncomputable def fseqH (R : FRec) (P : Program) (G : Glob) (N : Nat) (ops : Array Oper) : List Oper → Br AV → HT → Option (List HT × Br AV × HT)
  | [], env, h => some ([], env, h)
  | o :: r, env, h => match fwant o.guard ops env with
    | some true => match fop R P G env h o with
      | some (v, h') => match fseqH R P G N ops r (fput N env o.dst v) h' with
        | some (hs, e, h2) => some (if clsOp mdA o = 2 then h' :: hs else hs, e, h2)
        | none => none
      | none => none
    | some false => match fseqH R P G N ops r (fput N env o.dst (.tup [])) h with
      | some (hs, e, h2) => some (if clsOp mdA o = 2 then h :: hs else hs, e, h2)
      | none => none
    | none => none

theorem fseqH_eq (hR : FSim R R') {ops : Array Oper} : ∀ (l : List Oper) (ix : List Nat) {env env' : Br AV} {h h' : HT} {hs : List HT}, ix.map (ops[·]?) = l.map some → env.ex N → h.ok → fseqH R P G N ops l env h = some (hs, env', h') →
    env'.ex N ∧ h'.ok ∧ (∀ x ∈ hs, x.ok) ∧ eseqH R' P mdA G ops ix (env.toL N) h.den = some (hs.map HT.den, env'.toL N, h'.den)
  | [], ix, env, env', h, h', hs, hm, e, k, hv => by
    have : ix = [] := by simpa using hm
    subst this
    cases hv
    exact ⟨e, k, (fun x hx => by cases hx), rfl⟩
  | o :: r, [], env, env', h, h', hs, hm, e, k, hv => by simp at hm
  | o :: r, i :: ix, env, env', h, h', hs, hm, e, k, hv => by
    simp only [List.map_cons, List.cons.injEq] at hm
    obtain ⟨hi, hm⟩ := hm
    simp only [fseqH] at hv
    simp only [eseqH, hi, fwant_eq e]
    split at hv
    · rename_i hw
      rw [hw]
      simp only
      split at hv
      · rename_i v h1 ho
        obtain ⟨a, b⟩ := fop_eq hR e k ho
        rw [b]
        simp only
        obtain ⟨e1, e2⟩ := fput_eq e o.dst v
        split at hv
        · rename_i hs1 env1 h2 hr
          obtain ⟨c1, c2, c4, c3⟩ := fseqH_eq hR r ix hm e1 a hr
          rw [e2] at c3
          rw [c3]
          dsimp only
          cases hv
          refine ⟨c1, c2, fun x hx => ?_, ?_⟩
          · split at hx
            · rcases List.mem_cons.1 hx with rfl | hx
              · exact a
              · exact c4 x hx
            · exact c4 x hx
          · split <;> simp
        · cases hv
      · cases hv
    · rename_i hw
      rw [hw]
      simp only
      obtain ⟨e1, e2⟩ := fput_eq e o.dst (.tup [])
      split at hv
      · rename_i hs1 env1 h2 hr
        obtain ⟨c1, c2, c4, c3⟩ := fseqH_eq hR r ix hm e1 k hr
        rw [e2] at c3
        rw [c3]
        dsimp only
        cases hv
        refine ⟨c1, c2, fun x hx => ?_, ?_⟩
        · split at hx
          · rcases List.mem_cons.1 hx with rfl | hx
            · exact k
            · exact c4 x hx
          · exact c4 x hx
        · split <;> simp
      · cases hv
    · cases hv

noncomputable def fchkW (R : FRec) (P : Program) (G : Glob) (N : Nat) (ops : Array Oper) (wn : Nat → Nat × Nat) (h : Nat → HT) : List Oper → Nat → Br AV → Nat → Bool
  | [], i, env, k => true
  | o :: r, i, env, k => match fwant o.guard ops env with
    | some true => match fop R P G env (h k) o with
      | some (v, _) => if clsOp mdA o = 2 then decide (k = (wn i).1) && fchkW R P G N ops wn h r (Nat.succ i) (fput N env o.dst v) (Nat.succ k)
        else (decide ((wn i).1 ≤ k) && decide (k ≤ (wn i).2)) && ((List.range ((wn i).2 + 1)).all fun q => decide (q < (wn i).1) || match fop R P G env (h q) o with
          | some (v', _) => AV.same v' v
          | none => false) && fchkW R P G N ops wn h r (Nat.succ i) (fput N env o.dst v) k
      | none => false
    | some false => if clsOp mdA o = 2 then decide (k = (wn i).1) && fchkW R P G N ops wn h r (Nat.succ i) (fput N env o.dst (.tup [])) (Nat.succ k)
      else (decide ((wn i).1 ≤ k) && decide (k ≤ (wn i).2)) && fchkW R P G N ops wn h r (Nat.succ i) (fput N env o.dst (.tup [])) k
    | none => false

theorem fchkW_eq (hR : FSim R R') {ops : Array Oper} {wn : Nat → Nat × Nat} {h : Nat → HT} (hh : ∀ q, (h q).ok) : ∀ (l : List Oper) (i : Nat) {env : Br AV} {k : Nat}, (∀ j, ops[i + j]? = l[j]?) → env.ex N → fchkW R P G N ops wn h l i env k = true →
    echkW R' P mdA G ops wn (fun q => (h q).den) (List.range' i l.length) (env.toL N) k = true
  | [], i, env, k, hm, e, hv => rfl
  | o :: r, i, env, k, hm, e, hv => by
    have hi : ops[i]? = some o := hm 0
    have hm' : ∀ j, ops[i + 1 + j]? = r[j]? := fun j => by have := hm (j + 1); rw [show i + 1 + j = i + (j + 1) by omega]; exact this
    simp only [fchkW] at hv
    rw [List.length_cons, List.range'_succ]
    simp only [echkW, hi, fwant_eq e]
    split at hv
    · rename_i hw
      rw [hw]
      simp only
      split at hv
      · rename_i v h1 ho
        obtain ⟨a, b⟩ := fop_eq hR e (hh k) ho
        rw [b]
        simp only
        obtain ⟨e1, e2⟩ := fput_eq e o.dst v
        split at hv
        · rename_i hc
          rw [if_pos hc]
          rw [Bool.and_eq_true] at hv ⊢
          refine ⟨hv.1, ?_⟩
          have := fchkW_eq hR hh r (i + 1) hm' e1 hv.2
          rwa [e2] at this
        · rename_i hc
          rw [if_neg hc]
          rw [Bool.and_eq_true, Bool.and_eq_true] at hv ⊢
          refine ⟨⟨hv.1.1, ?_⟩, ?_⟩
          · have h2 := hv.1.2
            rw [List.all_eq_true] at h2 ⊢
            intro q hq
            have h3 := h2 q hq
            rw [Bool.or_eq_true] at h3 ⊢
            refine h3.imp id fun h4 => ?_
            split at h4
            · rename_i v' h5 ho'
              obtain ⟨_, b'⟩ := fop_eq hR e (hh q) ho'
              rw [b']
              exact h4
            · cases h4
          · have := fchkW_eq hR hh r (i + 1) hm' e1 hv.2
            rwa [e2] at this
      · cases hv
    · rename_i hw
      rw [hw]
      simp only
      obtain ⟨e1, e2⟩ := fput_eq e o.dst (.tup [])
      split at hv
      · rename_i hc
        rw [if_pos hc]
        rw [Bool.and_eq_true] at hv ⊢
        refine ⟨hv.1, ?_⟩
        have := fchkW_eq hR hh r (i + 1) hm' e1 hv.2
        rwa [e2] at this
      · rename_i hc
        rw [if_neg hc]
        rw [Bool.and_eq_true] at hv ⊢
        refine ⟨hv.1, ?_⟩
        have := fchkW_eq hR hh r (i + 1) hm' e1 hv.2
        rwa [e2] at this
    · cases hv

noncomputable def fregW (R : FRec) (P : Program) (G : Glob) (N : Nat) (ops : Array Oper) (env : Br AV) (h : HT) : Option (Br AV × HT) :=
  match fseqH R P G N ops ops.toList env h with
  | some (hs, env', h') => if drawOkOf (okW mdA ops (winOf mdA ops)) ops = true ∧ fchkW R P G N ops (winOf mdA ops) (fun q => (h :: hs).getD q HT.none) ops.toList 0 env 0 = true then some (env', h') else none
  | none => none
theorem fregW_eq (hR : FSim R R') {ops : Array Oper} {env env' : Br AV} {h h' : HT} (e : env.ex N) (k : h.ok) (hv : fregW R P G N ops env h = some (env', h')) :
    env'.ex N ∧ h'.ok ∧ eregW R' P mdA G ops (env.toL N) h.den = some (env'.toL N, h'.den) := by
  unfold fregW at hv
  split at hv
  · rename_i hs e1 h1 hq
    obtain ⟨c1, c2, c4, c3⟩ := fseqH_eq hR _ _ (range_ops ops) e k hq
    split at hv
    · rename_i hc
      cases hv
      refine ⟨c1, c2, ?_⟩
      unfold eregW
      rw [c3]
      simp only
      have hok : ∀ q, ((h :: hs).getD q HT.none).ok := fun q => by
        cases hg : (h :: hs)[q]? with
        | none => rw [List.getD_eq_getElem?_getD, hg]; exact HT.none_ok
        | some x =>
          rw [List.getD_eq_getElem?_getD, hg]
          rcases List.mem_cons.1 (List.mem_of_getElem? hg) with rfl | hx
          · exact k
          · exact c4 x hx
      have h2 := fchkW_eq (N := N) hR hok ops.toList 0 (fun j => by rw [Nat.zero_add, Array.getElem?_toList]) e hc.2
      have hfun : (fun q => ((h :: hs).getD q HT.none).den) = fun q => (h.den :: hs.map HT.den).getD q [] := by
        funext q
        rw [List.getD_eq_getElem?_getD, List.getD_eq_getElem?_getD, ← List.map_cons, List.getElem?_map]
        cases (h :: hs)[q]? <;> rfl
      rw [hfun, Array.length_toList] at h2
      rw [if_pos ⟨hc.1, by rw [List.range_eq_range']; exact h2⟩]
    · cases hv
  · cases hv

/-! ### Code -/
noncomputable def floop (f : Br AV → HT → Option (Exit × Br AV × HT)) : Nat → Br AV → HT → Option (Exit × Br AV × HT)
  | 0, _, _ => none
  | n + 1, env, h => match f env h with
    | some (.normal, env', h') => floop f n env' h'
    | r => r

noncomputable def fcode (R : FRec) (P : Program) (G : Glob) (n N : Nat) : Code → Br AV → HT → Option (Exit × Br AV × HT)
  | .skip, env, h => some (.normal, env, h)
  | .label _, env, h => some (.normal, env, h)
  | .region _ ops d, env, h => match (match d with
      | true => match drawOk mdA ops with
        | true => fseq R P G N ops ops.toList env h
        | false => fregW R P G N ops env h
      | false => fseq R P G N ops ops.toList env h) with
    | some (env', h') => some (.normal, env', h')
    | none => none
  | .seq x y, env, h => match fcode R P G n N x env h with
    | some (.normal, env', h') => fcode R P G n N y env' h'
    | r => r
  | .cond c x y, env, h => match fev G env c with
    | some (.bool true) => fcode R P G n N x env h
    | some (.bool false) => fcode R P G n N y env h
    | _ => none
  | .block id c, env, h => match fcode R P G n N c env h with
    | some (.exit id', env', h') => match Nat.beq id' id with
      | true => some (.normal, env', h')
      | false => some (.exit id', env', h')
    | r => r
  | .loop c, env, h => floop (fcode R P G n N c) n env h
  | .exit id, env, h => some (.exit id, env, h)
  | .ret, env, h => some (.ret, env, h)
  | _, _, _ => none

theorem fcode_eq (hR : FSim R R') {n : Nat} : ∀ (code : Code) {env env' : Br AV} {h h' : HT} {x : Exit}, env.ex N → h.ok → fcode R P G n N code env h = some (x, env', h') →
    env'.ex N ∧ h'.ok ∧ ecode R' P mdA G n code (env.toL N) h.den = some (x, env'.toL N, h'.den)
  | .skip, env, env', h, h', x, e, k, hv => by cases hv; exact ⟨e, k, rfl⟩
  | .label _, env, env', h, h', x, e, k, hv => by cases hv; exact ⟨e, k, rfl⟩
  | .exit _, env, env', h, h', x, e, k, hv => by cases hv; exact ⟨e, k, rfl⟩
  | .ret, env, env', h, h', x, e, k, hv => by cases hv; exact ⟨e, k, rfl⟩
  | .region _ ops d, env, env', h, h', x, e, k, hv => by
    simp only [fcode] at hv
    simp only [ecode]
    split at hv
    · rename_i e1 h1 hq
      cases hv
      have key : env'.ex N ∧ h'.ok ∧ (if d = true ∧ drawOk mdA ops = false then eregW R' P mdA G ops (env.toL N) h.den else eseq R' P mdA G ops (List.range ops.size) (env.toL N) h.den) = some (env'.toL N, h'.den) := by
        split at hq
        · split at hq
          · rename_i hd
            obtain ⟨a, b, c⟩ := fseq_eq hR _ _ (range_ops ops) e k hq
            exact ⟨a, b, by rw [if_neg (by rw [hd]; simp)]; exact c⟩
          · rename_i hd
            obtain ⟨a, b, c⟩ := fregW_eq hR e k hq
            exact ⟨a, b, by rw [if_pos ⟨rfl, hd⟩]; exact c⟩
        · obtain ⟨a, b, c⟩ := fseq_eq hR _ _ (range_ops ops) e k hq
          exact ⟨a, b, by rw [if_neg (by simp)]; exact c⟩
      obtain ⟨a, b, c⟩ := key
      refine ⟨a, b, ?_⟩
      rw [c]
    · cases hv
  | .seq c1 c2, env, env', h, h', x, e, k, hv => by
    simp only [fcode] at hv
    simp only [ecode]
    split at hv
    · rename_i e1 h1 hx
      obtain ⟨a, b, c⟩ := fcode_eq hR c1 e k hx
      rw [c]
      exact fcode_eq hR c2 a b hv
    · rename_i hne
      obtain ⟨a, b, c⟩ := fcode_eq hR c1 e k hv
      refine ⟨a, b, ?_⟩
      rw [c]
      cases x with
      | normal => exact absurd hv (hne _ _)
      | _ => rfl
  | .cond c x1 y1, env, env', h, h', x, e, k, hv => by
    simp only [fcode] at hv
    simp only [ecode, fev_eq e]
    split at hv
    · rename_i hb
      rw [hb]
      exact fcode_eq hR x1 e k hv
    · rename_i hb
      rw [hb]
      exact fcode_eq hR y1 e k hv
    · cases hv
  | .block id c1, env, env', h, h', x, e, k, hv => by
    simp only [fcode] at hv
    simp only [ecode]
    split at hv
    · rename_i id' e1 h1 hx
      obtain ⟨a, b, c⟩ := fcode_eq hR c1 e k hx
      rw [c]
      simp only
      split at hv
      · rename_i hid
        cases hv
        exact ⟨a, b, by rw [if_pos (Nat.eq_of_beq_eq_true hid)]⟩
      · rename_i hid
        cases hv
        exact ⟨a, b, by rw [if_neg (Nat.ne_of_beq_eq_false hid)]⟩
    · rename_i hne
      obtain ⟨a, b, c⟩ := fcode_eq hR c1 e k hv
      refine ⟨a, b, ?_⟩
      rw [c]
      cases x with
      | exit id' => exact absurd hv (hne _ _ _)
      | _ => rfl
  | .loop c1, env, env', h, h', x, e, k, hv => by
    simp only [fcode] at hv
    simp only [ecode]
    have key : ∀ (m : Nat) {env env' : Br AV} {h h' : HT} {x : Exit}, env.ex N → h.ok → floop (fcode R P G n N c1) m env h = some (x, env', h') → env'.ex N ∧ h'.ok ∧ eloop (ecode R' P mdA G n c1) m (env.toL N) h.den = some (x, env'.toL N, h'.den) := by
      intro m
      induction m with
      | zero => intro env env' h h' x e k hv; cases hv
      | succ m ih =>
        intro env env' h h' x e k hv
        simp only [floop] at hv
        simp only [eloop]
        split at hv
        · rename_i e1 h1 hx
          obtain ⟨a, b, c⟩ := fcode_eq hR c1 e k hx
          rw [c]
          exact ih a b hv
        · rename_i hne
          obtain ⟨a, b, c⟩ := fcode_eq hR c1 e k hv
          refine ⟨a, b, ?_⟩
          rw [c]
          cases x with
          | normal => exact absurd hv (hne _ _)
          | _ => rfl
    exact key n e k hv
  | .rangeFunc .., env, env', h, h', x, e, k, hv => by cases hv
  | .scope .., env, env', h, h', x, e, k, hv => by cases hv
  | .goto .., env, env', h, h', x, e, k, hv => by cases hv
  | .refuse .., env, env', h, h', x, e, k, hv => by cases hv

/-! ### Functions -/
noncomputable def fresL (P : Program) (h : HT) (env : Br AV) : List ResultVar → Option (List AV)
  | [] => some []
  | .tmp t :: r => match env.get t, fresL P h env r with
    | some x, some xs => some (x :: xs)
    | _, _ => none
  | .cell a t :: r => match env.get a, fresL P h env r with
    | some x, some xs => match vloadT P h t x with
      | some y => some (y :: xs)
      | none => none
    | _, _ => none
theorem fresL_eq {env : Br AV} {h : HT} (e : env.ex N) (k : h.ok) : ∀ {l : List ResultVar} {xs : List AV}, fresL P h env l = some xs → vresL P h.den (env.toL N) l = some xs
  | [], xs, hv => hv
  | .tmp t :: r, xs, hv => by
    simp only [fresL] at hv
    simp only [vresL, e.toL_get]
    split at hv
    · rename_i x ys h1 h2
      rw [h1, fresL_eq e k h2]
      exact hv
    · cases hv
  | .cell a t :: r, xs, hv => by
    simp only [fresL] at hv
    simp only [vresL, e.toL_get]
    split at hv
    · rename_i x ys h1 h2
      rw [h1, fresL_eq e k h2]
      simp only
      split at hv
      · rename_i y hy
        rw [vloadT_eq k hy]
        exact hv
      · cases hv
    · cases hv

noncomputable def fres (P : Program) (h : HT) (fn : Func) (env : Br AV) : Option AV :=
  match fresL P h env fn.results.toList with
  | some [x] => some x
  | some xs => some (.tup xs)
  | none => none

noncomputable def ffin (P : Program) (fn : Func) : Option (Exit × Br AV × HT) → Option (AV × HT)
  | some (.normal, env, h) => (fres P h fn env).map (·, h)
  | some (.ret, env, h) => (fres P h fn env).map (·, h)
  | _ => none
theorem ffin_eq {fn : Func} {x : Exit} {env : Br AV} {h h' : HT} {v : AV} (e : env.ex N) (k : h.ok) (hv : ffin P fn (some (x, env, h)) = some (v, h')) : h'.ok ∧ efin P fn (some (x, env.toL N, h.den)) = some (v, h'.den) := by
  have key : (fres P h fn env).map (·, h) = some (v, h') → h'.ok ∧ (vres P h.den fn (env.toL N)).map (·, h.den) = some (v, h'.den) := fun hv => by
    obtain ⟨a, h1, h2⟩ := map_pair hv
    cases h2
    refine ⟨k, ?_⟩
    have : vres P h.den fn (env.toL N) = some v := by
      unfold fres at h1
      unfold vres
      split at h1
      · rename_i y hy; rw [fresL_eq e k hy]; exact h1
      · rename_i ys hne hy
        rw [fresL_eq e k hy]
        cases h1
        cases ys with
        | nil => rfl
        | cons y r =>
          cases r with
          | nil => exact absurd rfl (hne _)
          | cons z r => rfl
      · cases h1
    rw [this]
    rfl
  cases x <;> first | exact key hv | cases hv
end

noncomputable def fenv (N : Nat) (args : List AV) : Br AV := (Br.rep AV.undef N).put 0 args
theorem fenv_eq {N : Nat} {args : List AV} (h : args.length ≤ N) : (fenv N args).ex N ∧ (fenv N args).toL N = args ++ List.replicate (N - args.length) .undef := by
  obtain ⟨e1, e2⟩ := Br.rep_ex AV.undef N
  obtain ⟨f1, f2⟩ := e1.put (l := args) (i := 0) (by omega)
  refine ⟨f1, ?_⟩
  unfold fenv
  rw [f2, e2]
  simp

end Go.Vi
