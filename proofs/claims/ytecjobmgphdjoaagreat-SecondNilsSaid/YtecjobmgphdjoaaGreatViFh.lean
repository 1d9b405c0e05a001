/- Vi, part Fh: operations and code, laid out so that they are computed fast. -/
import Derived.Test.YtecjobmgphdjoaaGreatViFg
set_option autoImplicit false
set_option linter.unusedVariables false
set_option linter.unusedSimpArgs false
namespace Go.Vi

def noF : OpF := fun _ _ _ _ => none
noncomputable def mvF (x : Operand) : OpF := fun c _ env h => keep h (ev1 c env x)
noncomputable def pickV (c : Cf) (env : Br AV) (h : HT) (a b : Operand) (v : AV) : Option (AV × HT) :=
  BV.rec (motive := fun _ => Option (AV × HT)) none (keep h (ev1 c env a)) (keep h (ev1 c env b)) none (bv v)
noncomputable def pickF (x a b : Operand) : OpF := fun c _ env h => with1 c env x (pickV c env h a b)
noncomputable def allocF (t : TypeId) : OpF := fun c _ env h => Option.rec (motive := fun _ => Option (AV × HT)) none (vboxT h t) (zrOf c.P t)
noncomputable def boxF (t : TypeId) (x : Operand) : OpF := fun c _ env h => with1 c env x (vboxT h t)
noncomputable def buildF (t : TypeId) (ps : Array (Nat × Operand)) : OpF := fun c _ env h => Option.rec (motive := fun _ => Option (AV × HT)) none (fun q => keep h (vbuild c.P t q)) (evP (fev c.G env) ps.toList)
noncomputable def buildSliceF (t : TypeId) (len : Nat) (ps : Array (Nat × Operand)) : OpF := fun c _ env h => Option.rec (motive := fun _ => Option (AV × HT)) none (fun q => vbuildSliceT c.P h t len q) (evP (fev c.G env) ps.toList)
noncomputable def loadF (t : TypeId) (a : Operand) : OpF := fun c _ env h => with1 c env a fun p => keep h (loadQ c.P h t p)
noncomputable def doneH (x : Option HT) : Option (AV × HT) := Option.rec (motive := fun _ => Option (AV × HT)) none (fun h' => some (.tup [], h')) x
theorem doneH_eq (x : Option HT) : doneH x = x.map (.tup [], ·) := by cases x <;> rfl
noncomputable def storeF (t : TypeId) (a x : Operand) : OpF := fun c _ env h => with2 c env a x fun p v => doneH (storeQ c.P h t p v)
noncomputable def nilV (h : HT) (v : AV) : Option (AV × HT) := Bool.rec (motive := fun _ => Option (AV × HT)) none (some (v, h)) (nnv v)
noncomputable def nilCheckF (x : Operand) : OpF := fun c _ env h => with1 c env x (nilV h)
noncomputable def binF (op : BinOp) (t : TypeId) (x y : Operand) : OpF := fun c _ env h => with2 c env x y fun a b => keep h (binV c.P op t a b)
noncomputable def unF (op : UnOp) (x : Operand) : OpF := fun c _ env h => with1 c env x fun a => keep h (vun op a)
noncomputable def convV (c : Cf) (h : HT) (a b : TypeId) (v : AV) : Option (AV × HT) :=
  match vconvT c.P h a b v with
  | some r => some (r, h)
  | none => if a = b then vconvSameT c.P h a b v else none
/-- The kind of whole numbers to which another kind of numbers is turned. -/
def toInt (P : Program) (a b : TypeId) : Option IntKind :=
  match P.underlying a, P.underlying b with
  | some d, some (.int k) => match d with
    | .slice _ => none
    | .string => none
    | _ => some k
  | _, _ => none
/-- A number's kind turned, at once. -/
noncomputable def convI (c : Cf) (h : HT) (a b : TypeId) (v : AV) : Option (AV × HT) :=
  IV.rec (motive := fun _ => Option (AV × HT)) (convV c h a b v) (fun _ n => Option.rec (motive := fun _ => Option (AV × HT)) (convV c h a b v) (fun k => some (.int k (wrapN k n), h)) (toInt c.P a b)) (iv v)
noncomputable def convF (a b : TypeId) (x : Operand) : OpF := fun c _ env h => with1 c env x (convI c h a b)
noncomputable def mkFn (c : Cf) (env : Br AV) (h : HT) (fn : Fn) (first captured : Array Operand) : Option (AV × HT) :=
  match fn with
  | .func f => if first.size = 0 then Option.rec (motive := fun _ => Option (AV × HT)) none (fun cs => some (.clo f cs, h)) (evs1 c env captured.toList) else none
  | _ => none
noncomputable def makeFuncF (fn : Fn) (first captured : Array Operand) : OpF := fun c _ env h => mkFn c env h fn first captured
noncomputable def makeMapF (r : Option Operand) : OpF := fun _ _ _ h => Option.rec (motive := fun _ => Option (AV × HT)) (some (.mapr h.n, h.push (.map []))) (fun _ => none) r
noncomputable def makeSliceF (t : TypeId) (l m : Operand) : OpF := fun c _ env h => with2 c env l m fun a b => vmakeT c.P h t a b
noncomputable def sliceF (t : TypeId) (x : Operand) (lo hi mx : Option Operand) : OpF := fun c _ env h =>
  with1 c env x fun v => match evO (fev c.G env) lo, evO (fev c.G env) hi, evO (fev c.G env) mx with
    | some a, some b, some m => keep h (vsliceT c.P h t v a b m)
    | _, _, _ => none
noncomputable def fieldAddrF (s : TypeId) (x : Operand) (f : Nat) : OpF := fun c _ env h => with1 c env x fun v => keep h (fieldQ c.P s f v)
noncomputable def fieldF (t : TypeId) (x : Operand) (f : Nat) : OpF := fun c _ env h => with1 c env x fun v => keep h (vfieldOf c.P t f v)
noncomputable def indexAddrF (t : TypeId) (x i : Operand) : OpF := fun c _ env h => with2 c env x i fun a b => keep h (indexQ c.P h t a b)
noncomputable def indexF (t : TypeId) (x i : Operand) : OpF := fun c _ env h => with2 c env x i fun a b => keep h (vindex c.P t a b)
noncomputable def lookupF (t : TypeId) (x k : Operand) (ok : Bool) : OpF := fun c _ env h => with2 c env x k fun a b => keep h (vlookupT c.P h t a b ok)
noncomputable def mapUpdateF (t : TypeId) (m k x : Operand) : OpF := fun c _ env h => with2 c env m k fun a b => with1 c env x fun v => doneH (vmapUpdateT c.P h t a b v)
noncomputable def rangeF (t : TypeId) (x : Operand) : OpF := fun c _ env h => with1 c env x fun a => vrangeT c.P h t a
noncomputable def nextF (x : Operand) (s : Bool) : OpF := fun c _ env h => Bool.rec (motive := fun _ => Option (AV × HT)) (with1 c env x (fnext h)) none s
noncomputable def entryF (x : Operand) : OpF := fun c _ env h => with1 c env x fun a => keep h (ventryT h a)
noncomputable def extractF (x : Operand) (i : Nat) : OpF := fun c _ env h => with1 c env x fun v => keep h (extractQ v i)
noncomputable def enterF (c : Cf) (R : FRec) (h : HT) (g : Nat) (xs : List AV) : Option (AV × HT) :=
  Bool.rec (motive := fun _ => Option (AV × HT)) (keep h (vext2T c.P h g xs)) (R g xs h) (enterOk c.P g)
noncomputable def callV (c : Cf) (R : FRec) (env : Br AV) (h : HT) (args : List Operand) (fv : AV) : Option (AV × HT) :=
  ClV.rec (motive := fun _ => Option (AV × HT)) none (fun g cs => Option.rec (motive := fun _ => Option (AV × HT)) none (fun xs => enterF c R h g (xs ++ cs)) (evs1 c env args)) (clv fv)
noncomputable def callF (f : Operand) (args : Array Operand) : OpF := fun c R env h => with1 c env f (callV c R env h args.toList)
abbrev Bu1 := Cf → HT → TypeId → AV → Option (AV × HT)
abbrev Bu2 := Cf → HT → TypeId → TypeId → AV → AV → Option (AV × HT)
noncomputable def bu1 (b : Builtin) : Bu1 :=
  match b with
  | .len => fun c h t x => keep h (lenQ c.P h t x)
  | .clear => fun c h t x => if (c.P.underlying t).isSome = true then doneH (vclearT c.P h t x) else none
  | .cap => fun c h t x => keep h (vcap c.P t x)
  | _ => fun _ _ _ _ => none
noncomputable def bu2 (b : Builtin) : Bu2 :=
  match b with
  | .append => fun c h t t2 x y => vappT c.P h t t2 x y
  | .copy => fun c h t t2 x y => vcopyT c.P h t x y
  | .max => fun c h t t2 x y => keep h (vmax2 true x y)
  | .min => fun c h t t2 x y => keep h (vmax2 false x y)
  | _ => fun _ _ _ _ _ _ => none
noncomputable def builtinV (b : Builtin) (c : Cf) (h : HT) (ts : List TypeId) (xs : List AV) : Option (AV × HT) :=
  match xs, ts with
  | [x], [t] => bu1 b c h t x
  | [x, y], [t, t2] => bu2 b c h t t2 x y
  | _, _ => none
noncomputable def builtinF (b : Builtin) (args : Array Operand) (ts : Array TypeId) : OpF := fun c _ env h =>
  Option.rec (motive := fun _ => Option (AV × HT)) none (fun xs => builtinV b c h ts.toList xs) (evs1 c env args.toList)
noncomputable def callOpF (cl : Call) : OpF :=
  Call.rec (motive := fun _ => OpF) (fun callee args ts => Callee.rec (motive := fun _ => OpF) (fun f => callF f args) (fun _ _ => noF) (fun b => builtinF b args ts) callee) cl

noncomputable def opF (op : Op) : OpF :=
  Op.rec (motive := fun _ => OpF) mvF mvF pickF allocF boxF buildF buildSliceF (fun _ _ _ _ => noF) loadF storeF (fun _ => noF) (fun _ => noF) nilCheckF
    (fun op t x y _ => binF op t x y) (fun op _ x => unF op x) convF (fun _ _ => noF) (fun _ _ => noF) makeFuncF (fun _ r => makeMapF r) (fun _ _ => noF) makeSliceF sliceF fieldAddrF fieldF
    indexAddrF indexF lookupF mapUpdateF (fun _ _ _ => noF) (fun _ _ _ _ => noF) rangeF nextF entryF (fun _ _ _ _ => noF) extractF callOpF (fun _ => noF) (fun _ => noF) (fun _ => noF) (fun _ _ => noF)
    (fun _ _ _ => noF) (fun _ _ => noF) op

theorem map_keep {h : HT} {x : Option AV} {r : AV × HT} (hx : keep h x = some r) : ∃ v, x = some v ∧ r = (v, h) := by
  cases x with
  | none => cases hx
  | some v => exact ⟨v, rfl, by cases hx; rfl⟩

theorem opF_eq {c : Cf} {R : FRec} {env : Br AV} {h : HT} {o : Oper} {r : AV × HT} (hv : opF o.op c R env h = some r) : fop R c.P c.G env h o = some r := by
  obtain ⟨dst, op, type, pos, after, guard⟩ := o
  have w1 : ∀ (x : Operand) (k : AV → Option (AV × HT)), with1 c env x k = some r → ∃ a, fev c.G env x = some a ∧ k a = some r := fun x k hk => by
    rw [with1_eq] at hk
    cases hx : fev c.G env x with
    | none => rw [hx] at hk; cases hk
    | some a => rw [hx] at hk; exact ⟨a, rfl, hk⟩
  have w2 : ∀ (x y : Operand) (k : AV → AV → Option (AV × HT)), with2 c env x y k = some r → ∃ a b, fev c.G env x = some a ∧ fev c.G env y = some b ∧ k a b = some r := fun x y k hk => by
    rw [with2_eq] at hk
    cases hx : fev c.G env x with
    | none => rw [hx] at hk; cases hk
    | some a =>
      cases hy : fev c.G env y with
      | none => rw [hx, hy] at hk; cases hk
      | some b => rw [hx, hy] at hk; exact ⟨a, b, rfl, rfl, hk⟩
  cases op with
  | move x | assign x =>
    have hv : keep h (ev1 c env x) = some r := hv
    rw [ev1_eq, keep_eq] at hv
    exact hv
  | pick x a b =>
    obtain ⟨v, h1, h2⟩ := w1 x _ hv
    simp only [fop, fexec, vexec, h1]
    unfold pickV at h2
    cases hb : bv v with
    | no => rw [hb] at h2; cases h2
    | sk => rw [hb] at h2; cases h2
    | tt =>
      rw [hb] at h2
      have h2 : keep h (ev1 c env a) = some r := h2
      rw [ev1_eq, keep_eq] at h2
      rw [bv_tt hb]
      simp only
      cases hy : fev c.G env a with
      | none => rw [hy] at h2; cases h2
      | some y => rw [hy] at h2; exact h2
    | ff =>
      rw [hb] at h2
      have h2 : keep h (ev1 c env b) = some r := h2
      rw [ev1_eq, keep_eq] at h2
      rw [bv_ff hb]
      simp only
      cases hy : fev c.G env b with
      | none => rw [hy] at h2; cases h2
      | some y => rw [hy] at h2; exact h2
  | alloc t =>
    have hv : Option.rec (motive := fun _ => Option (AV × HT)) none (vboxT h t) (zrOf c.P t) = some r := hv
    simp only [fop, fexec]
    cases hz : zrOf c.P t with
    | none => rw [hz] at hv; cases hv
    | some z => rw [hz] at hv; exact hv
  | box t x =>
    obtain ⟨v, h1, h2⟩ := w1 x _ hv
    simp only [fop, fexec, h1]
    exact h2
  | build t ps =>
    have hv : Option.rec (motive := fun _ => Option (AV × HT)) none (fun q => keep h (vbuild c.P t q)) (evP (fev c.G env) ps.toList) = some r := hv
    simp only [fop, fexec, vexec]
    cases hz : evP (fev c.G env) ps.toList with
    | none => rw [hz] at hv; cases hv
    | some z =>
      rw [hz] at hv
      obtain ⟨v, h1, rfl⟩ := map_keep (h := h) hv
      simp only [h1]
      rfl
  | buildSlice t len ps =>
    have hv : Option.rec (motive := fun _ => Option (AV × HT)) none (fun q => vbuildSliceT c.P h t len q) (evP (fev c.G env) ps.toList) = some r := hv
    simp only [fop, fexec]
    cases hz : evP (fev c.G env) ps.toList with
    | none => rw [hz] at hv; cases hv
    | some z => rw [hz] at hv; exact hv
  | load t a =>
    obtain ⟨v, h1, h2⟩ := w1 a _ hv
    simp only [fop, fexec, h1]
    obtain ⟨v, h4, rfl⟩ := map_keep h2
    rw [loadQ_eq h4]
    rfl
  | store t a x =>
    obtain ⟨p, v, h1, h2, h3⟩ := w2 a x _ hv
    simp only [fop, fexec, h1, h2]
    cases hs : storeQ c.P h t p v with
    | none => rw [hs] at h3; cases h3
    | some h' =>
      rw [hs] at h3
      rw [storeQ_eq hs]
      exact h3
  | nilCheck x =>
    obtain ⟨v, h1, h2⟩ := w1 x _ hv
    simp only [fop, fexec, vexec, h1]
    unfold nilV at h2
    rw [nnv_eq] at h2
    cases hn : v.notNil with
    | false => rw [hn] at h2; cases h2
    | true => rw [hn] at h2; rw [if_pos rfl]; exact h2
  | binOp op t x y yt =>
    obtain ⟨p, q, h1, h2, h3⟩ := w2 x y _ hv
    simp only [fop, fexec, vexec, h1, h2]
    obtain ⟨v, h4, rfl⟩ := map_keep h3
    rw [binV_eq h4]
    rfl
  | unOp op t x =>
    obtain ⟨v, h1, h2⟩ := w1 x _ hv
    simp only [fop, fexec, vexec, h1]
    obtain ⟨v, h4, rfl⟩ := map_keep h2
    rw [h4]
    rfl
  | convert a b x =>
    obtain ⟨v, h1, h2⟩ := w1 x _ hv
    simp only [fop, fexec, h1]
    have key : convV c h a b v = some r → (match vconvT c.P h a b v with | some r => some (r, h) | none => if a = b then vconvSameT c.P h a b v else none) = some r := fun hk => hk
    unfold convI at h2
    cases hi : iv v with
    | no => rw [hi] at h2; exact key h2
    | int k n =>
      rw [hi] at h2
      have h2 : Option.rec (motive := fun _ => Option (AV × HT)) (convV c h a b v) (fun k => some (.int k (wrapN k n), h)) (toInt c.P a b) = some r := h2
      cases ht : toInt c.P a b with
      | none => rw [ht] at h2; exact key h2
      | some kk =>
        rw [ht] at h2
        have h2 : some (AV.int kk (wrapN kk n), h) = some r := h2
        rw [wrapN_eq] at h2
        rw [iv_int hi]
        unfold toInt at ht
        split at ht
        · rename_i d kk' hd1 hd2
          have go : (∀ e, d ≠ .slice e) → d ≠ .string → vconvT c.P h a b (.int k n) = some (.int kk' (kk'.wrap n)) := fun n1 n2 => by
            unfold vconvT vconv
            simp only [hd1, hd2]
            cases d <;> first
              | exact absurd rfl (n1 _)
              | exact absurd rfl n2
              | (simp only [vconvInt, hd1, hd2])
          split at ht
          · cases ht
          · cases ht
          · rename_i n1 n2
            cases ht
            rw [go n1 (fun e => n2 e)]
            exact h2
        · cases ht
  | makeFunc f first captured =>
    have hv : mkFn c env h f first captured = some r := hv
    unfold mkFn at hv
    simp only [fop, fexec]
    cases f with
    | func g =>
      simp only [vexec] at hv ⊢
      split at hv
      · rename_i hf
        rw [if_pos hf]
        rw [evs1_eq] at hv
        cases hx : evL (fev c.G env) captured.toList with
        | none => rw [hx] at hv; cases hv
        | some xs => rw [hx] at hv; exact hv
      · cases hv
    | _ => cases hv
  | makeMap t x =>
    simp only [fop, fexec]
    cases x with
    | none => exact hv
    | some y => cases hv
  | makeSlice t l m =>
    obtain ⟨p, q, h1, h2, h3⟩ := w2 l m _ hv
    simp only [fop, fexec, h1, h2]
    exact h3
  | slice t x lo hi mx =>
    obtain ⟨v, h1, h2⟩ := w1 x _ hv
    simp only [fop, fexec, h1]
    split at h2
    · rename_i a b m e1 e2 e3
      rw [e1, e2, e3]
      rw [keep_eq] at h2
      exact h2
    · cases h2
  | fieldAddr s x f =>
    obtain ⟨v, h1, h2⟩ := w1 x _ hv
    simp only [fop, fexec, vexec, h1]
    obtain ⟨v, h4, rfl⟩ := map_keep h2
    rw [fieldQ_eq h4]
    rfl
  | field s x f =>
    obtain ⟨v, h1, h2⟩ := w1 x _ hv
    simp only [fop, fexec, vexec, h1]
    obtain ⟨v, h4, rfl⟩ := map_keep h2
    rw [h4]
    rfl
  | indexAddr t x i =>
    obtain ⟨p, q, h1, h2, h3⟩ := w2 x i _ hv
    simp only [fop, fexec, h1, h2]
    obtain ⟨v, h4, rfl⟩ := map_keep h3
    rw [indexQ_eq h4]
    rfl
  | index t x i =>
    obtain ⟨p, q, h1, h2, h3⟩ := w2 x i _ hv
    simp only [fop, fexec, vexec, h1, h2]
    obtain ⟨v, h4, rfl⟩ := map_keep h3
    rw [h4]
    rfl
  | lookup t x k ok =>
    obtain ⟨p, q, h1, h2, h3⟩ := w2 x k _ hv
    simp only [fop, fexec, h1, h2]
    rw [keep_eq] at h3
    exact h3
  | mapUpdate t m k x =>
    obtain ⟨p, q, h1, h2, h3⟩ := w2 m k _ hv
    obtain ⟨v, h4, h5⟩ := w1 x _ h3
    simp only [fop, fexec, h1, h2, h4]
    rw [doneH_eq] at h5
    exact h5
  | range t x =>
    obtain ⟨v, h1, h2⟩ := w1 x _ hv
    simp only [fop, fexec, h1]
    exact h2
  | next x s =>
    cases s with
    | true => cases hv
    | false =>
      obtain ⟨v, h1, h2⟩ := w1 x _ hv
      simp only [fop, h1]
      exact h2
  | entry x =>
    obtain ⟨v, h1, h2⟩ := w1 x _ hv
    simp only [fop, fexec, h1]
    rw [keep_eq] at h2
    exact h2
  | extract x i =>
    obtain ⟨v, h1, h2⟩ := w1 x _ hv
    simp only [fop, fexec, vexec, h1]
    obtain ⟨v, h4, rfl⟩ := map_keep h2
    rw [extractQ_eq h4]
    rfl
  | call cl =>
    obtain ⟨callee, args, ts⟩ := cl
    cases callee with
    | value f =>
      obtain ⟨v, h1, h2⟩ := w1 f _ hv
      simp only [fop, h1]
      unfold callV at h2
      cases hcl : clv v with
      | no => rw [hcl] at h2; cases h2
      | clo g cs =>
        rw [hcl] at h2
        rw [clv_clo hcl]
        have h2 : Option.rec (motive := fun _ => Option (AV × HT)) none (fun xs => enterF c R h g (xs ++ cs)) (evs1 c env args.toList) = some r := h2
        rw [evs1_eq] at h2
        cases hx : evL (fev c.G env) args.toList with
        | none => rw [hx] at h2; cases h2
        | some xs =>
          rw [hx] at h2
          have h2 : enterF c R h g (xs ++ cs) = some r := h2
          unfold enterF at h2
          simp only
          cases he : enterOk c.P g with
          | true => rw [he] at h2; rw [if_pos rfl]; exact h2
          | false => rw [he] at h2; rw [if_neg (by simp)]; rw [← keep_eq]; exact h2
    | builtin b =>
      have hv : Option.rec (motive := fun _ => Option (AV × HT)) none (fun xs => builtinV b c h ts.toList xs) (evs1 c env args.toList) = some r := hv
      rw [evs1_eq] at hv
      simp only [fop, fexec]
      cases hx : evL (fev c.G env) args.toList with
      | none => rw [hx] at hv; cases hv
      | some xs =>
        rw [hx] at hv
        have hv : builtinV b c h ts.toList xs = some r := hv
        unfold builtinV at hv
        split at hv
        · rename_i x t ht _
          rw [ht]
          simp only
          cases b <;> first
            | (simp only [bu1] at hv
               obtain ⟨v, h4, rfl⟩ := map_keep hv
               simp only [lenQ_eq h4]
               rfl)
            | (simp only [bu1, keep_eq, doneH_eq] at hv; exact hv)
            | (simp only [bu1] at hv; cases hv)
        · rename_i x y t t2 ht _
          rw [ht]
          simp only
          cases b <;> first
            | (simp only [bu2, keep_eq, doneH_eq] at hv; exact hv)
            | (simp only [bu2] at hv; cases hv)
        · cases hv
    | invoke a b => cases hv
  | _ => cases hv
end Go.Vi
