/- Vi, part N: operations, regions, code, calls. -/
import Derived.Test.YteejggadbifdbaaGreatViM
import Derived.Test.YteejggadbifdbaaGreatViXa
import Derived.KernelRfl
import Derived.Lib.Bytealg
set_option autoImplicit false
set_option linter.unusedVariables false
set_option linter.unusedSimpArgs false
namespace Go.Vi

/-! ### What an operation looks at -/
theorem evL_congr {e e' : Operand → Option AV} : ∀ {l : List Operand}, (∀ x ∈ l, e x = e' x) → evL e l = evL e' l
  | [], _ => rfl
  | o :: r, h => by
    have h1 := h o (by simp)
    have h2 := evL_congr (l := r) (fun x hx => h x (by simp [hx]))
    simp only [evL, h1, h2]

theorem evP_congr {e e' : Operand → Option AV} : ∀ {l : List (Nat × Operand)}, (∀ x ∈ l.map (·.2), e x = e' x) → evP e l = evP e' l
  | [], _ => rfl
  | (i, o) :: r, h => by
    have h1 := h o (by simp)
    have h2 := evP_congr (l := r) (fun x hx => h x (by simp at hx ⊢; exact .inr hx))
    simp only [evP, h1, h2]

theorem evO_congr {e e' : Operand → Option AV} {o : Option Operand} (h : ∀ x, o = some x → e x = e' x) : evO e o = evO e' o := by
  cases o with
  | none => rfl
  | some x => simp only [evO, h x rfl]

theorem vexec_congr {P : Program} {e e' : Operand → Option AV} {H : Hp} {o : Oper} (h : ∀ x ∈ o.op.operands, e x = e' x) : vexec P e H o = vexec P e' H o := by
  obtain ⟨dst, op, type, pos, after, guard⟩ := o
  simp only at h
  cases op with
  | move x | assign x | box _ x | load _ x | nilCheck x | unOp _ _ x | convert _ _ x | fieldAddr _ x _ | field _ x _ | extract x _ | makeInterface _ x =>
    simp only [vexec, h x (by simp [Op.operands])]
  | pick c a b => simp only [vexec, h c (by simp [Op.operands]), h a (by simp [Op.operands]), h b (by simp [Op.operands])]
  | alloc t => rfl
  | build t ps =>
    have := evP_congr (e := e) (e' := e') (l := ps.toList) (fun x hx => h x (by simpa [Op.operands] using hx))
    simp only [vexec, this]
  | buildSlice t n ps =>
    have := evP_congr (e := e) (e' := e') (l := ps.toList) (fun x hx => h x (by simpa [Op.operands] using hx))
    simp only [vexec, this]
  | store _ a v | binOp _ _ a v _ | makeSlice _ a v | indexAddr _ a v | index _ a v =>
    simp only [vexec, h a (by simp [Op.operands]), h v (by simp [Op.operands])]
  | makeFunc fn first captured =>
    have := evL_congr (e := e) (e' := e') (l := captured.toList) (fun x hx => h x (by simp [Op.operands]; exact .inr (by simpa using hx)))
    have h2 := evL_congr (e := e) (e' := e') (l := first.toList) (fun x hx => h x (by simp [Op.operands]; exact .inl (by simpa using hx)))
    cases fn <;> simp only [vexec, this, h2]
  | slice t x l hh m =>
    have h1 := evO_congr (e := e) (e' := e') (o := l) (fun y hy => h y (by subst hy; simp [Op.operands]))
    have h2 := evO_congr (e := e) (e' := e') (o := hh) (fun y hy => h y (by subst hy; simp [Op.operands]))
    have h3 := evO_congr (e := e) (e' := e') (o := m) (fun y hy => h y (by subst hy; simp [Op.operands]))
    simp only [vexec, h x (by simp [Op.operands]), h1, h2, h3]
  | call c =>
    obtain ⟨callee, args, ts⟩ := c
    cases callee with
    | builtin b =>
      have := evL_congr (e := e) (e' := e') (l := args.toList) (fun x hx => h x (by simp [Op.operands, Call.operands]; simpa using hx))
      simp only [vexec, this]
    | _ => rfl
  | _ => rfl

/-- The same, and: variables that lie alone, slices that no one writes. -/
def vexec2 (P : Program) (md : Oper → Md) (e : Operand → Option AV) (H : Hp) (o : Oper) : Option (AV × Hp) :=
  match o.op with
  | .alloc t => if md o = .shf then valloc1 P H t else valloc P H t
  | .buildSlice t len parts => match evP e parts.toList with
    | some ps => if md o = .iso then (vbuildList P t len ps).map (·, H) else vbuildSlice P H t len ps
    | none => none
  | .call { callee := .builtin .append, args, argTypes } => if md o = .shr then match evL e args.toList, argTypes.toList with
      | some [s, x], [t, t2] => match vappIn P H t t2 s x with
        | some r => some r
        | none => match vappZ P H t t2 s x with
          | some r => some r
          | none => vappendR P H t t2 s x
      | _, _ => none
    else vexec P e H o
  | .call { callee := .builtin .clear, args, argTypes } => match evL e args.toList, argTypes.toList with
    | some [x], [t] => if (P.underlying t).isSome = true then (vclear P H t x).map (.tup [], ·) else none
    | _, _ => none
  | .call { callee := .builtin .cap, args, argTypes } => match evL e args.toList, argTypes.toList with
    | some [x], [t] => (vcap P t x).map (·, H)
    | _, _ => none
  | .convert a b x => if a = b then match vexec P e H o with
      | some r => some r
      | none => match e x with
        | some v => vconvSame P H a b v
        | none => none
    else vexec P e H o
  | .makeMap _ r => vmakeMap H r
  | .lookup t x k ok => match e x, e k with
    | some a, some b => (vlookup P H t a b ok).map (·, H)
    | _, _ => none
  | .mapUpdate t m k x => match e m, e k, e x with
    | some a, some b, some v => (vmapUpdate P H t a b v).map (.tup [], ·)
    | _, _, _ => none
  | .range t x => match e x with
    | some a => vrange P H t a
    | none => none
  | .entry x => match e x with
    | some a => (ventry H a).map (·, H)
    | none => none
  | _ => vexec P e H o

theorem vexec2_congr {P : Program} {md : Oper → Md} {e e' : Operand → Option AV} {H : Hp} {o : Oper} (h : ∀ x ∈ o.op.operands, e x = e' x) : vexec2 P md e H o = vexec2 P md e' H o := by
  have hc := vexec_congr (P := P) (H := H) h
  unfold vexec2
  split
  · rfl
  · rename_i t len ps ho
    rw [ho] at h
    have := evP_congr (e := e) (e' := e') (l := ps.toList) (fun x hx => h x (by simpa [Op.operands] using hx))
    simp only [this]
  · rename_i args ts ho
    rw [ho] at h
    have := evL_congr (e := e) (e' := e') (l := args.toList) (fun x hx => h x (by simpa [Op.operands, Call.operands] using hx))
    simp only [this, hc]
  · rename_i args ts ho
    rw [ho] at h
    have := evL_congr (e := e) (e' := e') (l := args.toList) (fun x hx => h x (by simpa [Op.operands, Call.operands] using hx))
    simp only [this]
  · rename_i args ts ho
    rw [ho] at h
    have := evL_congr (e := e) (e' := e') (l := args.toList) (fun x hx => h x (by simpa [Op.operands, Call.operands] using hx))
    simp only [this]
  · rename_i a b x ho
    rw [ho] at h
    simp only [h x (by simp [Op.operands]), hc]
  · rfl
  · rename_i t x k ok ho
    rw [ho] at h
    simp only [h x (by simp [Op.operands]), h k (by simp [Op.operands])]
  · rename_i t m k x ho
    rw [ho] at h
    simp only [h x (by simp [Op.operands]), h k (by simp [Op.operands]), h m (by simp [Op.operands])]
  · rename_i t x ho
    rw [ho] at h
    simp only [h x (by simp [Op.operands])]
  · rename_i x ho
    rw [ho] at h
    simp only [h x (by simp [Op.operands])]
  · exact hc

theorem exec2_sound {P : Program} {c : Cx} {H H' : Hp} (s : Sim c H) {md : Oper → Md} {e : Operand → Option AV} {ρ : Operand → Value} (he : OpR c e ρ) {o : Oper} {v : AV} (h : vexec2 P md e H o = some (v, H')) : Ran P c H ρ o v H' := by
  unfold vexec2 at h
  split at h
  · rename_i t ho
    split at h
    · exact Ran.of_yields (alloc1_sound s h) (by simp only [execOp, ho])
    · exact exec_sound s he (by simp only [vexec, ho]; exact h)
  · rename_i t len parts ho
    cases hp : evP e parts.toList with
    | none => rw [hp] at h; cases h
    | some ps =>
      rw [hp] at h
      simp only at h
      split at h
      · obtain ⟨z, h1, h2⟩ := map_some h
        cases h2
        refine Ran.of_yields (buildList_sound (PS := parts.map fun p => (p.1, ρ p.2)) s ?_ h1) (by simp only [execOp, ho])
        have := evP_sound he hp
        simpa using this
      · refine exec_sound s he ?_
        simp only [vexec, ho, hp]
        exact h
  · rename_i args ts ho
    split at h
    · split at h
      · rename_i a x t t2 hx ht
        obtain ⟨l1, l2⟩ := evL_sound he hx
        have hts : ts = #[t, t2] := by apply Array.ext'; simpa using ht
        subst hts
        obtain ⟨A, X, hAX⟩ : ∃ A X, args.toList = [A, X] := by
          match hl : args.toList, l1 with
          | [A, X], _ => exact ⟨A, X, rfl⟩
        have hargs : args = #[A, X] := by apply Array.ext'; simpa using hAX
        subst hargs
        have key : Yields P c H (Builtin.append_ #[t, t2] o.type #[ρ A, ρ X]) v H' := by
          split at h
          · rename_i r hr
            cases h
            exact appIn_sound (ty := o.type) s (l2 0 a (ρ A) rfl rfl) (l2 1 x (ρ X) rfl rfl) hr
          · split at h
            · rename_i r hr
              cases h
              exact appZ_sound (ty := o.type) s (l2 0 a (ρ A) rfl rfl) (l2 1 x (ρ X) rfl rfl) hr
            · exact appendR_sound (ty := o.type) s (l2 0 a (ρ A) rfl rfl) (l2 1 x (ρ X) rfl rfl) h
        refine Ran.of_yields key ?_
        have hm : Array.map ρ #[A, X] = #[ρ A, ρ X] := by simp
        simp only [execOp, ho, resolve, pure_bind, invoke, hm]
        rfl
      · cases h
    · exact exec_sound s he h
  · rename_i args ts ho
    split at h
    · rename_i x t hx ht
      obtain ⟨l1, l2⟩ := evL_sound he hx
      have hts : ts = #[t] := by apply Array.ext'; simpa using ht
      subst hts
      obtain ⟨X, hAX⟩ : ∃ X, args.toList = [X] := by
        match hl : args.toList, l1 with
        | [X], _ => exact ⟨X, rfl⟩
      have hargs : args = #[X] := by apply Array.ext'; simpa using hAX
      subst hargs
      split at h
      · rename_i hu
        obtain ⟨H2, h1, h2⟩ := map_some h
        cases h2
        refine Ran.of_yields (clear_sound (ty := o.type) s (l2 0 x (ρ X) rfl rfl) h1 (Option.isSome_iff_exists.1 hu)) ?_
        have hm : Array.map ρ #[X] = #[ρ X] := by simp
        simp only [execOp, ho, resolve, pure_bind, invoke, hm]
        rfl
      · cases h
    · cases h
  · rename_i args ts ho
    split at h
    · rename_i x t hx ht
      obtain ⟨l1, l2⟩ := evL_sound he hx
      have hts : ts = #[t] := by apply Array.ext'; simpa using ht
      subst hts
      obtain ⟨X, hAX⟩ : ∃ X, args.toList = [X] := by
        match hl : args.toList, l1 with
        | [X], _ => exact ⟨X, rfl⟩
      have hargs : args = #[X] := by apply Array.ext'; simpa using hAX
      subst hargs
      obtain ⟨y, h1, h2⟩ := map_some h
      cases h2
      refine Ran.of_same s (cap_sound (ty := o.type) (l2 0 x (ρ X) rfl rfl) h1) ?_
      have hm : Array.map ρ #[X] = #[ρ X] := by simp
      simp only [execOp, ho, resolve, pure_bind, invoke, hm]
      rfl
    · cases h
  · rename_i a b x ho
    split at h
    · split at h
      · rename_i r hr
        cases h
        exact exec_sound s he hr
      · split at h
        · rename_i y hy
          exact Ran.of_yields (convSame_sound s (he x y hy) h) (by simp only [execOp, ho])
        · cases h
    · exact exec_sound s he h
  · rename_i t r ho
    exact Ran.of_yields (makeMap_sound (ρ := ρ) (t := t) s h) (by simp only [execOp, ho])
  · rename_i t x k ok ho
    split at h
    · rename_i a b ha hb
      obtain ⟨y, h1, h2⟩ := map_some h
      cases h2
      exact Ran.of_same s (lookup_sound s (he x a ha) (he k b hb) h1) (by simp only [execOp, ho])
    · cases h
  · rename_i t m k x ho
    split at h
    · rename_i a b y ha hb hy
      obtain ⟨H2, h1, h2⟩ := map_some h
      cases h2
      obtain ⟨c', r1, r2⟩ := mapUpdate_sound (P := P) s (he m a ha) (he k b hb) (he x y hy) h1
      refine ⟨undef, c', .inr ⟨?_, rfl⟩, r2, .tup [] #[] rfl (fun j x V hx => by cases hx)⟩
      simp only [execOp, ho]
      rw [Sem.run_bind, r1]
      rfl
    · cases h
  · rename_i t x ho
    split at h
    · rename_i a ha
      exact Ran.of_yields (range_sound s (he x a ha) h) (by simp only [execOp, ho])
    · cases h
  · rename_i x ho
    split at h
    · rename_i a ha
      obtain ⟨y, h1, h2⟩ := map_some h
      cases h2
      exact Ran.of_same s (entry_sound s (he x a ha) h1) (by simp only [execOp, ho])
    · cases h
  · exact exec_sound s he h

/-! ### One operation -/
def noEsc (P : Program) (g : Nat) : Bool :=
  match P.funcs[g]? with
  | some fn => fn.name == "internal/abi.NoEscape" && fn.origin == "" && fn.body.isNone
  | none => false

theorem esc_rows : Extern.allNextRows.lookup "internal/abi.NoEscape" = none ∧ Extern.allNextRows.lookup "" = none := by
  constructor <;> kernel_rfl
theorem esc_find (fn : Func) (h : fn.name = "internal/abi.NoEscape") : Extern.find fn = some Extern.AbiNoEscape.same := by
  have h1 : Extern.allGenericRows.lookup "internal/abi.NoEscape" = none := by kernel_rfl
  have h2 : Extern.allTypedRows.lookup "internal/abi.NoEscape" = none := by kernel_rfl
  have h3 : Extern.allRows.lookup "internal/abi.NoEscape" = some Extern.AbiNoEscape.same := by kernel_rfl
  unfold Extern.find
  simp only [h, h1, h2, h3, Option.map_none]
  generalize Extern.AbiNoEscape.same = sm
  generalize (Option.map (fun x => x fn.targs fn.params fn.resultTypes) (List.lookup fn.origin Extern.allGenericRows)) = q1
  generalize (Option.map (fun x => x fn.params fn.resultTypes) (List.lookup fn.origin Extern.allTypedRows)) = q2
  generalize List.lookup fn.origin Extern.allRows = q3
  rfl

theorem run_noEsc {P : Program} {g : Nat} (h : noEsc P g = true) (X : Value) (w : World) : (callFunc g #[X]).run P w = .ok (.value X) w := by
  unfold noEsc at h
  split at h
  · rename_i fn hf
    simp only [Bool.and_eq_true, beq_iff_eq] at h
    obtain ⟨⟨h1, h2⟩, h3⟩ := h
    have hn : ¬ fn.name = "runtime.NumGoroutine" := fun e => by rw [h1] at e; exact absurd e (by decide)
    have hb : fn.body = none := by cases hb : fn.body <;> simp_all
    have he := esc_find fn h1
    have hx : Extern.findNext fn = none := by simp only [Extern.findNext, h1, h2, esc_rows.1, esc_rows.2, Option.map_none]; rfl
    have hs := Lib.run_noEscape (P := P) w X
    generalize Extern.AbiNoEscape.same = same at hs he
    simp [callFunc, hf, hn, hb, hx, he, hs]
  · cases h

/-- What the functions without a body give, of which the model has entries. -/
def isExt (P : Program) (g : Nat) (nm : String) : Bool :=
  match P.funcs[g]? with
  | some fn => fn.name == nm && fn.origin == "" && fn.body.isNone
  | none => false
def vext (P : Program) (g : Nat) (xs : List AV) : Option AV :=
  match xs with
  | [.str s, .int .u8 c] => if isExt P g "internal/bytealg.CountString" = true then some (.int .i64 (Lib.countByte s.data.toList c.toNat.toUInt8 : Nat))
    else if isExt P g "internal/bytealg.IndexByteString" = true then some (.int .i64 (Lib.indexByte s.data.toList c.toNat.toUInt8)) else none
  | [x] => if noEsc P g = true then some x else none
  | _ => none
theorem ext_run {P : Program} {g : Nat} {nm : String} {e : Array Value → Sem Value} (h : isExt P g nm = true) (hnr : (nm == "runtime.NumGoroutine") = false) (h1 : Extern.allGenericRows.lookup nm = none) (h2 : Extern.allTypedRows.lookup nm = none) (h3 : Extern.allRows.lookup nm = some e) (h4 : Extern.allNextRows.lookup nm = none)
    (args : Array Value) (w : World) : (callFunc g args).run P w = ((e args).run P w).andThen fun v w' => .ok (.value v) w' := by
  unfold isExt at h
  split at h
  · rename_i fn hf
    simp only [Bool.and_eq_true, beq_iff_eq] at h
    obtain ⟨⟨hn, ho⟩, hb⟩ := h
    refine run_callFunc_extern hf (by rw [hn]; exact hnr) hb ?_ ?_ args w
    · simp only [Extern.findNext, hn, ho, h4, esc_rows.2, Option.map_none]; rfl
    · unfold Extern.find
      simp only [hn, h1, h2, h3, Option.map_none]
      generalize (Option.map (fun x => x fn.targs fn.params fn.resultTypes) (List.lookup fn.origin Extern.allGenericRows)) = q1
      generalize (Option.map (fun x => x fn.params fn.resultTypes) (List.lookup fn.origin Extern.allTypedRows)) = q2
      generalize List.lookup fn.origin Extern.allRows = q3
      rfl
  · cases h
theorem vext_sound {P : Program} {c : Cx} {g : Nat} {xs : List AV} {x : AV} (h : vext P g xs = some x) {Vs : List Value} (hl : xs.length = Vs.length) (hr : ∀ (j : Nat) (x : AV) (V : Value), xs[j]? = some x → Vs[j]? = some V → Rel c x V) :
    ∃ V, (callFunc g Vs.toArray).run P c.w = .ok (.value V) c.w ∧ Rel c x V := by
  unfold vext at h
  split at h
  · rename_i s n
    match Vs, hl with
    | [V1, V2], _ =>
      have r1 := hr 0 _ V1 rfl rfl
      have r2 := hr 1 _ V2 rfl rfl
      cases r1; cases r2
      split at h
      · rename_i he
        cases h
        refine ⟨_, ?_, .int _ _⟩
        rw [ext_run he (by decide) (by kernel_rfl) (by kernel_rfl) (e := Extern.BytealgCount.count) (by kernel_rfl) (by kernel_rfl), Lib.run_countString]
        rfl
      · split at h
        · rename_i he
          cases h
          refine ⟨_, ?_, .int _ _⟩
          rw [ext_run he (by decide) (by kernel_rfl) (by kernel_rfl) (e := Extern.BytealgIndexByte.indexByte) (by kernel_rfl) (by kernel_rfl), Lib.run_indexByteString]
          rfl
        · cases h
  · split at h
    · rename_i he
      cases h
      obtain ⟨V, rfl⟩ := List.length_eq_one_iff.1 hl.symm
      exact ⟨V, run_noEsc he V c.w, hr 0 x V rfl rfl⟩
    · cases h
  · cases h

/-- .. and those that look at objects. -/
def bytesAt (H : Hp) (x : AV) : Option (List UInt8) := (rowsOf H x).bind byteRows
theorem byteRows_len1 {rows : List (List AV)} {bs : List UInt8} (h : byteRows rows = some bs) : lenOk 1 rows = true := by
  obtain ⟨h1, h2⟩ := byteRows_get h
  refine List.all_eq_true.2 (fun r hr => ?_)
  obtain ⟨j, hj⟩ := List.mem_iff_getElem?.1 hr
  have hlt : j < bs.length := by rw [h1]; exact (List.getElem?_eq_some_iff.1 hj).1
  have := h2 j _ (List.getElem?_eq_getElem hlt)
  rw [hj] at this
  cases this
  rfl
theorem run_extBytes {P : Program} {w : World} : ∀ (l : List UInt8) (a : Addr) (acc : ByteArray), (∀ j x, l[j]? = some x → w.cell? (a.add j) = some (.int .u8 x.toNat)) →
    (Extern.Bytes.loadBytes a l.length acc).run P w = .ok ⟨acc.data ++ l.toArray⟩ w
  | [], a, acc, _ => by simp [Extern.Bytes.loadBytes]
  | x :: l, a, acc, h => by
    have h0 : w.cell? a = some (.int .u8 x.toNat) := by
      have := h 0 x rfl
      simpa [Addr.add] using this
    have ih := run_extBytes (P := P) (w := w) l (a.add 1) (acc.push x) (fun j y hy => by
      have := h (j + 1) y (by simpa using hy)
      have e : (a.add 1).add j = a.add (j + 1) := by
        unfold Addr.add
        by_cases hj : j = 0
        · subst hj; simp
        · simp [hj]; omega
      rw [e]; exact this)
    have hx : ((x.toNat : Int).toNat).toUInt8 = x := by simp
    simp only [List.length_cons, Extern.Bytes.loadBytes, Sem.run_bind, run_load, h0, Result.andThen, hx]
    rw [ih]
    congr 1
    apply ByteArray.ext
    simp
theorem bytesAt_sound {P : Program} {c : Cx} {H : Hp} (s : Sim c H) {x : AV} {X : Value} (hX : Rel c x X) {bs : List UInt8} (h : bytesAt H x = some bs) : (Extern.Bytes.bytesOf X).run P c.w = .ok ⟨bs.toArray⟩ c.w := by
  unfold bytesAt at h
  cases hr : rowsOf H x with
  | none => rw [hr] at h; cases h
  | some rows =>
    rw [hr] at h
    have hb : byteRows rows = some bs := h
    obtain ⟨b1, b2⟩ := byteRows_get hb
    rcases rows_sound s hX hr (byteRows_len1 hb) with ⟨base, cap, rfl, rfl⟩ | ⟨b, o, cap, rfl, hc⟩
    · have : bs = [] := List.eq_nil_of_length_eq_zero (by simpa using b1)
      subst this
      cases base <;> rfl
    · have := run_extBytes (P := P) (w := c.w) bs ⟨b, o, none⟩ .empty (fun j x hx => by
        have hr' := b2 j x hx
        obtain ⟨_, g2⟩ := hc j _ hr'
        obtain ⟨V, v1, v2, v3⟩ := g2 0 _ rfl
        cases v3
        rw [add_spot]
        simpa using v1)
      simp only [Extern.Bytes.bytesOf]
      rw [← b1, this]
      simp
def vextH (P : Program) (H : Hp) (g : Nat) (xs : List AV) : Option AV :=
  match xs with
  | [a, b] => if isExt P g "internal/bytealg.Compare" = true then match bytesAt H a, bytesAt H b with
      | some x, some y => some (.int .i64 (Lib.compareBytes x y))
      | _, _ => none
    else none
  | _ => none
theorem vextH_sound {P : Program} {c : Cx} {H : Hp} (s : Sim c H) {g : Nat} {xs : List AV} {x : AV} (h : vextH P H g xs = some x) {Vs : List Value} (hl : xs.length = Vs.length) (hr : ∀ (j : Nat) (x : AV) (V : Value), xs[j]? = some x → Vs[j]? = some V → Rel c x V) :
    ∃ V, (callFunc g Vs.toArray).run P c.w = .ok (.value V) c.w ∧ Rel c x V := by
  unfold vextH at h
  split at h
  · rename_i a b
    match Vs, hl with
    | [V1, V2], _ =>
      split at h
      · rename_i he
        split at h
        · rename_i p q hp hq
          cases h
          have r1 := bytesAt_sound (P := P) s (hr 0 _ V1 rfl rfl) hp
          have r2 := bytesAt_sound (P := P) s (hr 1 _ V2 rfl rfl) hq
          refine ⟨_, ?_, .int _ _⟩
          rw [ext_run he (by decide) (by kernel_rfl) (by kernel_rfl) (e := Extern.BytealgCompare.compare) (by kernel_rfl) (by kernel_rfl)]
          have : (Extern.BytealgCompare.compare #[V1, V2]).run P c.w = .ok (.int .i64 (Lib.compareBytes p q)) c.w := by
            change Sem.run P (do pure (goInt (Extern.BytealgCompare.cmp (← Extern.Bytes.bytesOf V1) (← Extern.Bytes.bytesOf V2)))) c.w = _
            simp only [Sem.run_bind, r1, r2, Result.andThen_ok, Sem.run_pure, Lib.cmp_eq]
            rfl
          rw [this]
          rfl
        · cases h
      · cases h
  · cases h
def vext2 (P : Program) (H : Hp) (g : Nat) (xs : List AV) : Option AV :=
  match vext P g xs with
  | some x => some x
  | none => vextH P H g xs
theorem vext2_sound {P : Program} {c : Cx} {H : Hp} (s : Sim c H) {g : Nat} {xs : List AV} {x : AV} (h : vext2 P H g xs = some x) {Vs : List Value} (hl : xs.length = Vs.length) (hr : ∀ (j : Nat) (x : AV) (V : Value), xs[j]? = some x → Vs[j]? = some V → Rel c x V) :
    ∃ V, (callFunc g Vs.toArray).run P c.w = .ok (.value V) c.w ∧ Rel c x V := by
  unfold vext2 at h
  split at h
  · rename_i y hy
    cases h
    exact vext_sound hy hl hr
  · exact vextH_sound s h hl hr

def enterOk (P : Program) (g : Nat) : Bool :=
  match P.funcs[g]? with
  | some fn => !(fn.name == "runtime.NumGoroutine") && fn.body.isSome
  | none => false

def vcallX (X : Sem1) (m : Md) (g : Nat) (xs : List AV) (H : Hp) (k : AV → Hp → Prop) : Prop :=
  match m with
  | .shr => X g xs H k
  | .iso => match mapL (lend H) xs with
    | some ys => X g ys [] fun r H2 => match retv H2 r with
      | some r' => k r' H
      | none => False
    | none => False
  | .shf => X g xs H fun r H2 => match frzv H2 r with
    | some (H3, r') => k r' H3
    | none => False

theorem run_method {P : Program} {t : TypeId} {name : String} {f : FuncId} (h : methOf P t name = some f) (V : Value) (args : Array Value) (w : World) : (callMethod (.iface t V) name args).run P w = (callFunc f (#[V] ++ args)).run P w := by
  unfold methOf at h
  split at h
  case h_2 => cases h
  rename_i i d hi hd
  split at h
  case h_2 => cases h
  rename_i m hm
  split at h
  · cases h
  · rename_i f' d' hne hp hf
    cases h
    obtain ⟨k, hk⟩ : ∃ k, P.types.size + Made.depth = k + 1 := ⟨P.types.size + Made.depth - 1, by
      have h1 : 0 < Made.depth := by decide
      omega⟩
    have hrecv : ∀ wr, (receiverAt t (.val V) false wr).run P w = .ok V w := fun wr => by
      unfold receiverAt
      simp only [Sem.run_bind, run_un hd, Result.andThen_ok]
      rfl
    have e1 : (Sem.run P (Sem.program Sem.pure) w) = .ok P w := rfl
    have hm' : (method (k + 1) t V name).run P w = .ok (f, V) w := by
      unfold method
      simp only [Sem.run_bind, typeInfo, program]
      rw [e1]
      simp only [Result.andThen_ok, hi, Sem.run_pure, hm, hne, follow, Sem.run_bind, hp, hrecv]
    unfold callMethod
    simp only [Sem.run_bind, program]
    rw [e1]
    simp only [Result.andThen_ok, hk, hm']
  · cases h

def vop (X : Sem1) (P : Program) (md : Oper → Md) (G : Glob) (env : List AV) (H : Hp) (o : Oper) (k : AV → Hp → Prop) : Prop :=
  match o.op with
  | .call { callee := .value f, args, .. } => match ev G env f, evL (ev G env) args.toList with
    | some (.clo g cs), some xs => if enterOk P g = true then vcallX X (md o) g (xs ++ cs) H k else ∃ x, vext2 P H g (xs ++ cs) = some x ∧ k x H
    | _, _ => False
  | .call { callee := .invoke rv name, args, .. } => match ev G env rv, evL (ev G env) args.toList with
    | some (.iface t v), some xs => match methOf P t name with
      | some g => enterOk P g = true ∧ vcallX X (md o) g (v :: xs) H k
      | none => False
    | _, _ => False
  | .next x s => match s, ev G env x with
    | false, some v => vnext H v k
    | _, _ => False
  | _ => match vexec2 P md (ev G env) H o with
    | some (r, H') => k r H'
    | none => False

def putE (env : List AV) (dst : Option Tmp) (v : AV) : List AV :=
  match dst with
  | some d => env.set d v
  | none => env

def wantedV (g : Option (Nat × Bool)) (ops : Array Oper) (env : List AV) : Option Bool :=
  match g with
  | none => some true
  | some (j, want) => match ((ops[j]?).bind (·.dst)).bind (env[·]?) with
    | some (.bool b) => some (b == want)
    | some (.tup []) => some false
    | _ => none

/-- The machine's calls, seen from here. -/
def XS (P : Program) (G : Glob) : Sem1 := fun f args H K => ∀ (c : Cx) (Vs : List Value), Sim c H → GOK c G → args.length = Vs.length →
  (∀ (j : Nat) (x : AV) (V : Value), args[j]? = some x → Vs[j]? = some V → Rel c x V) →
  Calls P f Vs.toArray c.w fun e w' => ∃ r H' c' V, e = .returned V ∧ w' = c'.w ∧ To c H c' H' ∧ Rel c' r V ∧ K r H'

theorem XS.mono {P : Program} {G : Glob} {f : Nat} {args : List AV} {H : Hp} {K K' : AV → Hp → Prop} (h : XS P G f args H K) (hk : ∀ r H', K r H' → K' r H') : XS P G f args H K' :=
  fun c Vs s g hl hr => (h c Vs s g hl hr).mono fun e w' ⟨r, H', c', V, a, b, d, e', f'⟩ => ⟨r, H', c', V, a, b, d, e', hk _ _ f'⟩

theorem GOK.lent {c : Cx} {G : Glob} (h : GOK c G) : GOK (lentCx c) G := fun g cs hg => (h g cs hg).val lentMonoI rfl

theorem callX_sound {P : Program} {G : Glob} {m : Md} {g : Nat} {xs : List AV} {H : Hp} {k : AV → Hp → Prop} (h : vcallX (XS P G) m g xs H k) {c : Cx} (s : Sim c H) (hg : GOK c G) {Vs : List Value} (hl : xs.length = Vs.length)
    (hr : ∀ (j : Nat) (x : AV) (V : Value), xs[j]? = some x → Vs[j]? = some V → Rel c x V) :
    Calls P g Vs.toArray c.w fun e w' => ∃ r H' c' V, e = .returned V ∧ w' = c'.w ∧ To c H c' H' ∧ Rel c' r V ∧ k r H' := by
  cases m with
  | shr => exact h c Vs s hg hl hr
  | iso =>
    simp only [vcallX] at h
    split at h
    · rename_i ys hys
      obtain ⟨m1, m2⟩ := mapL_get hys
      refine (h (lentCx c) Vs (lentSim s) hg.lent (by omega) (fun j y V hy hV => ?_)).mono ?_
      · obtain ⟨x, hx, hf⟩ := m2 j y hy
        exact lend_sound s (hr j x V hx hV) hf
      · rintro e w' ⟨r, H', c', V, rfl, rfl, t, hR, hk⟩
        split at hk
        · rename_i r' hr'
          exact ⟨r', H, backCx c c', V, rfl, rfl, back_to s t, retv_sound s t hR hr', hk⟩
        · exact hk.elim
    · exact h.elim
  | shf =>
    refine (h c Vs s hg hl hr).mono ?_
    rintro e w' ⟨r, H', c', V, rfl, rfl, t, hR, hk⟩
    split at hk
    · rename_i H3 r' hr'
      obtain ⟨c2, st, hR2⟩ := frzv_sound t.sim hR hr'
      exact ⟨r', H3, c2, V, rfl, st.w.symm, t.trans s st.to_, hR2, hk⟩
    · exact hk.elim

theorem run_enter {P : Program} {g : Nat} (h : enterOk P g = true) (Vs : Array Value) (w : World) : (callFunc g Vs).run P w = .ok (.enter g Vs) w := by
  unfold enterOk at h
  split at h
  · rename_i fn hf
    simp only [Bool.and_eq_true, Bool.not_eq_true'] at h
    have h1 : ¬ fn.name = "runtime.NumGoroutine" := fun he => by have := h.1; rw [he] at this; cases this
    have h2 : ¬ fn.body = none := by cases hb : fn.body <;> simp_all
    simp [callFunc, hf, h1, h2]
  · cases h

theorem vop_call {X : Sem1} {P : Program} {md : Oper → Md} {G : Glob} {env : List AV} {H : Hp} {o : Oper} {k : AV → Hp → Prop} (h : vop X P md G env H o k) :
    (∃ f args ts g cs xs, o.op = .call ⟨.value f, args, ts⟩ ∧ ev G env f = some (.clo g cs) ∧ evL (ev G env) args.toList = some xs ∧ ((enterOk P g = true ∧ vcallX X (md o) g (xs ++ cs) H k) ∨ ∃ x, vext2 P H g (xs ++ cs) = some x ∧ k x H)) ∨
    (∃ x v, o.op = .next x false ∧ ev G env x = some v ∧ vnext H v k) ∨
    (∃ rv name args ts t v g xs, o.op = .call ⟨.invoke rv name, args, ts⟩ ∧ ev G env rv = some (.iface t v) ∧ evL (ev G env) args.toList = some xs ∧ methOf P t name = some g ∧ enterOk P g = true ∧ vcallX X (md o) g (v :: xs) H k) ∨
    ∃ r H', vexec2 P md (ev G env) H o = some (r, H') ∧ k r H' := by
  unfold vop at h
  split at h
  · rename_i f args ts ho
    split at h
    · rename_i g cs xs h1 h2
      split at h
      · rename_i h3
        exact .inl ⟨_, _, _, _, _, _, ho, h1, h2, .inl ⟨h3, h⟩⟩
      · exact .inl ⟨_, _, _, _, _, _, ho, h1, h2, .inr h⟩
    · exact h.elim
  · rename_i rv name args ts ho
    split at h
    · rename_i t v xs h1 h2
      split at h
      · rename_i g hg
        exact .inr (.inr (.inl ⟨_, _, _, _, _, _, _, _, ho, h1, h2, hg, h.1, h.2⟩))
      · exact h.elim
    · exact h.elim
  · rename_i x sb ho
    split at h
    · rename_i v hv
      exact .inr (.inl ⟨x, v, ho, hv, h⟩)
    · exact h.elim
  · split at h
    · rename_i r H' hr
      exact .inr (.inr (.inr ⟨r, H', hr, h⟩))
    · exact h.elim

theorem vop_sound {P : Program} {md : Oper → Md} {G : Glob} {env : List AV} {H : Hp} {o : Oper} {k : AV → Hp → Prop} (h : vop (XS P G) P md G env H o k)
    {c : Cx} (s : Sim c H) (hg : GOK c G) {a : Act} (he : EnvR c env a.tmps) {next : Act → World → Prop} {Q : Exit → Act → World → Prop}
    (hn : ∀ r H' c' V, To c H c' H' → Rel c' r V → k r H' → next (a.put o.dst V) c'.w) : o.wp P a c.w next Q := by
  have hρ := ev_sound he hg
  rcases vop_call h with ⟨f, args, ts, g, cs, xs, ho, h1, h2, h34⟩ | ⟨x, v, ho, h1, h2⟩ | ⟨rv, name, args, ts, t, v, g, xs, ho, h1, h2, hm, h3, h4⟩ | ⟨r, H', h1, h2⟩
  · have hf := hρ f _ h1
    obtain ⟨l1, l2⟩ := evL_sound hρ h2
    have hrun : ∃ Vs, a.eval f = .func (.func g) #[] Vs ∧ cs.length = Vs.size ∧ ∀ (j : Nat) (x : AV) (V : Value), cs[j]? = some x → Vs[j]? = some V → Rel c x V := by
      generalize hF : a.eval f = F at hf
      cases hf with
      | clo _ _ Vs hl hr => exact ⟨Vs, rfl, hl, hr⟩
    obtain ⟨Vs, e1, e2, e3⟩ := hrun
    have hall : ∀ (j : Nat) (x : AV) (V : Value), (xs ++ cs)[j]? = some x → (args.toList.map a.eval ++ Vs.toList)[j]? = some V → Rel c x V := (fun j x V hx hV => by
      by_cases hj : j < xs.length
      · rw [List.getElem?_append_left hj] at hx
        rw [List.getElem?_append_left (by simpa [← l1] using hj)] at hV
        exact l2 j x V hx hV
      · rw [List.getElem?_append_right (by omega)] at hx
        rw [List.getElem?_append_right (by simp; simp at l1; omega)] at hV
        refine e3 _ x V hx ?_
        simpa [l1] using hV)
    have hexe : (execOp a.eval o).run P c.w = (callFunc g (args.toList.map a.eval ++ Vs.toList).toArray).run P c.w := by
      simp only [execOp, ho, resolve, e1, Deferred.ofValue, pure_bind, invoke]
      congr 1
      congr 1
      apply Array.ext'
      simp
    rcases h34 with ⟨h3, h4⟩ | ⟨x, hx, hk⟩
    case inr =>
      obtain ⟨V, hV, hr⟩ := vext2_sound s hx (Vs := args.toList.map a.eval ++ Vs.toList) (by simp [l1, e2]) hall
      have := hn x H c V (To.refl s) hr hk
      unfold Oper.wp
      rw [hexe, hV, Oper.upon_value]
      exact this
    have hc := callX_sound h4 s hg (Vs := args.toList.map a.eval ++ Vs.toList) (by simp [l1, e2]) hall
    have hex : (execOp a.eval o).run P c.w = .ok (.enter g (args.toList.map a.eval ++ Vs.toList).toArray) c.w := by
      rw [hexe, run_enter h3]
    unfold Oper.wp
    rw [hex, Oper.upon_enter]
    refine hc.mono ?_
    rintro e w' ⟨r, H', c', V, rfl, rfl, t, hR, hk⟩
    exact hn r H' c' V t hR hk
  · obtain ⟨V, v', c', H', h3, h4, h5, h6⟩ := next_sound (P := P) (ty := o.type) s (hρ x v h1) h2
    have := hn v' H' c' V h4 h5 h6
    unfold Oper.wp
    have hexe : (execOp a.eval o).run P c.w = .ok (.value V) c'.w := by
      simp only [execOp, ho]
      rw [Sem.run_bind, h3]
      rfl
    rw [hexe, Oper.upon_value]
    exact this
  · have hf := hρ rv _ h1
    obtain ⟨l1, l2⟩ := evL_sound hρ h2
    have hrun : ∃ V, a.eval rv = .iface t V ∧ Rel c v V := by
      generalize hF : a.eval rv = F at hf
      cases hf with
      | iface _ _ V hr => exact ⟨V, rfl, hr⟩
    obtain ⟨V, e1, e2⟩ := hrun
    have hall : ∀ (j : Nat) (x : AV) (W : Value), (v :: xs)[j]? = some x → (V :: args.toList.map a.eval)[j]? = some W → Rel c x W := fun j x W hx hW => by
      cases j with
      | zero => cases hx; cases hW; exact e2
      | succ j => exact l2 j x W (by simpa using hx) (by simpa using hW)
    have hexe : (execOp a.eval o).run P c.w = (callFunc g (V :: args.toList.map a.eval).toArray).run P c.w := by
      simp only [execOp, ho, resolve, pure_bind, invoke, e1]
      have e3 : ((#[Value.iface t V] ++ args.map a.eval)[0]? : Option Value) = some (.iface t V) := by rw [Array.getElem?_append_left (Nat.zero_lt_one)]; rfl
      have e4 : (#[Value.iface t V] ++ args.map a.eval).extract 1 (#[Value.iface t V] ++ args.map a.eval).size = args.map a.eval := by
        apply Array.ext'
        simp
        exact List.take_of_length_le (by simp)
      simp only [e3, e4]
      rw [run_method hm]
      congr 1
      congr 1
      apply Array.ext'
      simp
    have hc := callX_sound h4 s hg (Vs := V :: args.toList.map a.eval) (by simp [l1]) hall
    have hex : (execOp a.eval o).run P c.w = .ok (.enter g (V :: args.toList.map a.eval).toArray) c.w := by rw [hexe, run_enter h3]
    unfold Oper.wp
    rw [hex, Oper.upon_enter]
    refine hc.mono ?_
    rintro e w' ⟨r, H', c', V', rfl, rfl, t', hR, hk⟩
    exact hn r H' c' V' t' hR hk
  · obtain ⟨V, c', h3, h4, h5⟩ := exec2_sound s hρ h1
    have := hn r H' c' V h4 h5 h2
    unfold Oper.wp
    rcases h3 with h3 | ⟨h3, rfl⟩
    · rw [h3, Oper.upon_value]; exact this
    · rw [h3, Oper.upon_skip]; exact this

theorem EnvR.put {c : Cx} {env : List AV} {a : Act} (h : EnvR c env a.tmps) {v : AV} {V : Value} (hr : Rel c v V) (dst : Option Tmp) : EnvR c (putE env dst v) (a.put dst V).tmps := by
  cases dst with
  | none => exact h
  | some d =>
    refine ⟨by simp [putE, Act.put, h.1], fun t x W hx hW => ?_⟩
    simp only [putE, Act.put] at hx hW
    by_cases hd : d = t
    · subst hd
      have hlt := (List.getElem?_eq_some_iff.1 hx).1
      rw [List.length_set] at hlt
      rw [List.getElem?_set_self hlt] at hx
      have hlt' : d < a.tmps.size := by rw [← h.1]; exact hlt
      rw [Array.getElem?_setIfInBounds_self_of_lt hlt'] at hW
      cases hx
      cases hW
      exact hr
    · rw [List.getElem?_set_ne hd] at hx
      rw [Array.getElem?_setIfInBounds_ne hd] at hW
      exact h.2 t x W hx hW

theorem put_defers (a : Act) (dst : Option Tmp) (V : Value) : (a.put dst V).defers = a.defers := by cases dst <;> rfl

theorem undef_rel (c : Cx) : Rel c (.tup []) undef := .tup [] #[] rfl (fun j x V hx => by cases hx)

theorem wanted_sound {c : Cx} {env : List AV} {tmps : Array Value} (h : EnvR c env tmps) {ops : Array Oper} {o : Oper} {b : Bool} (hw : wantedV o.guard ops env = some b) : Region.wanted o (yielded ops tmps) = b := by
  unfold wantedV at hw
  unfold Region.wanted
  split at hw
  · rename_i hg; cases hw; simp [hg]
  · rename_i j want hg
    simp only [hg, yielded]
    cases hd : (ops[j]?).bind (·.dst) with
    | none => rw [hd] at hw; cases hw
    | some d =>
      rw [hd] at hw
      simp only [Option.bind_some] at hw ⊢
      have key : ∀ x, env[d]? = some x → ∃ V, tmps[d]? = some V ∧ Rel c x V := fun x hx => by
        have hlt := (List.getElem?_eq_some_iff.1 hx).1
        have hlt' : d < tmps.size := by rw [← h.1]; exact hlt
        exact ⟨tmps[d], Array.getElem?_eq_getElem hlt', h.2 d x _ hx (Array.getElem?_eq_getElem hlt')⟩
      split at hw
      · rename_i b' hx
        cases hw
        obtain ⟨V, h1, h2⟩ := key _ hx
        rw [h1]
        cases h2
        cases b' <;> cases want <;> rfl
      · rename_i hx
        cases hw
        obtain ⟨V, h1, h2⟩ := key _ hx
        rw [h1]
        cases h2
        rfl
      · cases hw

/-! ### A region in its order -/
/-- The second forgets some slots of the first. -/
def Wk : List AV → List AV → Prop
  | [], [] => True
  | x :: r, y :: s => (y = x ∨ y = .undef) ∧ Wk r s
  | _, _ => False

theorem Wk.refl : ∀ (e : List AV), Wk e e
  | [] => trivial
  | x :: r => ⟨.inl rfl, Wk.refl r⟩

theorem Wk.get : ∀ {e e' : List AV}, Wk e e' → e'.length = e.length ∧ ∀ (t : Nat) (y : AV), e'[t]? = some y → y = .undef ∨ e[t]? = some y
  | [], [], _ => ⟨rfl, fun t y h => by cases h⟩
  | x :: r, y :: s, ⟨h1, h2⟩ => by
    obtain ⟨i1, i2⟩ := h2.get
    refine ⟨by simp [i1], fun t z hz => ?_⟩
    cases t with
    | zero =>
      simp at hz
      subst hz
      rcases h1 with h1 | h1
      · exact .inr (by simp [h1])
      · exact .inl h1
    | succ t => simpa using i2 t z (by simpa using hz)
  | [], _ :: _, h => h.elim
  | _ :: _, [], h => h.elim

theorem EnvR.wk {c : Cx} {e e' : List AV} {tmps : Array Value} (h : EnvR c e tmps) (w : Wk e e') : EnvR c e' tmps := by
  obtain ⟨i1, i2⟩ := w.get
  refine ⟨i1.trans h.1, fun t x V hx hV => ?_⟩
  rcases i2 t x hx with rfl | h1
  · exact .undef V
  · exact h.2 t x V h1 hV
theorem Wk.trans : ∀ {a b c : List AV}, Wk a b → Wk b c → Wk a c
  | [], [], [], _, _ => trivial
  | x :: a, y :: b, z :: c, ⟨h1, h2⟩, ⟨h3, h4⟩ => by
    refine ⟨?_, h2.trans h4⟩
    rcases h3 with rfl | rfl
    · exact h1
    · exact .inr rfl
  | [], _ :: _, _, h, _ => h.elim
  | _ :: _, [], _, h, _ => h.elim
  | _ :: _, _ :: _, [], _, h => h.elim
  | [], [], _ :: _, _, h => h.elim

def vseq (X : Sem1) (P : Program) (md : Oper → Md) (G : Glob) (ops : Array Oper) : List Nat → List AV → Hp → (List AV → Hp → Prop) → Prop
  | [], env, H, K => ∃ env', Wk env env' ∧ K env' H
  | i :: r, env, H, K => ∃ env', Wk env env' ∧ match ops[i]? with
    | none => False
    | some o => match wantedV o.guard ops env' with
      | some true => vop X P md G env' H o fun v H1 => vseq X P md G ops r (putE env' o.dst v) H1 K
      | some false => vseq X P md G ops r (putE env' o.dst (.tup [])) H K
      | none => False

/-- From (c, H) to (c', H'), objects from number n on being nobody's concern. -/
structure Fo (n : Nat) (c : Cx) (H : Hp) (c' : Cx) (H' : Hp) : Prop where
  I : ∀ b, c.I b → c'.I b
  heap : ∀ b, c.I b ∨ c.B b → c'.w.heap[b]? = c.w.heap[b]?
  ρ : ∀ l cl, l < n → c.ρ l = some cl → c'.ρ l = some cl
  size : c.w.heap.size ≤ c'.w.heap.size
  frame : ∀ b, b < c.w.heap.size → ¬ Owned c H b → c'.w.heap[b]? = c.w.heap[b]?
  inew : ∀ b, c'.I b → c.I b ∨ c.w.heap.size ≤ b ∨ Owned c H b
  beq : ∀ b, c'.B b ↔ c.B b
  own : ∀ l cl, c'.ρ l = some cl → c.ρ l = some cl ∨ c.w.heap.size ≤ cl.blk ∨ Owned c H cl.blk
  os : c'.w.os = c.w.os
  tape : c'.w.tape = c.w.tape
  output : c'.w.output = c.w.output
  sim : Sim c' H'
  len : n ≤ H'.length
  liv : ∀ l, l < n → live H' l → live H l
  back : ∀ b, b < c.w.heap.size → Owned c' H' b → Owned c H b

theorem Fo.of_to {n : Nat} {c c' : Cx} {H H' : Hp} (s : Sim c H) (hn : n ≤ H.length) (t : To c H c' H') : Fo n c H c' H' :=
  ⟨t.ext.mono.I, t.ext.mono.heap, fun l cl _ h => t.ext.mono.ρ l cl h, t.ext.size, t.ext.frame, t.ext.inew, t.ext.beq, t.ext.own, t.ext.os, t.ext.tape, t.ext.output, t.sim, Nat.le_trans hn t.len,
    fun l hl h => t.liv l (Nat.lt_of_lt_of_le hl hn) h, fun b hb h => Owned.back s t hb h⟩

theorem Fo.trans {n : Nat} {a b c : Cx} {H1 H2 H3 : Hp} (h : Fo n a H1 b H2) (k : Fo n b H2 c H3) : Fo n a H1 c H3 where
  I x hx := k.I x (h.I x hx)
  heap x hx := (k.heap x (hx.imp (h.I x) (fun hb => (h.beq x).2 hb))).trans (h.heap x hx)
  ρ l cl hl hc := k.ρ l cl hl (h.ρ l cl hl hc)
  size := Nat.le_trans h.size k.size
  frame x hx hn := by rw [k.frame x (Nat.lt_of_lt_of_le hx h.size) (fun ho => hn (h.back x hx ho)), h.frame x hx hn]
  inew x hx := by
    rcases k.inew x hx with h1 | h1 | h1
    · exact h.inew x h1
    · exact .inr (.inl (Nat.le_trans h.size h1))
    · by_cases hlt : x < a.w.heap.size
      · exact .inr (.inr (h.back x hlt h1))
      · exact .inr (.inl (by omega))
  beq x := (k.beq x).trans (h.beq x)
  own l cl hl := by
    rcases k.own l cl hl with h1 | h1 | h1
    · exact h.own l cl h1
    · exact .inr (.inl (Nat.le_trans h.size h1))
    · by_cases hlt : cl.blk < a.w.heap.size
      · exact .inr (.inr (h.back _ hlt h1))
      · exact .inr (.inl (by omega))
  os := k.os.trans h.os
  tape := k.tape.trans h.tape
  output := k.output.trans h.output
  sim := k.sim
  len := k.len
  liv l hl hv := h.liv l hl (k.liv l hl hv)
  back x hx ho := h.back x hx (k.back x (Nat.lt_of_lt_of_le hx h.size) ho)

theorem Fo.to {c c' : Cx} {H H' : Hp} (s : Sim c H) (h : Fo H.length c H c' H') : To c H c' H' :=
  ⟨⟨⟨h.I, fun b hb => (h.beq b).2 hb, fun l cl hc => h.ρ l cl (by
      by_cases hl : l < H.length
      · exact hl
      · rw [s.fresh l (by omega)] at hc; cases hc) hc, h.heap⟩, h.size, h.frame, h.inew, h.beq, h.own, h.os, h.tape, h.output⟩, h.sim, h.len, h.liv⟩

/-! ### Values without names -/
def flat0 : AV → Bool
  | .int .. | .bool _ | .str _ => true
  | _ => false
def flat : AV → Bool
  | .agg cs => cs.all flat0
  | x => flat0 x
theorem Rel.flat0 {c : Cx} {x : AV} {X : Value} (h : Rel c x X) (hx : Go.Vi.flat0 x = true) (c' : Cx) : Rel c' x X := by
  cases h <;> first | (cases hx; done) | skip
  · exact .int _ _
  · exact .bool _
  · exact .str _
theorem Rel.flat {c : Cx} {x : AV} {X : Value} (h : Rel c x X) (hx : Go.Vi.flat x = true) (c' : Cx) : Rel c' x X := by
  cases x with
  | agg cs =>
    cases h with
    | agg _ Vs hl h1 h2 =>
      exact .agg cs Vs hl h1 fun j x V hj hV => (h2 j x V hj hV).flat0 (List.all_eq_true.1 hx x (List.mem_of_getElem? hj)) c'
  | _ => exact Rel.flat0 h hx c'

/-! ### Objects that nobody names any more -/
def leafB (n : Nat) : AV → Prop
  | .ptr l _ _ | .row _ l _ _ | .sub l _ _ _ _ | .mapr l => l < n
  | .iface _ v => flat v = true
  | .agg _ | .tup _ | .meth .. => False
  | .clo _ cs => cs = []
  | _ => True
def cellsB (n : Nat) : List AV → Prop
  | [] => True
  | x :: r => leafB n x ∧ cellsB n r
/-- A value that names objects below n alone. -/
def valB (n : Nat) : AV → Prop
  | .agg cs | .clo _ cs => cellsB n cs
  | .tup vs => tupB n vs
  | x => leafB n x
where
  tupB (n : Nat) : List AV → Prop
  | [] => True
  | .agg cs :: r => cellsB n cs ∧ tupB n r
  | x :: r => leafB n x ∧ tupB n r
def envB (n : Nat) : List AV → Prop
  | [] => True
  | x :: r => valB n x ∧ envB n r
def rowsB (n : Nat) : List (List AV) → Prop
  | [] => True
  | r :: s => cellsB n r ∧ rowsB n s
def objB (n : Nat) : VO → Prop
  | .arr _ _ rows => rowsB n rows
  | .one _ cs => cellsB n cs
  | .map es => ∀ e ∈ es, leafB n e.2
  | .iter m _ _ => m < n
  | _ => True
def heapB (n : Nat) : Hp → Prop
  | [] => True
  | o :: r => objB n o ∧ heapB n r

theorem cellsB_mem {n : Nat} : ∀ {cs : List AV}, cellsB n cs → ∀ x ∈ cs, leafB n x
  | [], _, x, hx => by cases hx
  | y :: r, h, x, hx => by
    rcases List.mem_cons.1 hx with rfl | hx
    · exact h.1
    · exact cellsB_mem h.2 x hx
theorem envB_mem {n : Nat} : ∀ {cs : List AV}, envB n cs → ∀ x ∈ cs, valB n x
  | [], _, x, hx => by cases hx
  | y :: r, h, x, hx => by
    rcases List.mem_cons.1 hx with rfl | hx
    · exact h.1
    · exact envB_mem h.2 x hx
theorem rowsB_mem {n : Nat} : ∀ {cs : List (List AV)}, rowsB n cs → ∀ x ∈ cs, cellsB n x
  | [], _, x, hx => by cases hx
  | y :: r, h, x, hx => by
    rcases List.mem_cons.1 hx with rfl | hx
    · exact h.1
    · exact rowsB_mem h.2 x hx
theorem rowsB_of {n : Nat} : ∀ {cs : List (List AV)}, (∀ x ∈ cs, cellsB n x) → rowsB n cs
  | [], _ => trivial
  | y :: r, h => ⟨h y (by simp), rowsB_of fun x hx => h x (by simp [hx])⟩
theorem heapB_mem {n : Nat} : ∀ {H : Hp}, heapB n H → ∀ x ∈ H, objB n x
  | [], _, x, hx => by cases hx
  | y :: r, h, x, hx => by
    rcases List.mem_cons.1 hx with rfl | hx
    · exact h.1
    · exact heapB_mem h.2 x hx
theorem heapB_of {n : Nat} : ∀ {H : Hp}, (∀ x ∈ H, objB n x) → heapB n H
  | [], _ => trivial
  | y :: r, h => ⟨h y (by simp), heapB_of fun x hx => h x (by simp [hx])⟩

/-- The context without the objects from n on. -/
def cutCx (n : Nat) (c : Cx) : Cx := { c with ρ := fun l => if l < n then c.ρ l else none }
theorem cutI (n : Nat) (c : Cx) : MonoI c (cutCx n c) := ⟨fun _ h => h, fun _ _ => rfl⟩
theorem cut_ρ {n : Nat} {c : Cx} {l : Nat} {cl : CL} (hl : l < n) (h : c.ρ l = some cl) : (cutCx n c).ρ l = some cl := by simp [cutCx, hl, h]

theorem Rel.lentSame {c c' : Cx} (hI : ∀ b, c.I b → c'.I b) (hB : ∀ b, c.B b → c'.B b) (hw : c'.w = c.w) {x : AV} {X : Value} (h : Rel c x X) (hx : x.isLent = true) : Rel c' x X := by
  have m : MonoI c c' := ⟨hI, fun _ _ => by rw [hw]⟩
  cases h with
  | iptr bo cs b o F hb hv h1 h2 =>
    refine .iptr bo cs b o F (hb.imp id fun h => ?_) hv (fun j hj => by rw [hw]; exact h1 j hj) (fun j x hx => (h2 j x hx).val m (hv x (List.mem_of_getElem? hx)))
    cases bo
    · exact hI b h
    · exact hB b h
  | list t rows b o sz cap sp hsp F hb hc ht hsz hv h1 h2 =>
    refine .list t rows b o sz cap sp hsp F (hb.imp id fun h => ?_) hc ht hsz hv (fun i j hi hj => by rw [hw]; exact h1 i j hi hj) (fun i r j x hr hx => (h2 i r j x hr hx).val m ?_)
    · cases t <;> first | exact hI b h | exact hB b h
    · exact List.all_eq_true.1 (List.all_eq_true.1 hv r (List.mem_of_getElem? hr)) x (List.mem_of_getElem? hx)
  | int k n => exact .int k n
  | bool b => exact .bool b
  | str s => exact .str s
  | nilp => exact .nilp
  | nils => exact .nils
  | nilf => exact .nilf
  | nilm => exact .nilm
  | nili => exact .nili
  | clo f cs Vs hl h2 =>
    cases cs with
    | nil => exact .clo f [] Vs hl (fun j x V hx => by cases hx)
    | cons a r => cases hx
  | undef V => cases hx
  | ptr l i k cl h => cases hx
  | row t l i n cl o cap h ho hn ht hl => cases hx
  | sub l i k es n cl o cap h ho hn => cases hx
  | agg cs Vs hl h1 h2 => cases hx
  | tup cs Vs hl h2 => cases hx
  | mapr l cl h => cases hx
  | iface t v V h => cases hx
  | meth n t v V h => cases hx

theorem Rel.cutL {n : Nat} {c : Cx} {x : AV} {X : Value} (h : Rel c x X) (hx : leafB n x) : Rel (cutCx n c) x X := by
  have key : x.isLent = true → Rel (cutCx n c) x X := fun hx => Rel.lentSame (c := c) (c' := cutCx n c) (fun _ h => h) (fun _ h => h) rfl h hx
  cases h with
  | ptr l i k cl h => exact .ptr l i k cl (cut_ρ hx h)
  | row t l i n cl o cap h ho hn ht hl => exact .row t l i n cl o cap (cut_ρ hx h) ho hn ht hl
  | sub l i k es n cl o cap h ho hn => exact .sub l i k es n cl o cap (cut_ρ hx h) ho hn
  | mapr l cl h => exact .mapr l cl (cut_ρ hx h)
  | undef V => exact .undef _
  | agg cs Vs hl h1 h2 => exact hx.elim
  | tup cs Vs hl h2 => exact hx.elim
  | iface t v V h => exact .iface t v V (h.flat hx _)
  | meth n t v V h => exact hx.elim
  | clo f cs Vs hl h2 =>
    have : cs = [] := hx
    subst this
    exact .clo f [] Vs hl (fun j x V hx => by cases hx)
  | _ => exact key rfl

theorem tupB_get {n : Nat} : ∀ {vs : List AV}, valB.tupB n vs → ∀ x ∈ vs, leafB n x ∨ ∃ cs, x = .agg cs ∧ cellsB n cs
  | [], _, x, hx => by cases hx
  | y :: r, h, x, hx => by
    cases y with
    | agg cs =>
      rcases List.mem_cons.1 hx with rfl | hx
      · exact .inr ⟨cs, rfl, h.1⟩
      · exact tupB_get h.2 x hx
    | _ =>
      rcases List.mem_cons.1 hx with rfl | hx
      · exact .inl h.1
      · exact tupB_get h.2 x hx

theorem Rel.cutA {n : Nat} {c : Cx} {cs : List AV} {X : Value} (h : Rel c (.agg cs) X) (hx : cellsB n cs) : Rel (cutCx n c) (.agg cs) X := by
  cases h with
  | agg cs Vs hl h1 h2 => exact .agg cs Vs hl h1 (fun j x V hj hV => (h2 j x V hj hV).cutL (cellsB_mem hx x (List.mem_of_getElem? hj)))

theorem Rel.cut {n : Nat} {c : Cx} {x : AV} {X : Value} (h : Rel c x X) (hx : valB n x) : Rel (cutCx n c) x X := by
  cases x with
  | agg cs => exact h.cutA hx
  | clo f cs =>
    cases h with
    | clo f cs Vs hl h2 => exact .clo f cs Vs hl (fun j x V hj hV => (h2 j x V hj hV).cutL (cellsB_mem hx x (List.mem_of_getElem? hj)))
  | tup vs =>
    cases h with
    | tup cs Vs hl h2 =>
      refine .tup vs Vs hl (fun j x V hj hV => ?_)
      rcases tupB_get hx x (List.mem_of_getElem? hj) with h3 | ⟨cs, rfl, h3⟩
      · exact (h2 j x V hj hV).cutL h3
      · exact (h2 j _ V hj hV).cutA h3
  | _ => exact h.cutL hx

theorem RowsAt.cut {n : Nat} {c : Cx} {cells : Array Value} {base sz : Nat} {rows : List (List AV)} (h : RowsAt c cells base sz rows) (hr : rowsB n rows) : RowsAt (cutCx n c) cells base sz rows :=
  fun i r hi => ⟨(h i r hi).1, fun j x hx => let ⟨V, h1, h2, h3⟩ := (h i r hi).2 j x hx; ⟨V, h1, h2, h3.cutL (cellsB_mem (rowsB_mem hr r (List.mem_of_getElem? hi)) x (List.mem_of_getElem? hx))⟩⟩

theorem ObjAt.cut {n : Nat} {c : Cx} {l : Nat} {o : VO} (h : ObjAt c l o) (hl : l < n) (ho : objB n o) : ObjAt (cutCx n c) l o := by
  cases o with
  | arr T sz rows =>
    obtain ⟨cl, cells, h1, h2, h3, h4, h5, h6, h7⟩ := h
    exact ⟨cl, cells, cut_ρ hl h1, h2, h3, h4, h5, h6, h7.cut ho⟩
  | frz sz rows =>
    obtain ⟨h0, cl, cells, T, fr, h1, h2, h3, h4, h5, h6⟩ := h
    refine ⟨h0, cl, cells, T, fr, cut_ρ hl h1, h2, h3, h4, h5, fun i r hi => ⟨(h6 i r hi).1, fun j x hx => ?_⟩⟩
    obtain ⟨V, v1, v2, v3⟩ := (h6 i r hi).2 j x hx
    exact ⟨V, v1, v2, v3.val (cutI n c) (List.all_eq_true.1 (List.all_eq_true.1 h0 r (List.mem_of_getElem? hi)) x (List.mem_of_getElem? hx))⟩
  | one T cs =>
    obtain ⟨cl, cells, h1, h2, h3, h4, h5, h6, h7, h8, h9⟩ := h
    exact ⟨cl, cells, cut_ρ hl h1, h2, h3, h4, h5, h6, h7.cut ⟨ho, trivial⟩, h8, h9⟩
  | map es =>
    obtain ⟨cl, ms, h1, h2, h3, h4, h5, h6⟩ := h
    exact ⟨cl, ms, cut_ρ hl h1, h2, h3, h4, h5, fun j e he => let ⟨V, a, b⟩ := h6 j e he; ⟨V, a, b.cutL (ho e (List.mem_of_getElem? he))⟩⟩
  | iter m k seen =>
    obtain ⟨cl, cm, h1, h2, h3, h4, h5, h6⟩ := h
    exact ⟨cl, cm, cut_ρ hl h1, h2, cut_ρ ho h3, h4, h5, h6⟩
  | dead => trivial

theorem live_app {H g : Hp} {l : Nat} (h : live H l) : live (H ++ g) l := by
  obtain ⟨o, h1, h2⟩ := h
  exact ⟨o, by rw [List.getElem?_append_left (List.getElem?_eq_some_iff.1 h1).1]; exact h1, h2⟩

theorem Sim.cut {c : Cx} {H g : Hp} (s : Sim c (H ++ g)) (hB : heapB H.length H) : Sim (cutCx H.length c) H := by
  refine ⟨s.bound, s.boundB, fun l o h => ?_, fun l l' cl cl' h1 h2 e1 e2 e => ?_, fun l hl => by simp [cutCx]; omega⟩
  · have hl := (List.getElem?_eq_some_iff.1 h).1
    exact (s.obj l o (by rw [List.getElem?_append_left hl]; exact h)).cut hl (heapB_mem hB o (List.mem_of_getElem? h))
  · obtain ⟨o, ho, _⟩ := h1
    obtain ⟨o', ho', _⟩ := h2
    have hl := (List.getElem?_eq_some_iff.1 ho).1
    have hl' := (List.getElem?_eq_some_iff.1 ho').1
    simp only [cutCx, hl, hl', if_true] at e1 e2
    exact s.inj l l' cl cl' (live_app ⟨o, ho, by assumption⟩) (live_app ⟨o', ho', by assumption⟩) e1 e2 e

theorem Fo.cut {n : Nat} {c : Cx} {H g : Hp} (s : Sim c (H ++ g)) (hn : n ≤ H.length) (hB : heapB H.length H) : Fo n c (H ++ g) (cutCx H.length c) H where
  I _ h := h
  heap _ _ := rfl
  ρ l cl hl h := cut_ρ (Nat.lt_of_lt_of_le hl hn) h
  size := Nat.le_refl _
  frame _ _ _ := rfl
  inew _ h := .inl h
  beq _ := Iff.rfl
  own l cl h := .inl (by simp only [cutCx] at h; split at h <;> first | exact h | cases h)
  os := rfl
  tape := rfl
  output := rfl
  sim := s.cut hB
  len := hn
  liv l _ h := live_app h
  back b _ h := by
    obtain ⟨l, cl, h1, h2, h3⟩ := h
    refine ⟨l, cl, live_app h1, ?_, h3⟩
    simp only [cutCx] at h2
    split at h2 <;> first | exact h2 | cases h2

theorem EnvR.cut {n : Nat} {c : Cx} {env : List AV} {tmps : Array Value} (h : EnvR c env tmps) (hB : envB n env) : EnvR (cutCx n c) env tmps :=
  ⟨h.1, fun t x V hx hV => (h.2 t x V hx hV).cut (envB_mem hB x (List.mem_of_getElem? hx))⟩
theorem GOK.cut {n : Nat} {c : Cx} {G : Glob} (h : GOK c G) : GOK (cutCx n c) G := fun g cs hg => (h g cs hg).val (cutI n c) rfl

/-! ### Objects under other names -/
def ren0 (σ : List Nat) : AV → Option AV
  | .ptr l i k => (σ[l]?).map (.ptr · i k)
  | .row t l i n => (σ[l]?).map (.row t · i n)
  | .sub l i k es n => (σ[l]?).map (.sub · i k es n)
  | .mapr l => (σ[l]?).map .mapr
  | .agg _ | .tup _ | .meth .. => none
  | .iface t v => if flat v = true then some (.iface t v) else none
  | .clo f cs => if cs = [] then some (.clo f []) else none
  | x => some x
def ren1 (σ : List Nat) : AV → Option AV
  | .agg cs => (mapL (ren0 σ) cs).map .agg
  | .clo f cs => (mapL (ren0 σ) cs).map (.clo f)
  | x => ren0 σ x
def renO (σ : List Nat) : VO → Option VO
  | .arr T sz rows => (mapL (mapL (ren0 σ)) rows).map (.arr T sz)
  | .one T cs => (mapL (ren0 σ) cs).map (.one T)
  | .map es => (mapL (fun e : Int × AV => (ren0 σ e.2).map fun x => (e.1, x)) es).map .map
  | .dead => some .dead
  | _ => none
/-- The slots of the second under other names in the first; some forgotten. -/
def RenE (σ : List Nat) : List AV → List AV → Prop
  | [], [] => True
  | y :: r, x :: s => (y = .undef ∨ ren1 σ y = some x) ∧ RenE σ r s
  | _, _ => False
def RenH (σ : List Nat) (H2 : Hp) : List Nat → Hp → Prop
  | [], [] => True
  | l :: s, o :: r => (o = .dead ∨ ∃ o', H2[l]? = some o' ∧ renO σ o = some o') ∧ RenH σ H2 s r
  | _, _ => False

theorem RenH.get {σ : List Nat} {H2 : Hp} : ∀ {s : List Nat} {H : Hp}, RenH σ H2 s H → s.length = H.length ∧ ∀ (j : Nat) (o : VO), H[j]? = some o → ∃ l, s[j]? = some l ∧ (o = .dead ∨ ∃ o', H2[l]? = some o' ∧ renO σ o = some o')
  | [], [], _ => ⟨rfl, fun j o h => by cases h⟩
  | l :: s, o :: r, h => by
    obtain ⟨h2, h3⟩ := h
    obtain ⟨i1, i2⟩ := h3.get
    refine ⟨by simp [i1], fun j o2 ho => ?_⟩
    cases j with
    | zero => simp at ho; subst ho; exact ⟨l, rfl, h2⟩
    | succ j => simpa using i2 j o2 (by simpa using ho)
  | [], _ :: _, h => h.elim
  | _ :: _, [], h => h.elim

theorem RenE.get {σ : List Nat} : ∀ {e e2 : List AV}, RenE σ e e2 → e.length = e2.length ∧ ∀ (t : Nat) (y : AV), e[t]? = some y → y = .undef ∨ ∃ x, e2[t]? = some x ∧ ren1 σ y = some x
  | [], [], _ => ⟨rfl, fun t y h => by cases h⟩
  | x :: r, y :: s, ⟨h1, h2⟩ => by
    obtain ⟨i1, i2⟩ := h2.get
    refine ⟨by simp [i1], fun t z hz => ?_⟩
    cases t with
    | zero =>
      simp at hz
      subst hz
      rcases h1 with h1 | h1
      · exact .inl h1
      · exact .inr ⟨y, rfl, h1⟩
    | succ t => simpa using i2 t z (by simpa using hz)
  | [], _ :: _, h => h.elim
  | _ :: _, [], h => h.elim

/-- The context with the objects' new names. -/
noncomputable def renCx (n : Nat) (σ : List Nat) (H : Hp) (c : Cx) : Cx :=
  open Classical in { c with ρ := fun l => if l < n ∨ live H l then (σ[l]?).bind c.ρ else none }

section
variable {n : Nat} {σ : List Nat} {H H2 : Hp} {c : Cx}
theorem ren_I : MonoI c (renCx n σ H c) := ⟨fun _ h => h, fun _ _ => rfl⟩

/-- The names below n, and those of the objects that live. -/
def Named (n : Nat) (H : Hp) (l : Nat) : Prop := l < n ∨ live H l
theorem ren_ρ {l l' : Nat} {cl : CL} (hl : Named n H l) (hσ : σ[l]? = some l') (h : c.ρ l' = some cl) : (renCx n σ H c).ρ l = some cl := by
  unfold Named at hl
  simp only [renCx]
  rw [if_pos hl, hσ]
  exact h

theorem map_eq_some' {α β : Type} {o : Option α} {f : α → β} {y : β} (h : o.map f = some y) : ∃ a, o = some a ∧ f a = y := by
  cases o with
  | none => cases h
  | some a => exact ⟨a, rfl, by simpa using h⟩

/-- A value that names dead objects says nothing: it must be forgotten. So: all names in it are named. -/
def leafN (n : Nat) (H : Hp) : AV → Prop
  | .ptr l _ _ | .row _ l _ _ | .sub l _ _ _ _ | .mapr l => Named n H l
  | _ => True

theorem Rel.ren0 {y x : AV} {X : Value} (h : Rel c x X) (hr : ren0 σ y = some x) (hN : leafN n H y) : Rel (renCx n σ H c) y X := by
  have key : x.isLent = true → Rel (renCx n σ H c) x X := fun hx => Rel.lentSame (c := c) (c' := renCx n σ H c) (fun _ h => h) (fun _ h => h) rfl h hx
  cases y with
  | ptr l i k =>
    obtain ⟨l', h1, h2⟩ := map_eq_some' hr
    subst h2
    cases h with
    | ptr _ _ _ cl h => exact .ptr l i k cl (ren_ρ hN h1 h)
  | row t l i m =>
    obtain ⟨l', h1, h2⟩ := map_eq_some' hr
    subst h2
    cases h with
    | row _ _ _ _ cl o cap h ho hn ht hl => exact .row t l i m cl o cap (ren_ρ hN h1 h) ho hn ht hl
  | sub l i k es m =>
    obtain ⟨l', h1, h2⟩ := map_eq_some' hr
    subst h2
    cases h with
    | sub _ _ _ _ _ cl o cap h ho hn => exact .sub l i k es m cl o cap (ren_ρ hN h1 h) ho hn
  | mapr l =>
    obtain ⟨l', h1, h2⟩ := map_eq_some' hr
    subst h2
    cases h with
    | mapr _ cl h => exact .mapr l cl (ren_ρ hN h1 h)
  | agg cs => cases hr
  | tup cs => cases hr
  | iface t v =>
    simp only [Go.Vi.ren0] at hr
    split at hr
    · rename_i hf
      cases hr
      cases h with
      | iface _ _ V h => exact .iface t v V (h.flat hf _)
    · cases hr
  | meth n t v => cases hr
  | undef => exact .undef _
  | clo f cs =>
    simp only [Go.Vi.ren0] at hr
    split at hr
    · rename_i e; subst e; cases hr; exact key rfl
    · cases hr
  | _ => cases hr; exact key rfl

def cellsN (n : Nat) (H : Hp) (cs : List AV) : Prop := ∀ x ∈ cs, leafN n H x
def valN (n : Nat) (H : Hp) : AV → Prop
  | .agg cs | .clo _ cs => cellsN n H cs
  | x => leafN n H x
def objN (n : Nat) (H : Hp) : VO → Prop
  | .arr _ _ rows => ∀ r ∈ rows, cellsN n H r
  | .one _ cs => cellsN n H cs
  | .map es => ∀ e ∈ es, leafN n H e.2
  | _ => True

theorem RowsAt.ren {cells : Array Value} {base sz : Nat} {rows rows' : List (List AV)} (h : RowsAt c cells base sz rows') (hr : mapL (mapL (Go.Vi.ren0 σ)) rows = some rows') (hN : ∀ r ∈ rows, cellsN n H r) : RowsAt (renCx n σ H c) cells base sz rows := by
  intro i r hi
  obtain ⟨l1, l2⟩ := mapL_get hr
  have hlt : i < rows'.length := by rw [l1]; exact (List.getElem?_eq_some_iff.1 hi).1
  obtain ⟨r0, hr0, hm⟩ := l2 i _ (List.getElem?_eq_getElem hlt)
  rw [hi] at hr0
  cases hr0
  obtain ⟨m1, m2⟩ := mapL_get hm
  obtain ⟨g1, g2⟩ := h i _ (List.getElem?_eq_getElem hlt)
  refine ⟨by rw [← m1]; exact g1, fun j x hx => ?_⟩
  have hj : j < (rows'[i]).length := by rw [m1]; exact (List.getElem?_eq_some_iff.1 hx).1
  obtain ⟨x0, hx0, hrx⟩ := m2 j _ (List.getElem?_eq_getElem hj)
  rw [hx] at hx0
  cases hx0
  obtain ⟨V, v1, v2, v3⟩ := g2 j _ (List.getElem?_eq_getElem hj)
  exact ⟨V, v1, v2, v3.ren0 hrx (hN r (List.mem_of_getElem? hi) x (List.mem_of_getElem? hx))⟩

theorem objAt_ren {l l' : Nat} {o o' : VO} (h : ObjAt c l' o') (hσ : σ[l]? = some l') (hl : Named n H l) (hr : renO σ o = some o') (hN : objN n H o) : ObjAt (renCx n σ H c) l o := by
  cases o with
  | arr T sz rows =>
    obtain ⟨rows', h1, h2⟩ := map_eq_some' hr
    subst h2
    obtain ⟨cl, cells, h1', h2, h3, h4, h5, h6, h7⟩ := h
    exact ⟨cl, cells, ren_ρ hl hσ h1', h2, h3, h4, h5, h6, h7.ren h1 hN⟩
  | one T cs =>
    obtain ⟨cs', h1, h2⟩ := map_eq_some' hr
    subst h2
    obtain ⟨cl, cells, h1', h2, h3, h4, h5, h6, h7, h8, h9⟩ := h
    have hlen := (mapL_get h1).1
    refine ⟨cl, cells, ren_ρ hl hσ h1', by rw [← hlen]; exact h2, h3, h4, h5, h6, ?_, h8, by rw [← hlen]; exact h9⟩
    rw [← hlen]
    exact h7.ren (rows := [cs]) (by simp [mapL, h1]) (fun r hr => by simp at hr; subst hr; exact hN)
  | dead => trivial
  | map es =>
    obtain ⟨es', h1, h2⟩ := map_eq_some' hr
    subst h2
    obtain ⟨cl, ms, g1, g2, g3, g4, g5, g6⟩ := h
    obtain ⟨m1, m2⟩ := mapL_get h1
    refine ⟨cl, ms, ren_ρ hl hσ g1, by rw [← m1]; exact g2, g3, g4, by rw [← m1]; exact g5, fun j e he => ?_⟩
    have hj : j < es'.length := by rw [m1]; exact (List.getElem?_eq_some_iff.1 he).1
    obtain ⟨e0, he0, hre⟩ := m2 j _ (List.getElem?_eq_getElem hj)
    rw [he] at he0
    cases he0
    obtain ⟨x, hx, hxe⟩ := map_eq_some' hre
    obtain ⟨V, v1, v2⟩ := g6 j _ (List.getElem?_eq_getElem hj)
    rw [← hxe] at v1 v2
    exact ⟨V, v1, v2.ren0 hx (hN e (List.mem_of_getElem? he))⟩
  | frz sz rows => cases hr
  | iter m k seen => cases hr

theorem ren_live {o o' : VO} (h : renO σ o = some o') (hl : o.live = true) : o'.live = true := by
  cases o with
  | arr T sz rows => obtain ⟨rows', h1, h2⟩ := map_eq_some' h; subst h2; rfl
  | one T cs => obtain ⟨rows', h1, h2⟩ := map_eq_some' h; subst h2; rfl
  | dead => cases hl
  | map es => obtain ⟨rows', h1, h2⟩ := map_eq_some' h; subst h2; rfl
  | frz sz rows => cases h
  | iter m k seen => cases h

/-- What it takes to give the objects other names: the canonical state first. -/
structure Renames (n : Nat) (σ : List Nat) (H H2 : Hp) : Prop where
  nd : σ.Nodup
  low : ∀ l, l < n → σ[l]? = some l
  obj : RenH σ H2 σ H
  named : ∀ o ∈ H, objN n H o
  len : n ≤ H.length

theorem Renames.live (r : Renames n σ H H2) {l : Nat} (h : live H l) : ∃ l', σ[l]? = some l' ∧ Vi.live H2 l' := by
  obtain ⟨o, ho, hv⟩ := h
  obtain ⟨l', h1, h3⟩ := r.obj.get.2 l o ho
  rcases h3 with rfl | ⟨o', h2, h3⟩
  · cases hv
  · exact ⟨l', h1, o', h2, ren_live h3 hv⟩

theorem Renames.sim (r : Renames n σ H H2) (s : Sim c H2) : Sim (renCx n σ H c) H := by
  refine ⟨s.bound, s.boundB, fun l o h => ?_, fun l l' cl cl' h1 h2 e1 e2 e => ?_, fun l hl => ?_⟩
  · obtain ⟨l', h1, h3⟩ := r.obj.get.2 l o h
    by_cases hd : o = .dead
    · subst hd; trivial
    obtain ⟨o', h2, h3⟩ := h3.resolve_left hd
    have hlv : o.live = true := by cases o <;> first | rfl | exact absurd rfl hd | cases h3
    exact objAt_ren (s.obj l' o' h2) h1 (.inr ⟨o, h, hlv⟩) h3 (r.named o (List.mem_of_getElem? h))
  · obtain ⟨k, hk, hvk⟩ := r.live h1
    obtain ⟨k', hk', hvk'⟩ := r.live h2
    simp only [renCx] at e1 e2
    rw [if_pos (.inr h1), hk] at e1
    rw [if_pos (.inr h2), hk'] at e2
    have := s.inj k k' cl cl' hvk hvk' e1 e2 e
    subst this
    have ha := (List.getElem?_eq_some_iff.1 hk)
    have hb := (List.getElem?_eq_some_iff.1 hk')
    obtain ⟨ha1, ha2⟩ := ha
    obtain ⟨hb1, hb2⟩ := hb
    exact (List.getElem_inj r.nd).1 (ha2.trans hb2.symm)
  · simp only [renCx]
    have : σ[l]? = none := List.getElem?_eq_none (by rw [r.obj.get.1]; exact hl)
    rw [this]
    split <;> rfl

theorem Fo.ren (r : Renames n σ H H2) (s : Sim c H2) : Fo n c H2 (renCx n σ H c) H where
  I _ h := h
  heap _ _ := rfl
  ρ l cl hl h := ren_ρ (.inl hl) (r.low l hl) h
  size := Nat.le_refl _
  frame _ _ _ := rfl
  inew _ h := .inl h
  beq _ := Iff.rfl
  own l cl h := by
    simp only [renCx] at h
    split at h
    · rename_i hN
      rcases hN with hl | hv
      · rw [r.low l hl] at h; exact .inl h
      · obtain ⟨l', h1, h2⟩ := r.live hv
        rw [h1] at h
        exact .inr (.inr ⟨l', cl, h2, h, rfl⟩)
    · cases h
  os := rfl
  tape := rfl
  output := rfl
  sim := r.sim s
  len := r.len
  liv l hl h := by
    obtain ⟨l', h1, h2⟩ := r.live h
    rw [r.low l hl] at h1
    cases h1
    exact h2
  back b _ h := by
    obtain ⟨l, cl, h1, h2, h3⟩ := h
    obtain ⟨l', h4, h5⟩ := r.live h1
    simp only [renCx] at h2
    rw [if_pos (.inr h1), h4] at h2
    exact ⟨l', cl, h5, h2, h3⟩

theorem Rel.ren1 {y x : AV} {X : Value} (h : Rel c x X) (hr : Go.Vi.ren1 σ y = some x) (hN : valN n H y) : Rel (renCx n σ H c) y X := by
  cases y with
  | agg cs =>
    obtain ⟨cs', h1, h2⟩ := map_eq_some' hr
    subst h2
    obtain ⟨m1, m2⟩ := mapL_get h1
    cases h with
    | agg _ Vs hl g1 g2 =>
      refine .agg cs Vs (by omega) g1 (fun j y V hy hV => ?_)
      have hj : j < cs'.length := by rw [m1]; exact (List.getElem?_eq_some_iff.1 hy).1
      obtain ⟨y0, hy0, hr0⟩ := m2 j _ (List.getElem?_eq_getElem hj)
      rw [hy] at hy0
      cases hy0
      exact (g2 j _ V (List.getElem?_eq_getElem hj) hV).ren0 hr0 (hN y (List.mem_of_getElem? hy))
  | clo f cs =>
    obtain ⟨cs', h1, h2⟩ := map_eq_some' hr
    subst h2
    obtain ⟨m1, m2⟩ := mapL_get h1
    cases h with
    | clo _ _ Vs hl g2 =>
      refine .clo f cs Vs (by omega) (fun j y V hy hV => ?_)
      have hj : j < cs'.length := by rw [m1]; exact (List.getElem?_eq_some_iff.1 hy).1
      obtain ⟨y0, hy0, hr0⟩ := m2 j _ (List.getElem?_eq_getElem hj)
      rw [hy] at hy0
      cases hy0
      exact (g2 j _ V (List.getElem?_eq_getElem hj) hV).ren0 hr0 (hN y (List.mem_of_getElem? hy))
  | _ => exact h.ren0 hr hN

theorem EnvR.ren {env env2 : List AV} {tmps : Array Value} (h : EnvR c env2 tmps) (he : RenE σ env env2) (hN : ∀ y ∈ env, valN n H y) : EnvR (renCx n σ H c) env tmps := by
  obtain ⟨e1, e2⟩ := he.get
  refine ⟨e1.trans h.1, fun t y V hy hV => ?_⟩
  rcases e2 t y hy with rfl | ⟨x, hx, hr⟩
  · exact .undef V
  · exact (h.2 t x V hx hV).ren1 hr (hN y (List.mem_of_getElem? hy))
theorem GOK.ren {G : Glob} (h : GOK c G) : GOK (renCx n σ H c) G := fun g cs hg => (h g cs hg).val ren_I rfl
end

/-- What holds behind, on the machine's side. -/
def Post (n : Nat) (c : Cx) (H : Hp) (Q : Exit → List AV → Hp → Prop) : Exit → Act → World → Prop :=
  fun e a' w' => ∃ env' H' c', w' = c'.w ∧ Fo n c H c' H' ∧ EnvR c' env' a'.tmps ∧ a'.defers = [] ∧ Q e env' H'

theorem Post.transF {n : Nat} {c c1 : Cx} {H H1 : Hp} (t : Fo n c H c1 H1) {Q : Exit → List AV → Hp → Prop} {e : Exit} {a : Act} {w : World} (h : Post n c1 H1 Q e a w) : Post n c H Q e a w := by
  obtain ⟨env', H', c', h1, h2, h3⟩ := h
  exact ⟨env', H', c', h1, t.trans h2, h3⟩
theorem Post.trans {n : Nat} {c c1 : Cx} {H H1 : Hp} (s : Sim c H) (hn : n ≤ H.length) (t : To c H c1 H1) {Q : Exit → List AV → Hp → Prop} {e : Exit} {a : Act} {w : World} (h : Post n c1 H1 Q e a w) : Post n c H Q e a w :=
  h.transF (Fo.of_to s hn t)
theorem GOK.fo {n : Nat} {c c' : Cx} {H H' : Hp} {G : Glob} (h : GOK c G) (t : Fo n c H c' H') : GOK c' G := fun g cs hg => (h g cs hg).val ⟨t.I, fun b hb => t.heap b (.inl hb)⟩ rfl

theorem wpOps_mono {P : Program} {ops : Array Oper} {Q Q' : Exit → Act → World → Prop} (hq : ∀ e a w, Q e a w → Q' e a w) : ∀ (l : List Nat) (a : Act) (w : World), wpOps P ops Q l a w → wpOps P ops Q' l a w
  | [], a, w, h => hq _ _ _ h
  | i :: r, a, w, h => by
    have ih := wpOps_mono (P := P) (ops := ops) hq r
    have lo : LetsOut Q → LetsOut Q' := fun ⟨a, w, h⟩ => ⟨a, w, hq _ _ _ h⟩
    simp only [wpOps] at h ⊢
    cases ho : ops[i]? with
    | none => rw [ho] at h; exact ih _ _ h
    | some o =>
      rw [ho] at h
      simp only at h ⊢
      by_cases hw : Region.wanted o (yielded ops a.tmps) = true
      · rw [if_pos hw] at h ⊢
        rcases h with h | ⟨h1, h2⟩
        · refine .inl ?_
          unfold Oper.wp at h ⊢
          generalize (execOp a.eval o).run P w = res at h ⊢
          cases res with
          | ok x w' =>
            cases x <;> first
              | exact ih _ _ h
              | (refine Calls.mono h ?_
                 intro e w'' he
                 cases e with
                 | returned v => exact ih _ _ he
                 | panicked ch => exact hq _ _ _ he
                 | outgrown => exact lo he)
              | exact Rows.mono h (fun v w'' hv => ih _ _ hv)
              | exact h.elim
          | halt x w' =>
            cases x <;> first
              | exact hq _ _ _ h
              | exact h.elim
        · exact .inr ⟨h1, lo h2⟩
      · rw [if_neg hw] at h ⊢
        exact ih _ _ h

theorem vseq_sound {n : Nat} {P : Program} {md : Oper → Md} {G : Glob} {ops : Array Oper} {Q : Exit → List AV → Hp → Prop} : ∀ (l : List Nat) (env : List AV) (H : Hp), vseq (XS P G) P md G ops l env H (Q .normal) →
    ∀ (c : Cx) (a : Act), Sim c H → n ≤ H.length → GOK c G → EnvR c env a.tmps → a.defers = [] → wpOps P ops (Post n c H Q) l a c.w
  | [], env, H, h, c, a, s, hn, hg, he, hd => by
    obtain ⟨e1, hw, h⟩ := h
    exact ⟨e1, H, c, rfl, Fo.of_to s hn (To.refl s), he.wk hw, hd, h⟩
  | i :: r, env0, H, h, c, a, s, hn, hg, he, hd => by
    simp only [vseq] at h
    obtain ⟨env, hw, h⟩ := h
    replace he := he.wk hw
    simp only [wpOps]
    cases ho : ops[i]? with
    | none => rw [ho] at h; exact h.elim
    | some o =>
      rw [ho] at h
      simp only at h ⊢
      cases hw : wantedV o.guard ops env with
      | none => rw [hw] at h; exact h.elim
      | some b =>
        rw [hw] at h
        have hwm := wanted_sound he hw
        cases b with
        | true =>
          simp only [hwm, if_true]
          refine .inl (vop_sound h s hg he fun v H' c' V t hR hk => ?_)
          have := vseq_sound r _ H' hk c' (a.put o.dst V) t.sim (Nat.le_trans hn t.len) (hg.mono t.ext.mono) ((EnvR.mono t.ext.mono he).put hR o.dst) ((put_defers a o.dst V).trans hd)
          exact wpOps_mono (fun e a w hp => hp.trans s hn t) r _ _ this
        | false =>
          simp only [hwm, Bool.false_eq_true, if_false]
          exact vseq_sound r _ H h c _ s hn hg (he.put (undef_rel c) o.dst) ((put_defers a o.dst _).trans hd)
end Go.Vi
