/- Vi, part Fe: calls that are computed on trees. -/
import Derived.Test.YtecjobmgphdjoaaGreatViFd
set_option autoImplicit false
set_option linter.unusedVariables false
set_option linter.unusedSimpArgs false
namespace Go.Vi

/-- All calls and appends on this side's objects. -/
def mdA (o : Oper) : Md := .shr

noncomputable def fexec (P : Program) (e : Operand → Option AV) (h : HT) (o : Oper) : Option (AV × HT) :=
  match o.op with
  | .move x | .assign x => (e x).map (·, h)
  | .alloc t => (zrOf P t).bind (vboxT h t)
  | .box t x => (e x).bind (vboxT h t)
  | .buildSlice t len parts => match evP e parts.toList with
    | some ps => vbuildSliceT P h t len ps
    | none => none
  | .load t a => match e a with
    | some p => (vloadT P h t p).map (·, h)
    | none => none
  | .store t a x => match e a, e x with
    | some p, some v => (vstoreT P h t p v).map (.tup [], ·)
    | _, _ => none
  | .convert a b x => match e x with
    | some v => match vconvT P h a b v with
      | some r => some (r, h)
      | none => if a = b then vconvSameT P h a b v else none
    | none => none
  | .makeSlice t l c => match e l, e c with
    | some a, some b => vmakeT P h t a b
    | _, _ => none
  | .slice t x lo hi mx => match e x, evO e lo, evO e hi, evO e mx with
    | some v, some l, some hh, some m => (vsliceT P h t v l hh m).map (·, h)
    | _, _, _, _ => none
  | .indexAddr t x ix => match e x, e ix with
    | some v, some i => (vindexAddrT P h t v i).map (·, h)
    | _, _ => none
  | .makeMap _ r => if r.isNone = true then some (.mapr h.n, h.push (.map [])) else none
  | .lookup t x k ok => match e x, e k with
    | some a, some b => (vlookupT P h t a b ok).map (·, h)
    | _, _ => none
  | .mapUpdate t m k x => match e m, e k, e x with
    | some a, some b, some v => (vmapUpdateT P h t a b v).map (.tup [], ·)
    | _, _, _ => none
  | .range t x => match e x with
    | some a => vrangeT P h t a
    | none => none
  | .entry x => match e x with
    | some a => (ventryT h a).map (·, h)
    | none => none
  | .call { callee := .builtin b, args, argTypes } => match evL e args.toList, argTypes.toList with
    | some [x], [t] => match b with
      | .len => (vlenT P h t x).map (·, h)
      | .clear => if (P.underlying t).isSome = true then (vclearT P h t x).map (.tup [], ·) else none
      | .cap => (vcap P t x).map (·, h)
      | _ => none
    | some [x, y], [t, t2] => match b with
      | .append => vappT P h t t2 x y
      | .copy => vcopyT P h t x y
      | .max => (vmax2 true x y).map (·, h)
      | .min => (vmax2 false x y).map (·, h)
      | _ => none
    | _, _ => none
  | .pick .. | .build .. | .nilCheck .. | .binOp .. | .unOp .. | .fieldAddr .. | .field .. | .index .. | .extract .. | .makeFunc .. => (vexec P e [] o).map fun p => (p.1, h)
  | _ => none

theorem mdA_shf (o : Oper) : ¬ mdA o = .shf := fun h => by cases h
theorem mdA_iso (o : Oper) : ¬ mdA o = .iso := fun h => by cases h
theorem mdA_shr (o : Oper) : mdA o = .shr := rfl
theorem map_pair {α β γ : Type} {x : Option α} {f : α → β × γ} {v : β} {z : γ} (h : x.map f = some (v, z)) : ∃ a, x = some a ∧ f a = (v, z) := by
  cases x with
  | none => cases h
  | some a => exact ⟨a, rfl, by simpa using h⟩

theorem fexec_eq {P : Program} {e : Operand → Option AV} {h h' : HT} (k : h.ok) {o : Oper} {v : AV} (hv : fexec P e h o = some (v, h')) : h'.ok ∧ vexec2 P mdA e h.den o = some (v, h'.den) := by
  obtain ⟨dst, op, type, pos, after, guard⟩ := o
  have dflt : ∀ (z : Option AV) (w : AV), (z.map (·, ([] : Hp))).map (fun p => (p.1, h)) = some (w, h') → h'.ok ∧ z.map (·, h.den) = some (w, h'.den) := fun z w hz => by
    cases z with
    | none => cases hz
    | some a => simp only [Option.map_some, Option.some.injEq, Prod.mk.injEq] at hz; obtain ⟨rfl, rfl⟩ := hz; exact ⟨k, rfl⟩
  have same : ∀ (z : Option AV) (w : AV), z.map (·, h) = some (w, h') → h'.ok ∧ z = some w ∧ h' = h := fun z w hz => by
    cases z with
    | none => cases hz
    | some a => simp only [Option.map_some, Option.some.injEq, Prod.mk.injEq] at hz; obtain ⟨rfl, rfl⟩ := hz; exact ⟨k, rfl, rfl⟩
  cases op with
  | move x | assign x =>
    simp only [fexec] at hv
    obtain ⟨a, b, rfl⟩ := same _ _ hv
    refine ⟨a, ?_⟩
    simp only [vexec2, vexec, b]
    rfl
  | alloc t =>
    simp only [fexec] at hv
    obtain ⟨z, h1, h2⟩ := Option.bind_eq_some_iff.1 hv
    obtain ⟨a, b⟩ := vboxT_eq k h2
    refine ⟨a, ?_⟩
    simp only [vexec2]
    rw [if_neg (mdA_shf _)]
    unfold valloc
    rw [h1]
    exact b
  | box t x =>
    simp only [fexec] at hv
    obtain ⟨z, h1, h2⟩ := Option.bind_eq_some_iff.1 hv
    obtain ⟨a, b⟩ := vboxT_eq k h2
    refine ⟨a, ?_⟩
    simp only [vexec2, vexec, h1]
    exact b
  | buildSlice t len parts =>
    simp only [fexec] at hv
    split at hv
    · rename_i ps hp
      obtain ⟨a, b⟩ := vbuildSliceT_eq k hv
      refine ⟨a, ?_⟩
      simp only [vexec2, hp]
      rw [if_neg (mdA_iso _)]
      exact b
    · cases hv
  | load t x =>
    simp only [fexec] at hv
    split at hv
    · rename_i p hp
      obtain ⟨a, b, rfl⟩ := same _ _ hv
      refine ⟨a, ?_⟩
      simp only [vexec2, vexec, hp, vloadT_eq k b]
      rfl
    · cases hv
  | store t x y =>
    simp only [fexec] at hv
    split at hv
    · rename_i p q hp hq
      obtain ⟨h2, h3, h4⟩ := map_pair hv
      cases h4
      obtain ⟨a, b⟩ := vstoreT_eq k h3
      refine ⟨a, ?_⟩
      simp only [vexec2, vexec, hp, hq, b]
      rfl
    · cases hv
  | convert a b x =>
    simp only [fexec] at hv
    split at hv
    · rename_i y hy
      split at hv
      · rename_i r hr
        cases hv
        have he := vconvT_eq k hr
        have hx : vexec P e h.den { dst := dst, op := .convert a b x, type := type, pos := pos, after := after, guard := guard } = some (v, h.den) := by
          simp only [vexec, hy, he, orX]
          rfl
        refine ⟨k, ?_⟩
        simp only [vexec2]
        split
        · rw [hx]
        · exact hx
      · rename_i hr
        split at hv
        · rename_i hab
          obtain ⟨q1, q2⟩ := vconvSameT_eq k hv
          refine ⟨q1, ?_⟩
          have hx : vexec P e h.den { dst := dst, op := .convert a b x, type := type, pos := pos, after := after, guard := guard } = none := by
            subst hab
            unfold vconvSameT at hv
            split at hv
            · rename_i ee t l i n hu
              have hu2 : P.underlying a = some (.slice ee) := hu
              simp only [vexec, hy]
              have h1 : vconv P h.den a a (.row t l i n) = none := by
                unfold vconv
                simp only [hu2]
                unfold vconvInt
                simp only [hu2]
              have h2 : vconvX P h.den a a (.row t l i n) = none := rfl
              rw [h1, h2]
              rfl
            · cases hv
          simp only [vexec2]
          rw [if_pos hab, hx]
          simp only [hy]
          exact q2
        · cases hv
    · cases hv
  | makeSlice t l c =>
    simp only [fexec] at hv
    split at hv
    · rename_i p q hp hq
      obtain ⟨a, b⟩ := vmakeT_eq k hv
      refine ⟨a, ?_⟩
      simp only [vexec2, vexec, hp, hq]
      exact b
    · cases hv
  | slice t x lo hi mx =>
    simp only [fexec] at hv
    split at hv
    · rename_i p q r s hp hq hr hs
      obtain ⟨a, b, rfl⟩ := same _ _ hv
      refine ⟨a, ?_⟩
      simp only [vexec2, vexec, hp, hq, hr, hs, vsliceT_eq k b]
      rfl
    · cases hv
  | indexAddr t x ix =>
    simp only [fexec] at hv
    split at hv
    · rename_i p q hp hq
      obtain ⟨a, b, rfl⟩ := same _ _ hv
      refine ⟨a, ?_⟩
      simp only [vexec2, vexec, hp, hq, vindexAddrT_eq k b]
      rfl
    · cases hv
  | makeMap t r =>
    simp only [fexec] at hv
    split at hv
    · rename_i hr
      cases hv
      obtain ⟨f1, f2⟩ := k.push (o := .map []) trivial
      refine ⟨f1, ?_⟩
      simp only [vexec2, vmakeMap]
      rw [if_pos hr, f2, k.len]
      rfl
    · cases hv
  | lookup t x y b =>
    simp only [fexec] at hv
    split at hv
    · rename_i p q hp hq
      obtain ⟨a, b, rfl⟩ := same _ _ hv
      refine ⟨a, ?_⟩
      simp only [vexec2, hp, hq, vlookupT_eq k b]
      rfl
    · cases hv
  | mapUpdate t x y z =>
    simp only [fexec] at hv
    split at hv
    · rename_i p q r hp hq hr
      obtain ⟨h2, h3, h4⟩ := map_pair hv
      cases h4
      obtain ⟨a, b⟩ := vmapUpdateT_eq k h3
      refine ⟨a, ?_⟩
      simp only [vexec2, hp, hq, hr, b]
      rfl
    · cases hv
  | range t x =>
    simp only [fexec] at hv
    split at hv
    · rename_i p hp
      obtain ⟨a, b⟩ := vrangeT_eq k hv
      refine ⟨a, ?_⟩
      simp only [vexec2, hp]
      exact b
    · cases hv
  | entry x =>
    simp only [fexec] at hv
    split at hv
    · rename_i p hp
      obtain ⟨a, b, rfl⟩ := same _ _ hv
      refine ⟨a, ?_⟩
      simp only [vexec2, hp, ventryT_eq k b]
      rfl
    · cases hv
  | call c =>
    obtain ⟨callee, args, ts⟩ := c
    cases callee with
    | builtin b =>
      simp only [fexec] at hv
      split at hv
      · rename_i x t hx ht
        split at hv
        · obtain ⟨a, b, rfl⟩ := same _ _ hv
          refine ⟨a, ?_⟩
          have h0 : ts[0]? = some t := by rw [← Array.getElem?_toList, ht]; rfl
          simp only [vexec2, vexec, hx, vbuiltin, h0, vlenT_eq k b]
          rfl
        · split at hv
          · rename_i hu
            obtain ⟨h2, h3, h4⟩ := map_pair hv
            cases h4
            obtain ⟨a, b⟩ := vclearT_eq k h3
            refine ⟨a, ?_⟩
            simp only [vexec2, hx, ht]
            rw [if_pos hu, b]
            rfl
          · cases hv
        · obtain ⟨a, b, rfl⟩ := same _ _ hv
          refine ⟨a, ?_⟩
          simp only [vexec2, hx, ht, b]
          rfl
        · cases hv
      · rename_i x y t t2 hx ht
        split at hv
        · obtain ⟨a, b⟩ := vappT_eq k hv
          refine ⟨a, ?_⟩
          simp only [vexec2, hx, ht]
          rw [if_pos (mdA_shr _)]
          exact b
        · obtain ⟨a, b⟩ := vcopyT_eq k hv
          refine ⟨a, ?_⟩
          simp only [vexec2, vexec, hx, vbuiltin, ht]
          exact b
        · obtain ⟨a, b, rfl⟩ := same _ _ hv
          refine ⟨a, ?_⟩
          simp only [vexec2, vexec, hx, vbuiltin, b]
          rfl
        · obtain ⟨a, b, rfl⟩ := same _ _ hv
          refine ⟨a, ?_⟩
          simp only [vexec2, vexec, hx, vbuiltin, b]
          rfl
        · cases hv
      · cases hv
    | value f => cases hv
    | invoke a b => cases hv
  | pick a b d =>
    simp only [fexec, vexec2, vexec] at hv ⊢
    split at hv
    · exact dflt _ _ hv
    · exact dflt _ _ hv
    · cases hv
  | build t ps =>
    simp only [fexec, vexec2, vexec] at hv ⊢
    split at hv
    · exact dflt _ _ hv
    · cases hv
  | nilCheck x =>
    simp only [fexec, vexec2, vexec] at hv ⊢
    split at hv
    · split at hv
      · rename_i hn
        simp only [Option.map_some, Option.some.injEq, Prod.mk.injEq] at hv
        obtain ⟨rfl, rfl⟩ := hv
        exact ⟨k, by rw [if_pos hn]⟩
      · cases hv
    · cases hv
  | binOp a b x y d =>
    simp only [fexec, vexec2, vexec] at hv ⊢
    split at hv
    · exact dflt _ _ hv
    · cases hv
  | unOp a b x | fieldAddr a x b | field a x b | extract x a =>
    simp only [fexec, vexec2, vexec] at hv ⊢
    split at hv
    · exact dflt _ _ hv
    · cases hv
  | index d x y =>
    simp only [fexec, vexec2, vexec] at hv ⊢
    split at hv
    · exact dflt _ _ hv
    · cases hv
  | makeFunc f first captured =>
    simp only [fexec, vexec2] at hv ⊢
    cases f with
    | func g =>
      simp only [vexec] at hv ⊢
      split at hv
      · rename_i hf
        rw [if_pos hf]
        split at hv
        · simp only [Option.map_some, Option.some.injEq, Prod.mk.injEq] at hv
          obtain ⟨rfl, rfl⟩ := hv
          exact ⟨k, rfl⟩
        · cases hv
      · cases hv
    | _ => cases hv
  | _ => cases hv
end Go.Vi
