/- Vi, part V: from a call's meaning to the row. -/
import Derived.Test.YtodhknjjjhmpfaaGreatViU
import Derived.ProofKit
set_option autoImplicit false
set_option linter.unusedVariables false
set_option linter.unusedSimpArgs false
namespace Go.Vi
open Go.RowKit Go.ChangeShapes

section
variable {H : Type} {enc : TypeId × Value → H} {P : Program}

theorem To.below {w : World} {c' : Cx} {H' : Hp} (t : To (allCx w) [] c' H') : Below w.heap.size w c'.w :=
  ⟨t.ext.os, t.ext.tape, t.ext.output, t.ext.size, fun k hk => t.ext.frame k hk (fun ⟨l, cl, ⟨o, h, _⟩, _⟩ => by simp at h)⟩

theorem Below.trodAll {W W' : World} (hl : laidOutB P = true) (hb : Below W.heap.size W W') : ∀ {ts : List TypeId} {vs : List Value} {ds : List (DataW H)} {ps : List MemPlace}, (∀ t ∈ ts, P.readableRec t = true ∧ t < P.types.size) → (∀ x ∈ ps, x.block < W.heap.size) →
    DataW.TrodAll enc P W 0 (fun _ => true) true ts vs ds ps → DataW.TrodAll enc P W' 0 (fun b => decide (b < W.heap.size)) true ts vs ds ps
  | [], vs, ds, ps, hr, hlt, h => by
    obtain ⟨rfl, rfl, rfl⟩ := trodAll_nil h
    exact rfl
  | t :: ts, vs, ds, ps, hr, hlt, h => by
    obtain ⟨v, vs', d, ds', p, q, rfl, rfl, rfl, h1, h2⟩ := trodAll_cons h
    exact ⟨p, q, Below.trod hl (hr t (by simp)).1 (hr t (by simp)).2 h1 hb (fun x hx => hlt x (by simp [hx])), Below.trodAll hl hb (fun t ht => hr t (by simp [ht])) (fun x hx => hlt x (by simp [hx])) h2, rfl⟩

/-- A law: it is true, and its arguments read as they did. -/
theorem post_law {f : Func} {s : ChangeSpec} {apart fresh handsOn : Bool} {W W' : World} {args : Array Value} {ds gs : List (DataW H)} {before : List MemPlace} {tb : TypeId}
    (hW : DataW.Whole enc P f.params.toList s.vars apart W args.toList ds gs before) (hvars : s.vars = []) (hfn : s.fn H (ds ++ gs) = { results := [.lit (.bool true)], args := ds })
    (hl : laidOutB P = true) (hr : ∀ t ∈ f.params.toList, P.readableRec t = true ∧ t < P.types.size) (hres : f.resultTypes = #[tb]) (hbool : P.underlying tb = some .bool) (hb : Below W.heap.size W W') :
    s.post enc P f apart fresh handsOn false W args (.bool true) W' := by
  have hlt := hW.lt
  have hW' := hW
  obtain ⟨p, q, h1, h2, rfl, _⟩ := hW
  refine ⟨ds, gs, p ++ q, [], p, [], hW', ?_, ?_, ?_, hb.frame _, fun h => by cases h⟩
  · rw [hfn, hres]
    exact trodAll_mk1 (shut_bool hbool true)
  · rw [hfn]
    exact Below.trodAll hl hb hr (fun x hx => hlt x (by simp [hx])) h1
  · rw [hfn, hvars]
    exact rfl

/-- An argument as an abstract value. -/
def argOf (P : Program) (t : TypeId) (xs : List AV) : Option AV :=
  match P.underlying t with
  | some (.struct _) | some (.array _ _) => some (.agg xs)
  | _ => match xs with
    | [x] => some x
    | _ => none

/-- What an argument is. -/
def ArgIs (P : Program) (F : Nat) (t : TypeId) (a : AV) : Prop := ∃ f xs, F ≤ f ∧ Shp P f t xs ∧ argOf P t xs = some a ∧ xs.all AV.isVal = true

theorem arg_bridge {W : World} {F base : Nat} {t : TypeId} {v : Value} {d : DataW H} {p : List MemPlace} {sp : Nat → Bool} {held : Bool} (hp : ∀ f, F ≤ f → plainT P f t = true) (hok : Value.okWide P W .any base t v) (h : DataW.Trod enc P W 0 sp held t v d p) :
    ∃ a, ArgIs P F t a ∧ Rel (allCx W) a v := by
  obtain ⟨f, h⟩ := h
  have h' := DataW.trod_le (Nat.le_max_left f F) h
  obtain ⟨xs, x1, x2⟩ := bridge (max f F) t _ _ (hp _ (Nat.le_max_right f F)) h'
  have hval : xs.all AV.isVal = true := List.all_eq_true.2 fun x hx => by
    obtain ⟨j, hj⟩ := List.mem_iff_getElem?.1 hx
    have hlt : j < v.cells.toList.length := by rw [← x1.1]; exact (List.getElem?_eq_some_iff.1 hj).1
    exact (x1.2 j x _ hj (List.getElem?_eq_getElem hlt)).2.1
  have hagg : (∃ cs, v = .agg cs) → Rel (allCx W) (.agg xs) v := by
    rintro ⟨cs, rfl⟩
    refine .agg xs cs (by simpa [Value.cells] using x1.1) (fun j V hV => ?_) (fun j x V hx hV => (x1.2 j x V hx (by simpa [Value.cells] using hV)).1)
    have hj : j < xs.length := by rw [x1.1]; simpa [Value.cells] using (Array.getElem?_eq_some_iff.1 hV).1
    exact (x1.2 j _ V (List.getElem?_eq_getElem hj) (by simpa [Value.cells] using hV)).2.2
  have hone : ∀ x, xs = [x] → (∀ cs, v ≠ .agg cs) → Rel (allCx W) x v := by
    intro x hx hne
    subst hx
    have hc : v.cells = #[v] := by cases v <;> first | rfl | exact absurd rfl (hne _)
    exact (x1.2 0 x v rfl (by rw [hc]; rfl)).1
  have hf := hp (max f F) (Nat.le_max_right f F)
  unfold Value.okWide at hok
  have x2' := x2
  cases hm : max f F with
  | zero => rw [hm] at x2'; exact x2'.elim
  | succ m =>
    rw [hm] at x2'
    unfold Shp at x2'
    cases hu : P.underlying t with
    | none => rw [hu] at x2'; exact x2'.elim
    | some dd =>
      rw [hu] at x2' hok
      have leaf : ∀ x, xs = [x] → (argOf P t xs = some x) → (∀ cs, v ≠ .agg cs) → ∃ a, ArgIs P F t a ∧ Rel (allCx W) a v := fun x hx ha hne => ⟨x, ⟨max f F, xs, Nat.le_max_right _ _, x2, ha, hval⟩, hone x hx hne⟩
      have na : ∀ (T : Cell.okWide P W .any base t v), (∀ fs, dd ≠ .struct fs) → (∀ n e, dd ≠ .array n e) → dd ≠ .unsafePointer → ∀ cs, v ≠ .agg cs := by
        intro T _ _ _ cs e
        subst e
        unfold Cell.okWide at T
        rw [hu] at T
        cases dd <;> first
          | (simp [Cell.ok, hu] at T; done)
          | (exact T.elim)
      cases dd with
      | struct fs =>
        obtain ⟨cs, hv, _⟩ := hok
        exact ⟨.agg xs, ⟨max f F, xs, Nat.le_max_right _ _, x2, by simp [argOf, hu], hval⟩, hagg ⟨cs, hv⟩⟩
      | array n e =>
        obtain ⟨cs, hv, _⟩ := hok
        exact ⟨.agg xs, ⟨max f F, xs, Nat.le_max_right _ _, x2, by simp [argOf, hu], hval⟩, hagg ⟨cs, hv⟩⟩
      | bool =>
        obtain ⟨b, hb⟩ := x2'
        exact leaf _ hb (by simp [argOf, hu, hb]) (na hok (fun _ h => by cases h) (fun _ _ h => by cases h) (by simp))
      | int k =>
        obtain ⟨b, hb, _⟩ := x2'
        exact leaf _ hb (by simp [argOf, hu, hb]) (na hok (fun _ h => by cases h) (fun _ _ h => by cases h) (by simp))
      | string =>
        obtain ⟨b, hb, _⟩ := x2'
        exact leaf _ hb (by simp [argOf, hu, hb]) (na hok (fun _ h => by cases h) (fun _ _ h => by cases h) (by simp))
      | slice e =>
        rcases x2' with hb | ⟨rows, hb, _⟩
        · exact leaf _ hb (by simp [argOf, hu, hb]) (na hok (fun _ h => by cases h) (fun _ _ h => by cases h) (by simp))
        · exact leaf _ hb (by simp [argOf, hu, hb]) (na hok (fun _ h => by cases h) (fun _ _ h => by cases h) (by simp))
      | _ => exact x2'.elim

/-- A call of a law. -/
theorem law_calls {f : Nat} {W : World} {as : List AV} {Vs : List Value} (h : XS P (fun _ => none) f as [] fun r _ => r = .bool true) (hl : as.length = Vs.length) (hr : ∀ (j : Nat) (x : AV) (V : Value), as[j]? = some x → Vs[j]? = some V → Rel (allCx W) x V) :
    Calls P f Vs.toArray W fun e W' => e = .returned (.bool true) ∧ Below W.heap.size W W' := by
  refine (h (allCx W) Vs (allSim W) (fun g cs hg => by cases hg) hl hr).mono ?_
  rintro e w' ⟨r, H', c', V, rfl, rfl, t, hR, rfl⟩
  cases hR
  exact ⟨rfl, To.below t⟩
end
end Go.Vi
