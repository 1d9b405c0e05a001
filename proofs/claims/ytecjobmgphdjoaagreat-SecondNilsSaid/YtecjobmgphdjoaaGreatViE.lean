/- Vi, part E: new variables; addresses of fields and elements; numbers, strings, tests. -/
import Derived.Test.YtecjobmgphdjoaaGreatViD
set_option autoImplicit false
set_option linter.unusedVariables false
set_option linter.unusedSimpArgs false
namespace Go.Vi

/-! ### New rows -/
theorem new_rows {c : Cx} {H : Hp} (s : Sim c H) {cells : Array Value} (T : TypeId) {sz : Nat} {rows : List (List AV)} (h : RowsAt c cells 0 sz rows) :
    To c H { c with w := c.w.alloc (.cells cells T), ρ := updρ c.ρ H.length ⟨c.w.heap.size, 0, sz, cells.size⟩ } (H ++ [.arr T sz rows]) :=
  To.new s _ _ _ rfl fun c' m hρ hh hI hB => ⟨_, cells, hρ, rfl, hh, rfl, hI, hB, h.mono m⟩

theorem rows_one {c : Cx} {x : AV} {V : Value} {cs : List AV} (h : Rel c x V) (hc : x.cells = some cs) : RowsAt c V.cells 0 cs.length [cs] := fun i r hr => by
  cases i with
  | succ i => simp at hr
  | zero =>
    simp at hr
    subst hr
    refine ⟨rfl, fun j y hy => ?_⟩
    obtain ⟨U, u1, u2, u3⟩ := (h.cells hc).2 j y hy
    exact ⟨U, by simpa using u1, u2, u3⟩

theorem updρ_self (ρ : Nat → Option CL) (l : Nat) (cl : CL) : updρ ρ l cl l = some cl := by simp [updρ]

def vbox (H : Hp) (t : TypeId) (x : AV) : Option (AV × Hp) :=
  match x.cells with
  | some cs => some (.ptr H.length 0 0, H ++ [.arr t cs.length [cs]])
  | none => none

/-- What a step yields. -/
def Yields (P : Program) (c : Cx) (H : Hp) (e : Sem Value) (v : AV) (H' : Hp) : Prop := ∃ V c', e.run P c.w = .ok V c'.w ∧ To c H c' H' ∧ Rel c' v V

theorem Yields.same {P : Program} {c : Cx} {H : Hp} (s : Sim c H) {e : Sem Value} {v : AV} {V : Value} (h : e.run P c.w = .ok V c.w) (hr : Rel c v V) : Yields P c H e v H := ⟨V, c, h, To.refl s, hr⟩

theorem newVar_sound {P : Program} {c : Cx} {H : Hp} (s : Sim c H) {t : TypeId} {x : AV} {X : Value} (hX : Rel c x X) {cs : List AV} (hc : x.cells = some cs) :
    Yields P c H (do pure (.pointer (some (← newVar t X)))) (.ptr H.length 0 0) (H ++ [.arr t cs.length [cs]]) := by
  refine ⟨.pointer (some ⟨c.w.heap.size, 0, none⟩), _, ?_, new_rows s t (rows_one hX hc), ?_⟩
  · simp [newVar, newRow, World.alloc_eq]
  · have := Rel.ptr (c := { c with w := c.w.alloc (.cells X.cells t), ρ := updρ c.ρ H.length ⟨c.w.heap.size, 0, cs.length, X.cells.size⟩ }) H.length 0 0 _ (updρ_self _ _ _)
    simpa using this

theorem box_sound {P : Program} {c : Cx} {H H' : Hp} (s : Sim c H) {t : TypeId} {x v : AV} {X : Value} (hX : Rel c x X) (h : vbox H t x = some (v, H')) : Yields P c H (Instr.box t X) v H' := by
  unfold vbox at h
  split at h
  · rename_i cs hc
    cases h
    exact newVar_sound s hX hc
  · cases h

def valloc (P : Program) (H : Hp) (t : TypeId) : Option (AV × Hp) := (zrOf P t).bind (vbox H t)

theorem alloc_sound {P : Program} {c : Cx} {H H' : Hp} (s : Sim c H) {t : TypeId} {v : AV} (h : valloc P H t = some (v, H')) : Yields P c H (Instr.alloc t true (.tuple #[])) v H' := by
  unfold valloc at h
  cases hz : zrOf P t with
  | none => rw [hz] at h; cases h
  | some z =>
    rw [hz] at h
    obtain ⟨Z, h1, h2⟩ := run_zr hz c.w
    obtain ⟨V, c', h3, h4, h5⟩ := box_sound (P := P) (t := t) s (h2 c) h
    refine ⟨V, c', ?_, h4, h5⟩
    simp only [Instr.alloc, Sem.run_bind, h1, Result.andThen_ok]
    exact h3

/-! ### Addresses -/
def fieldAt (P : Program) (s : TypeId) (f : Nat) : Option (Nat × TypeId × Nat) :=
  match P.underlying s with
  | some (.struct fields) => match fields[f]? with
    | some fd => match szOf P fd.type with
      | some n => some (fd.offset, fd.type, n)
      | none => none
    | none => none
  | _ => none

theorem fieldAt_of {P : Program} {s : TypeId} {f : Nat} {off : Nat} {ft : TypeId} {n : Nat} (h : fieldAt P s f = some (off, ft, n)) :
    ∃ fields fd, P.underlying s = some (.struct fields) ∧ fields[f]? = some fd ∧ fd.offset = off ∧ fd.type = ft ∧ szOf P ft = some n := by
  unfold fieldAt at h
  split at h
  · rename_i fields hu
    split at h
    · rename_i fd hf
      split at h
      · rename_i n' hn
        cases h
        exact ⟨fields, fd, hu, hf, rfl, rfl, hn⟩
      · cases h
    · cases h
  · cases h

def vfield (P : Program) (s : TypeId) (f : Nat) (x : AV) : Option AV :=
  match fieldAt P s f with
  | some (off, _, n) => if n = 0 then none else match x with
    | .ptr l i k => some (.ptr l i (k + off))
    | .iptr b cs => some (.iptr b (cs.drop off))
    | _ => none
  | none => none

theorem Rel.iptr_drop {c : Cx} {bo : Bool} {cs : List AV} {b o : Nat} (h : Rel c (.iptr bo cs) (.pointer (some ⟨b, o, none⟩))) (k : Nat) :
    Rel c (.iptr bo (cs.drop k)) (.pointer (some ⟨b, o + k, none⟩)) := by
  cases h with
  | iptr _ _ _ _ F hb hv h1 h2 =>
    refine .iptr bo _ b (o + k) (fun j => F (k + j)) (hb.imp (fun e => by rw [e]; simp) id) (fun x hx => hv x (List.mem_of_mem_drop hx)) (fun j hj => ?_) (fun j x hx => ?_)
    · rw [List.length_drop] at hj
      have := h1 (k + j) (by omega)
      rwa [← Nat.add_assoc] at this
    · rw [List.getElem?_drop] at hx
      exact h2 _ x hx

theorem field_sound {P : Program} {c : Cx} {s : TypeId} {f : Nat} {x v : AV} {X : Value} (hX : Rel c x X) (h : vfield P s f x = some v) :
    ∃ V, (Instr.fieldAt s X f).run P c.w = .ok V c.w ∧ Rel c v V := by
  unfold vfield at h
  split at h
  · rename_i off ft n hf
    obtain ⟨fields, fd, hu, hfd, ho, ht, hn⟩ := fieldAt_of hf
    split at h
    · cases h
    · rename_i hn0
      have run : ∀ b o, (Instr.fieldAt s (.pointer (some ⟨b, o, none⟩)) f).run P c.w = .ok (.pointer (some ⟨b, o + off, none⟩)) c.w := fun b o => by
        subst ho; subst ht
        simp [Instr.fieldAt, run_un hu, hfd, Instr.sureAddr, fieldPlace, run_sz hn, hn0, add_spot]
      split at h
      · rename_i l i k
        cases h
        cases hX with
        | ptr _ _ _ cl hρ => exact ⟨_, run _ _, by have := Rel.ptr l i (k + off) cl hρ; rwa [← Nat.add_assoc] at this⟩
      · rename_i bo cs
        cases h
        cases hX with
        | iptr _ _ b o F hb hv h1 h2 => exact ⟨_, run _ _, (Rel.iptr bo cs b o F hb hv h1 h2).iptr_drop off⟩
      · cases h
  · cases h

def lenOk (sz : Nat) (rows : List (List AV)) : Bool := rows.all fun r => r.length == sz

/-- The element's type and its cells, of a slice or an array type. -/
def elemAt (P : Program) (t : TypeId) : Option (Option Nat × TypeId × Nat) :=
  match P.underlying t with
  | some (.slice e) => (szOf P e).map fun n => (none, e, n)
  | some (.array len e) => (szOf P e).map fun n => (some len, e, n)
  | _ => none

theorem elemAt_of {P : Program} {t : TypeId} {a : Option Nat} {e : TypeId} {n : Nat} (h : elemAt P t = some (a, e, n)) :
    szOf P e = some n ∧ ((a = none ∧ P.underlying t = some (.slice e)) ∨ ∃ len, a = some len ∧ P.underlying t = some (.array len e)) := by
  unfold elemAt at h
  split at h
  · rename_i e' hu
    cases hs : szOf P e' with
    | none => rw [hs] at h; cases h
    | some m => rw [hs] at h; cases h; exact ⟨hs, .inl ⟨rfl, hu⟩⟩
  · rename_i len e' hu
    cases hs : szOf P e' with
    | none => rw [hs] at h; cases h
    | some m => rw [hs] at h; cases h; exact ⟨hs, .inr ⟨len, rfl, hu⟩⟩
  · cases h

def vindexAddr (P : Program) (H : Hp) (t : TypeId) (x ix : AV) : Option AV :=
  match elemAt P t, ix with
  | some (none, _, sz), .int _ n => match x with
    | .list tg rows => if 0 ≤ n ∧ n < rows.length then match rows[n.toNat]? with
        | some r => if r.length = sz then some (.iptr (tg == .bor) r) else none
        | none => none
      else none
    | .row _ l i m => if 0 ≤ n ∧ n < m then match H[l]? with
        | some (.arr _ sz' _) | some (.frz sz' _) => if sz' = sz then some (.ptr l (i + n.toNat) 0) else none
        | _ => none
      else none
    | .sub l i k es m => if 0 ≤ n ∧ n < m ∧ es = sz then some (.ptr l i (k + n.toNat * es)) else none
    | _ => none
  | some (some len, _, sz), .int _ n => if 0 ≤ n ∧ n < len then match x with
    | .ptr l i k => some (.ptr l i (k + n.toNat * sz))
    | .iptr b cs => some (.iptr b (cs.drop (n.toNat * sz)))
    | _ => none
    else none
  | _, _ => none

theorem obj_sz {c : Cx} {H : Hp} (s : Sim c H) {l sz : Nat} {rows : List (List AV)} {cl : CL} (h : (∃ T, H[l]? = some (.arr T sz rows)) ∨ H[l]? = some (.frz sz rows)) (hρ : c.ρ l = some cl) : cl.sz = sz := by
  rcases h with ⟨T, h⟩ | h
  · obtain ⟨cl', _, e1, e2, _⟩ := s.obj l _ h
    rw [hρ] at e1; cases e1; exact e2
  · obtain ⟨_, cl', _, _, _, e1, e2, _⟩ := s.obj l _ h
    rw [hρ] at e1; cases e1; exact e2

theorem Rel.list_elem {c : Cx} {tg : Tg} {rows : List (List AV)} {b o len cap sz : Nat} (h : Rel c (.list tg rows) (.slice (some ⟨b, o, none⟩) len cap)) {n : Nat} {r : List AV} (hr : rows[n]? = some r) (hsz : r.length = sz) :
    len = rows.length ∧ Rel c (.iptr (tg == .bor) r) (.pointer (some ⟨b, o + n * sz, none⟩)) := by
  cases h with
  | list _ _ _ _ sz' _ _ hsp F hb hc ht hs hv h1 h2 =>
    have hm := List.mem_of_getElem? hr
    have hs' : sz' = sz := (hs r hm).symm.trans hsz
    subst hs'
    have hn := (List.getElem?_eq_some_iff.1 hr).1
    refine ⟨rfl, .iptr _ r b _ (F n) (hb.elim (fun e => by subst e; cases hr) (fun h => .inr ?_)) (fun x hx => List.all_eq_true.1 (List.all_eq_true.1 hv r hm) x hx) (fun j hj => h1 n j hn (by omega)) (fun j x hx => h2 n r j x hr hx)⟩
    cases tg <;> exact h

theorem indexAddr_sound {P : Program} {c : Cx} {H : Hp} (s : Sim c H) {t : TypeId} {x ix v : AV} {X IX : Value} (hX : Rel c x X) (hI : Rel c ix IX) (h : vindexAddr P H t x ix = some v) :
    ∃ V, (Instr.indexAt t X IX).run P c.w = .ok V c.w ∧ Rel c v V := by
  unfold vindexAddr at h
  split at h
  · rename_i e sz k n he
    obtain ⟨hsz, hu⟩ := elemAt_of he
    simp only [true_and, reduceCtorEq, false_and, exists_false, or_false] at hu
    cases hI
    have run : ∀ (b o len cap : Nat), 0 ≤ n → n < (len : Int) → (Instr.indexAt t (.slice (some ⟨b, o, none⟩) len cap) (.int k n)).run P c.w = .ok (.pointer (some ⟨b, o + n.toNat * sz, none⟩)) c.w := fun b o len cap h0 h1 => by
      simp [Instr.indexAt, asIntOf, run_un hu, h0, h1, run_sz hsz, add_spot]
    split at h
    · rename_i tg rows
      split at h
      · rename_i hb
        split at h
        · rename_i r hr
          split at h
          · rename_i hl
            cases h
            have hX' := hX
            cases hX with
            | list _ _ b o sz' cap sp hsp F hb' hc ht hs hv h1 h2 =>
              obtain rfl := hsp.resolve_left (fun e => by subst e; cases hr)
              exact ⟨_, run b o _ cap hb.1 hb.2, (hX'.list_elem hr hl).2⟩
          · cases h
        · cases h
      · cases h
    · rename_i tt l i m
      split at h
      · rename_i hb
        cases hX with
        | row _ _ _ _ cl o cap hρ ho hn ht hl =>
          have fin : ∀ sz', cl.sz = sz' → (if sz' = sz then some (AV.ptr l (i + n.toNat) 0) else none) = some v → ∃ V, (Instr.indexAt t (.slice (some ⟨cl.blk, o, none⟩) m cap) (.int k n)).run P c.w = .ok V c.w ∧ Rel c v V := by
            intro sz' e h
            split at h
            · rename_i e2
              cases h
              subst e2
              have hcap : cap ≠ 0 := by omega
              have ho' : o = cl.base + i * cl.sz := ho
              refine ⟨_, run _ _ _ _ hb.1 hb.2, ?_⟩
              have := Rel.ptr l (i + n.toNat) 0 cl hρ
              rw [Nat.add_mul] at this
              rw [ho', ← e]
              simpa [Nat.add_assoc] using this
            · cases h
          split at h
          · rename_i T sz' rows hobj
            exact fin sz' (obj_sz s (.inl ⟨T, hobj⟩) hρ) h
          · rename_i sz' rows hobj
            exact fin sz' (obj_sz s (.inr hobj) hρ) h
          · cases h
      · cases h
    · rename_i l i k2 es m
      split at h
      · rename_i hb
        cases h
        cases hX with
        | sub _ _ _ _ _ cl o cap hρ ho hn =>
          obtain ⟨b0, b1, rfl⟩ := hb
          have ho' := ho.resolve_right (by omega)
          refine ⟨_, run _ _ _ _ b0 b1, ?_⟩
          have := Rel.ptr l i (k2 + n.toNat * es) cl hρ
          rw [ho']
          simpa [Nat.add_assoc] using this
      · cases h
    · cases h
  · rename_i len e sz k n he
    obtain ⟨hsz, hu⟩ := elemAt_of he
    obtain ⟨len', hl', hu⟩ := hu.resolve_left (fun h => by cases h.1)
    cases hl'
    cases hI
    split at h
    · rename_i hb
      have run : ∀ b o, (Instr.indexAt t (.pointer (some ⟨b, o, none⟩)) (.int k n)).run P c.w = .ok (.pointer (some ⟨b, o + n.toNat * sz, none⟩)) c.w := fun b o => by
        simp [Instr.indexAt, asIntOf, run_un hu, Instr.sureAddr, hb.1, hb.2, run_sz hsz, add_spot]
      split at h
      · rename_i l i k2
        cases h
        cases hX with
        | ptr _ _ _ cl hρ => exact ⟨_, run _ _, by have := Rel.ptr l i (k2 + n.toNat * sz) cl hρ; rwa [← Nat.add_assoc] at this⟩
      · rename_i bo cs
        cases h
        cases hX with
        | iptr _ _ b o F hb hv h1 h2 => exact ⟨_, run _ _, (Rel.iptr bo cs b o F hb hv h1 h2).iptr_drop _⟩
      · cases h
    · cases h
  · cases h

/-! ### Parts of values -/
def vpart (P : Program) (t : TypeId) (cs : List AV) (off : Nat) : Option AV := ldCells P t (cs.drop off)

theorem part_sound {P : Program} {c : Cx} {t : TypeId} {cs : List AV} {Vs : Array Value} {off : Nat} {v : AV} (h : Rel c (.agg cs) (.agg Vs)) (hv : vpart P t cs off = some v) (w : World) :
    ∃ V, (part t Vs off).run P w = .ok V w ∧ Rel c v V := by
  cases h with
  | agg _ _ hl h1 h2 =>
    unfold vpart ldCells at hv
    split at hv
    · rename_i n ha hn
      split at hv
      · rename_i hle
        cases hv
        rw [List.length_drop] at hle
        refine ⟨.agg (Vs.extract off (off + n)), by simp [part, run_agg ha, run_sz hn], .agg _ _ (by simp; omega) (fun j V hV => ?_) (fun j x V hx hV => ?_)⟩
        · rw [Array.getElem?_extract] at hV
          split at hV
          · exact h1 _ V hV
          · cases hV
        · rw [Array.getElem?_extract] at hV
          split at hV
          · rw [List.getElem?_take] at hx
            split at hx
            · rw [List.getElem?_drop] at hx
              exact h2 _ x V hx hV
            · cases hx
          · cases hV
      · cases hv
    · rename_i ha
      rw [List.getElem?_drop] at hv
      have hj := (List.getElem?_eq_some_iff.1 hv).1
      have hV : Vs[off]? = some Vs[off] := Array.getElem?_eq_getElem (by omega)
      refine ⟨Vs[off], by simp [part, run_agg ha, hV], h2 off v _ (by simpa using hv) hV⟩
    · cases hv

def vfieldOf (P : Program) (t : TypeId) (f : Nat) (x : AV) : Option AV :=
  match fieldAt P t f, x with
  | some (off, ft, _), .agg cs => vpart P ft cs off
  | _, _ => none

theorem fieldOf_sound {P : Program} {c : Cx} {t : TypeId} {f : Nat} {x v : AV} {X : Value} (hX : Rel c x X) (h : vfieldOf P t f x = some v) : ∃ V, (Instr.field t X f).run P c.w = .ok V c.w ∧ Rel c v V := by
  unfold vfieldOf at h
  split at h
  · rename_i off ft n cs hf
    obtain ⟨fields, fd, hu, hfd, ho, ht, hn⟩ := fieldAt_of hf
    subst ho; subst ht
    have hX' := hX
    cases hX with
    | agg _ Vs hl h1 h2 =>
      obtain ⟨V, hr, hV⟩ := part_sound hX' h c.w
      exact ⟨V, by simp [Instr.field, run_un hu, hfd, asAgg, hr], hV⟩
  · cases h

def vindex (P : Program) (t : TypeId) (x ix : AV) : Option AV :=
  match x, ix with
  | .str s, .int _ n => match P.underlying t with
    | some .string => if 0 ≤ n then match s[n.toNat]? with
        | some b => some (.int .u8 b.toNat)
        | none => none
      else none
    | _ => none
  | .agg cs, .int _ n => match elemAt P t with
    | some (some len, e, sz) => if 0 ≤ n ∧ n < len then vpart P e cs (n.toNat * sz) else none
    | _ => none
  | _, _ => none

theorem index_sound {P : Program} {c : Cx} {t : TypeId} {x ix v : AV} {X IX : Value} (hX : Rel c x X) (hI : Rel c ix IX) (h : vindex P t x ix = some v) : ∃ V, (Instr.index t X IX).run P c.w = .ok V c.w ∧ Rel c v V := by
  unfold vindex at h
  split at h
  · rename_i s k n
    cases hX
    cases hI
    split at h
    · rename_i hu
      split at h
      · rename_i h0
        split at h
        · rename_i b hb
          cases h
          exact ⟨_, by simp [Instr.index, asIntOf, run_un hu, h0, hb], .int _ _⟩
        · cases h
      · cases h
    · cases h
  · rename_i cs k n
    cases hI
    split at h
    · rename_i len e sz he
      obtain ⟨hsz, hu⟩ := elemAt_of he
      obtain ⟨len', hl', hu⟩ := hu.resolve_left (fun h => by cases h.1)
      cases hl'
      split at h
      · rename_i hb
        have hX' := hX
        cases hX with
        | agg _ Vs hl h1 h2 =>
          obtain ⟨V, hr, hV⟩ := part_sound hX' h c.w
          exact ⟨V, by simp [Instr.index, asIntOf, run_un hu, hb.1, hb.2, run_sz hsz, hr], hV⟩
      · cases h
    · cases h
  · cases h

def vextract (x : AV) (i : Nat) : Option AV :=
  match x with
  | .tup vs => vs[i]?
  | _ => none

theorem extract_sound {P : Program} {c : Cx} {x v : AV} {X : Value} {i : Nat} (hX : Rel c x X) (h : vextract x i = some v) : ∃ V, (Instr.extract X i).run P c.w = .ok V c.w ∧ Rel c v V := by
  unfold vextract at h
  split at h
  · cases hX with
    | tup cs Vs hl h2 =>
      have hj := (List.getElem?_eq_some_iff.1 h).1
      have hV : Vs[i]? = some Vs[i] := Array.getElem?_eq_getElem (by omega)
      exact ⟨_, by simp [Instr.extract, hV], h2 i v _ h hV⟩
  · cases h
end Go.Vi
