/- tape.Open of an empty disk, as a known function. -/
import Derived.Test.YteejggadbifdbaaGreatNrO
set_option autoImplicit false
set_option linter.unusedVariables false
set_option maxRecDepth 100000
namespace Go.Vi
open Go Go.Proofs Go.RowKit Go.Shelf
/-- A new object, in a block that has come since. -/
theorem To.adopt {c : Cx} {H : Hp} (s : Sim c H) (o : VO) (ob : Obj) (cl : CL) {w' : World} (hW : Below c.w.heap.size c.w w') (hb : c.w.heap.size ≤ cl.blk) (hob : w'.heap[cl.blk]? = some ob)
    (ho : ∀ c' : Cx, Mono c c' → c'.ρ H.length = some cl → c'.w.heap[cl.blk]? = some ob → ¬ c'.I cl.blk → ¬ c'.B cl.blk → ObjAt c' H.length o) :
    To c H { c with w := w', ρ := updρ c.ρ H.length cl } (H ++ [o]) := by
  have hI : ¬ c.I cl.blk := fun h => by have := s.bound _ h; omega
  have hB : ¬ c.B cl.blk := fun h => by have := s.boundB _ h; omega
  have hρ : ∀ l, l < H.length → updρ c.ρ H.length cl l = c.ρ l := fun l h => by simp [updρ]; omega
  have m : Mono c { c with w := w', ρ := updρ c.ρ H.length cl } := by
    refine ⟨fun _ h => h, fun _ h => h, fun l cl' h => ?_, fun b h => ?_⟩
    · have : l ≠ H.length := fun e => by rw [e, s.fresh _ (Nat.le_refl _)] at h; cases h
      simp [updρ, this, h]
    · exact hW.block b (h.elim (s.bound b) (s.boundB b))
  have hsize : c.w.heap.size ≤ w'.heap.size := hW.size
  have lv : ∀ l, l < H.length → live (H ++ [o]) l → live H l := fun l hl ⟨o', h1, h2⟩ => ⟨o', by rwa [List.getElem?_append_left hl] at h1, h2⟩
  refine ⟨⟨m, hsize, fun b hlt _ => hW.block b hlt, fun _ h => .inl h, fun _ => Iff.rfl, fun l cl' h => ?_, hW.os, hW.tape, hW.output⟩, ⟨fun b h => ?_, fun b h => ?_, fun l o' h => ?_, fun l l' cl1 cl2 h1 h2 h3 h4 h5 => ?_, fun l h => ?_⟩, by simp, lv⟩
  · by_cases e : l = H.length
    · subst e
      simp [updρ] at h
      subst h
      exact .inr (.inl hb)
    · simp [updρ, e] at h
      exact .inl h
  · have := s.bound b h; show b < w'.heap.size; omega
  · have := s.boundB b h; show b < w'.heap.size; omega
  · by_cases hl : l < H.length
    · rw [List.getElem?_append_left hl] at h
      have h0 := s.obj l o' h
      refine h0.keep m (fun _ _ _ h => h) (fun _ h => h) (fun cl' hr hv => hW.block _ (s.lt (live_of h hv) hr))
    · have e : l = H.length := by
        have := (List.getElem?_eq_some_iff.1 h).1
        simp at this
        omega
      subst e
      simp at h
      subst h
      exact ho _ m (by simp [updρ]) hob hI hB
  · have old : ∀ l cl', l < H.length → live (H ++ [o]) l → updρ c.ρ H.length cl l = some cl' → live H l ∧ c.ρ l = some cl' ∧ cl'.blk < c.w.heap.size := fun l cl' hl hv hr => by
      rw [hρ l hl] at hr
      exact ⟨lv l hl hv, hr, s.lt (lv l hl hv) hr⟩
    have new : ∀ l cl', ¬ l < H.length → live (H ++ [o]) l → updρ c.ρ H.length cl l = some cl' → l = H.length ∧ cl' = cl := fun l cl' hl ⟨o', hv, _⟩ hr => by
      have e : l = H.length := by
        have := (List.getElem?_eq_some_iff.1 hv).1
        simp at this
        omega
      subst e
      simp [updρ] at hr
      exact ⟨rfl, hr.symm⟩
    by_cases hl : l < H.length <;> by_cases hl' : l' < H.length
    · obtain ⟨a1, a2, _⟩ := old l cl1 hl h1 h3
      obtain ⟨b1, b2, _⟩ := old l' cl2 hl' h2 h4
      exact s.inj l l' cl1 cl2 a1 b1 a2 b2 h5
    · obtain ⟨_, _, a3⟩ := old l cl1 hl h1 h3
      obtain ⟨_, rfl⟩ := new l' cl2 hl' h2 h4
      omega
    · obtain ⟨_, _, a3⟩ := old l' cl2 hl' h2 h4
      obtain ⟨_, rfl⟩ := new l cl1 hl h1 h3
      omega
    · rw [(new l cl1 hl h1 h3).1, (new l' cl2 hl' h2 h4).1]
  · simp at h
    have e : l ≠ H.length := by omega
    simp [updρ, e]
    exact s.fresh l (by omega)
def nilsB : AV → Bool
  | .nils => true
  | _ => false
theorem nilsB_ok {x : AV} (h : nilsB x = true) : x = .nils := by cases x <;> first | rfl | cases h
/-- A disk that holds nothing where the tape lies. -/
def emptyD (cs : List AV) : Bool := match cs[0]?, cs[3121]?, cs[3122]? with
  | some (AV.bool true), some AV.nils, some (AV.bool false) => ((cs.drop 121).take 3000).all nilsB
  | _, _, _ => false
theorem emptyD_ok {cs : List AV} (h : emptyD cs = true) : cs[0]? = some (AV.bool true) ∧ cs[3121]? = some AV.nils ∧ cs[3122]? = some (AV.bool false) ∧ ∀ k, 120 ≤ k → k < 3120 → cs[1 + k]? = some AV.nils := by
  unfold emptyD at h
  split at h
  · rename_i h0 h1 h2
    refine ⟨h0, h1, h2, fun k hk1 hk2 => ?_⟩
    have hlen := (List.getElem?_eq_some_iff.1 h2).1
    have hlt : 1 + k < cs.length := by omega
    rw [List.getElem?_eq_getElem hlt]
    congr 1
    refine nilsB_ok (List.all_eq_true.1 h _ ?_)
    refine List.mem_iff_getElem?.2 ⟨k - 120, ?_⟩
    rw [List.getElem?_take, if_pos (by omega), List.getElem?_drop, ← List.getElem?_eq_getElem hlt]
    congr 1
    omega
  · cases h
def openK (xs : List AV) (H : Hp) : Option (AV × Hp) := match xs with
  | [.ptr d 0 0] => match H[d]? with
    | some (.arr _ _ [cs]) => if emptyD cs = true then some (.tup [.ptr H.length 0 0, .int .i64 0], H ++ [.arr 153 4 [[.ptr d 0 0, .nils, .int .i64 0, .bool false]]]) else none
    | _ => none
  | _ => none
theorem open_ok (G : Glob) (xs : List AV) (H : Hp) (r : AV) (H' : Hp) (h : openK xs H = some (r, H')) : XS Tryz.prog G 42 xs H fun r1 H1 => r1 = r ∧ H1 = H' := by
  unfold openK at h
  split at h
  case h_2 => cases h
  rename_i d
  split at h
  case h_2 => cases h
  rename_i T sz cs hd
  split at h
  case isFalse => cases h
  rename_i hc
  cases h
  obtain ⟨q0, q1, q2, q3⟩ := emptyD_ok hc
  intro c Vs s hg hl hr
  match Vs, hl with
  | [V0], _ =>
    have r0 := hr 0 _ V0 rfl rfl
    cases r0 with
    | ptr _ _ _ cl hρ =>
      obtain ⟨cl', cells, e1, e2, e3, e4, e5, e6, e7⟩ := s.obj d _ hd
      rw [hρ] at e1
      cases e1
      have hlt : cl.blk < c.w.heap.size := (Array.getElem?_eq_some_iff.1 e3).1
      have at_ : ∀ (j : Nat) (x : AV), cs[j]? = some x → ∃ V, c.w.cell? ⟨cl.blk, cl.base + 0 * cl.sz + 0 + j, none⟩ = some V ∧ Rel c x V := fun j x hj => by
        obtain ⟨V, v1, v2, v3⟩ := (e7 0 cs rfl).2 j x hj
        exact ⟨V, by rw [cell_at e3, ← v1]; congr 1; subst e2; omega, v3⟩
      obtain ⟨A0, a1, a2⟩ := at_ 0 _ q0
      obtain ⟨B0, b1, b2⟩ := at_ 3121 _ q1
      obtain ⟨C0, c1, c2⟩ := at_ 3122 _ q2
      cases a2
      cases b2
      cases c2
      have hk : ∀ k, 120 ≤ k → k < 3120 → c.w.cell? ⟨cl.blk, cl.base + 0 * cl.sz + 0 + 1 + k, none⟩ = some (.slice none 0 0) := fun k hk1 hk2 => by
        obtain ⟨D0, d1, d2⟩ := at_ (1 + k) _ (q3 k hk1 hk2)
        cases d2
        rw [← d1]
        congr 2
        omega
      refine ((callsIn_wide (n := 8)).1 (Bw.open_in 8 (by omega) cl.blk (cl.base + 0 * cl.sz + 0) c.w hlt a1 b1 c1 hk)).mono ?_
      rintro e w' ⟨b, hb1, rfl, hb2, hB⟩
      have t := To.adopt s (.arr 153 4 [[.ptr d 0 0, .nils, .int .i64 0, .bool false]]) _ ⟨b, 0, 4, 4⟩ hB hb1 hb2 fun c' m hρ' hh hI hBB =>
        ⟨_, _, hρ', rfl, hh, rfl, hI, hBB, fun i r hri => by
          cases i with
          | succ i => simp at hri
          | zero =>
            simp at hri
            subst hri
            refine ⟨rfl, fun j x hx => ?_⟩
            match j, hx with
            | 0, hx => cases hx; exact ⟨_, rfl, rfl, by have := Rel.ptr (c := c') d 0 0 _ (m.ρ _ _ hρ); simpa using this⟩
            | 1, hx => cases hx; exact ⟨_, rfl, rfl, .nils⟩
            | 2, hx => cases hx; exact ⟨_, rfl, rfl, .int _ _⟩
            | 3, hx => cases hx; exact ⟨_, rfl, rfl, .bool _⟩
            | j + 4, hx => simp at hx⟩
      refine ⟨_, _, _, _, rfl, rfl, t, .tup _ _ rfl fun j x V hx hV => ?_, rfl, rfl⟩
      match j, hx, hV with
      | 0, hx, hV =>
        cases hx
        cases hV
        have := Rel.ptr (c := { c with w := w', ρ := updρ c.ρ H.length ⟨b, 0, 4, 4⟩ }) H.length 0 0 _ (updρ_self _ _ _)
        simpa using this
      | 1, hx, hV => cases hx; cases hV; exact .int _ _
      | j + 2, hx, hV => simp at hx
end Go.Vi
