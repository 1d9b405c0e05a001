/- Vi, part D: stores, new variables, addresses of fields and elements. -/
import Derived.Test.YtecjobmgphdjoaaGreatViC
set_option autoImplicit false
namespace Go.Vi

theorem mul_lt_row {i i' sz j : Nat} (h : i' < i) (hj : j < sz) : i' * sz + j < i * sz := by
  have := Nat.mul_le_mul_right sz (show i' + 1 ≤ i by omega)
  rw [Nat.add_mul, Nat.one_mul] at this
  omega

/-- One row's cells are written. -/
theorem RowsAt.put {c : Cx} {cells cells' : Array Value} {base sz i k : Nat} {rows : List (List AV)} {r cs : List AV} {vs : List Value} (h : RowsAt c cells base sz rows) (hr : rows[i]? = some r)
    (hk : k + cs.length ≤ r.length) (hlen : vs.length = cs.length) (hvs : ∀ (j : Nat) (x : AV), cs[j]? = some x → ∃ V, vs[j]? = some V ∧ V.oneCell' = true ∧ Rel c x V)
    (hc : ∀ j, cells'[j]? = if base + i * sz + k ≤ j ∧ j < base + i * sz + k + vs.length then vs[j - (base + i * sz + k)]? else cells[j]?) :
    RowsAt c cells' base sz (rows.set i (setC r k cs)) := by
  intro i' r' hr'
  have hrl := (h i r hr).1
  have hi : i < rows.length := (List.getElem?_eq_some_iff.1 hr).1
  by_cases e : i' = i
  · subst e
    rw [List.getElem?_set_self hi] at hr'
    cases hr'
    refine ⟨by rw [setC_length hk, hrl], fun j x hx => ?_⟩
    rw [setC_get hk] at hx
    split at hx
    · rename_i hj
      obtain ⟨V, h1, h2, h3⟩ := hvs _ x hx
      refine ⟨V, ?_, h2, h3⟩
      rw [hc, if_pos (by omega), ← h1]
      congr 1
      omega
    · rename_i hj
      obtain ⟨V, h1, h2, h3⟩ := (h i' r hr).2 j x hx
      exact ⟨V, by rw [hc, if_neg (by omega)]; exact h1, h2, h3⟩
  · rw [List.getElem?_set_ne (Ne.symm e)] at hr'
    refine ⟨(h i' r' hr').1, fun j x hx => ?_⟩
    obtain ⟨V, h1, h2, h3⟩ := (h i' r' hr').2 j x hx
    refine ⟨V, ?_, h2, h3⟩
    have hj : j < sz := by rw [← (h i' r' hr').1]; exact (List.getElem?_eq_some_iff.1 hx).1
    rw [hc, if_neg]
    · exact h1
    · rcases Nat.lt_or_gt_of_ne e with e | e
      · have := mul_lt_row e hj
        omega
      · have := Nat.mul_le_mul_right sz (show i + 1 ≤ i' from e)
        rw [Nat.add_mul, Nat.one_mul] at this
        omega

theorem RowsAt.lim {c : Cx} {cells : Array Value} {base sz i : Nat} {rows : List (List AV)} {r : List AV} (h : RowsAt c cells base sz rows) (hr : rows[i]? = some r) {j : Nat} (hj : j < sz) : base + i * sz + j < cells.size := by
  have hl := (h i r hr).1
  obtain ⟨V, h1, _⟩ := (h i r hr).2 j r[j] (List.getElem?_eq_getElem (by omega))
  exact (Array.getElem?_eq_some_iff.1 h1).1

theorem store_sound {P : Program} {c : Cx} {H H' : Hp} (s : Sim c H) {t : TypeId} {p x : AV} {V X : Value} (hV : Rel c p V) (hX : Rel c x X) (h : vstore P H t p x = some H') :
    ∃ c', (Instr.storeAt t V X).run P c.w = .ok () c'.w ∧ To c H c' H' := by
  unfold vstore at h
  split at h
  · rename_i l i k
    split at h
    · rename_i T r hl
      split at h
      · rename_i cs n hcs hn
        split at h
        · rename_i hcond
          obtain ⟨hlen, hk, hn0, hi⟩ := hcond
          subst hi
          cases h
          have hr : [r][0]? = some r := rfl
          cases hV with
          | ptr _ _ _ cl hρ =>
            obtain ⟨cl', cells, e1, e2, e3, e4, e5, e6, e7, e8, e9⟩ := s.obj l _ hl
            rw [hρ] at e1
            cases e1
            rw [← e2] at e7
            obtain ⟨hXs, hXc⟩ := hX.cells hcs
            have hrl := (e7 0 r hr).1
            have hlim : cl.base + 0 * cl.sz + k + X.cells.toList.length ≤ cells.size := by
              simp only [Array.length_toList]
              have := RowsAt.lim e7 hr (show k + X.cells.size - 1 < cl.sz by omega)
              omega
            have hone : ∀ v ∈ X.cells.toList, v.oneCell' = true := fun v hv => by
              obtain ⟨j, hj, rfl⟩ := List.getElem_of_mem hv
              have hj' : j < X.cells.size := by simpa using hj
              obtain ⟨U, u1, u2, _⟩ := hXc j cs[j] (List.getElem?_eq_getElem (by omega))
              rw [Array.getElem?_eq_getElem hj'] at u1
              cases u1
              simpa using u2
            obtain ⟨w', cells', hrun, f1, f2, f3, f4, f5, f6, f7, f8⟩ := run_put (P := P) e3 hlim hone
            have hsl : (setC r k cs).length = r.length := setC_length (by omega)
            refine ⟨{ c with w := w' }, ?_, To.write s ⟨_, hl, rfl⟩ hρ _ f4 f5 f6 f7 f8 (fun m => ⟨cl, cells', hρ, by rw [hsl]; exact e2, f1, f2.trans e4, e5, e6, ?_, e8, by rw [hsl]; exact e9⟩)⟩
            · have hsz : X.cells.size = n := by omega
              have e0 : cl.base + 0 * cl.sz + k = cl.base + k := by simp
              rw [e0] at hrun
              simp [Instr.storeAt, Instr.sureAddr, storeVar, run_sz hn, hsz, hrun]
            · have := RowsAt.put (cells' := cells') (cs := cs) (k := k) (vs := X.cells.toList) (e7.mono m) hr (by omega) (by simp; omega) (fun j y hy => by
                obtain ⟨U, u1, u2, u3⟩ := hXc j y hy
                exact ⟨U, by simpa using u1, u2, u3.mono m⟩) f3
              rw [hsl, ← e2]
              exact this
        · cases h
      · cases h
    · rename_i T sz rows hl
      split at h
      · rename_i r cs n hr hcs hn
        split at h
        · rename_i hcond
          obtain ⟨hlen, hk, hn0⟩ := hcond
          cases h
          cases hV with
          | ptr _ _ _ cl hρ =>
            obtain ⟨cl', cells, e1, e2, e3, e4, e5, e6, e7⟩ := s.obj l _ hl
            rw [hρ] at e1
            cases e1
            subst e2
            obtain ⟨hXs, hXc⟩ := hX.cells hcs
            have hrl := (e7 i r hr).1
            have hlim : cl.base + i * cl.sz + k + X.cells.toList.length ≤ cells.size := by
              simp only [Array.length_toList]
              have := RowsAt.lim e7 hr (show k + X.cells.size - 1 < cl.sz by omega)
              omega
            have hone : ∀ v ∈ X.cells.toList, v.oneCell' = true := fun v hv => by
              obtain ⟨j, hj, rfl⟩ := List.getElem_of_mem hv
              have hj' : j < X.cells.size := by simpa using hj
              obtain ⟨U, u1, u2, _⟩ := hXc j cs[j] (List.getElem?_eq_getElem (by omega))
              rw [Array.getElem?_eq_getElem hj'] at u1
              cases u1
              simpa using u2
            obtain ⟨w', cells', hrun, f1, f2, f3, f4, f5, f6, f7, f8⟩ := run_put (P := P) e3 hlim hone
            refine ⟨{ c with w := w' }, ?_, To.write s ⟨_, hl, rfl⟩ hρ _ f4 f5 f6 f7 f8 (fun m => ⟨cl, cells', hρ, rfl, f1, f2.trans e4, e5, e6, ?_⟩)⟩
            · have hsz : X.cells.size = n := by omega
              simp [Instr.storeAt, Instr.sureAddr, storeVar, run_sz hn, hsz, hrun]
            · refine RowsAt.put (e7.mono m) hr (by omega) (by simp; omega) (fun j y hy => ?_) f3
              obtain ⟨U, u1, u2, u3⟩ := hXc j y hy
              exact ⟨U, by simpa using u1, u2, u3.mono m⟩
        · cases h
      · cases h
    · cases h
  · cases h
end Go.Vi
