/- Vi, part X: slices that are built and never written. -/
import Derived.Test.YtodhknjjjhmpfaaGreatViM
set_option autoImplicit false
set_option linter.unusedVariables false
set_option linter.unusedSimpArgs false
namespace Go.Vi

def vbuildList (P : Program) (t : TypeId) (len : Nat) (ps : List (Nat × AV)) : Option AV :=
  match elemAt P t with
  | some (none, e, sz) => match zcOf P e with
    | some zc => if zc.length = sz ∧ sz ≠ 0 ∧ len * sz ≤ 2 ^ 24 then match vfillRows sz (List.replicate len zc) ps with
        | some rows => if allVal rows = true ∧ rows.length = len then some (.list .tight rows) else none
        | none => none
      else none
    | none => none
  | _ => none

theorem buildList_sound {P : Program} {c : Cx} {H : Hp} (s : Sim c H) {t : TypeId} {len : Nat} {ps : List (Nat × AV)} {PS : Array (Nat × Value)} {v : AV} (hp : PartsR c ps PS.toList) (h : vbuildList P t len ps = some v) :
    Yields P c H (Instr.buildSlice t len PS) v H := by
  unfold vbuildList at h
  split at h
  · rename_i e sz he
    obtain ⟨hsz, hu⟩ := elemAt_of he
    have hu := (hu.resolve_right (fun h => by obtain ⟨_, h, _⟩ := h; cases h)).2
    split at h
    · rename_i zc hzc
      split at h
      · rename_i hc
        obtain ⟨c1, c2, c3⟩ := hc
        split at h
        · rename_i rows hf
          split at h
          · rename_i hv
            obtain ⟨hv, hlen⟩ := hv
            cases h
            obtain ⟨Z, z1, z2, z3⟩ := run_zc hzc c.w
            have hR := zero_cells (c := c) (n := len) (m := len) z2 c1 c2 (Nat.le_refl _) (z3 c)
            obtain ⟨cells, f1, f2, f3, f4⟩ := fillRows_sound c2 hp hf hR (by simp)
            have T := To.newI s (w' := c.w.alloc (.cells cells e)) (by rw [← World.alloc_eq]; simp) (fun b hb => by rw [← World.alloc_eq]; simp only []; rw [Array.getElem?_push, if_neg (by omega)]) rfl rfl rfl
            refine ⟨.slice (some ⟨c.w.heap.size, 0, none⟩) len len, _, ?_, T, ?_⟩
            · show (Instr.buildSlice t len PS).run P c.w = .ok _ (c.w.alloc (.cells cells e))
              simp only [Instr.buildSlice, Sem.run_bind, run_un hu, Result.andThen_ok, run_sz hsz]
              rw [if_neg (by omega)]
              by_cases h0 : len * sz = 0
              · rw [if_pos h0]
                have e0 : (Array.map (fun x => (#[] : Array Value)[x % (#[] : Array Value).size]!) (Array.range (len * sz))) = (Array.range (len * sz)).map (fun j => Z.cells[j % Z.cells.size]!) := by rw [h0]; simp [range0]
                simp only [pure_bind, e0, f1]
                simp [newRow]
              · rw [if_neg h0]
                simp only [bind_assoc, pure_bind, Sem.run_bind, z1, Result.andThen_ok, f1]
                simp [newRow]
            · have hnew : (c.w.alloc (.cells cells e)).heap[c.w.heap.size]? = some (.cells cells e (0, 0)) := by rw [← World.alloc_eq]; simp
              have mI : MonoI c { c with w := c.w.alloc (.cells cells e), I := fun b => c.I b ∨ b = c.w.heap.size } := ⟨fun _ h => .inl h, fun b h => by
                show (c.w.alloc (.cells cells e)).heap[b]? = c.w.heap[b]?
                have := s.bound b h
                rw [← World.alloc_eq]
                simp only []
                rw [Array.getElem?_push, if_neg (by omega)]⟩
              have hrel := Rel.list (c := { c with w := c.w.alloc (.cells cells e), I := fun b => c.I b ∨ b = c.w.heap.size }) .tight rows c.w.heap.size 0 sz len none (.inr rfl) (fun i j => cells.getD (i * sz + j) undef) (.inr (.inr rfl)) (by omega) (fun _ => hlen.symm)
                (fun r hr => by obtain ⟨i, hi⟩ := List.mem_iff_getElem?.1 hr; exact (f2 i r hi).1) hv
                (fun i j hi hj => by
                  have hr : rows[i]? = some rows[i] := List.getElem?_eq_getElem hi
                  obtain ⟨g1, g2⟩ := f2 i _ hr
                  obtain ⟨V, v1, v2, v3⟩ := g2 j (rows[i])[j] (List.getElem?_eq_getElem (by omega))
                  rw [cell_at hnew]
                  simp only [Nat.zero_add] at v1 ⊢
                  rw [Array.getD_eq_getD_getElem?, v1]
                  exact ⟨rfl, v2⟩)
                (fun i r j x hr hx => by
                  obtain ⟨g1, g2⟩ := f2 i r hr
                  obtain ⟨V, v1, v2, v3⟩ := g2 j x hx
                  simp only [Nat.zero_add] at v1
                  rw [Array.getD_eq_getD_getElem?, v1]
                  exact v3.val mI (List.all_eq_true.1 (List.all_eq_true.1 hv r (List.mem_of_getElem? hr)) x (List.mem_of_getElem? hx)))
              rwa [hlen] at hrel
          · cases h
        · cases h
      · cases h
    · cases h
  · cases h
end Go.Vi
