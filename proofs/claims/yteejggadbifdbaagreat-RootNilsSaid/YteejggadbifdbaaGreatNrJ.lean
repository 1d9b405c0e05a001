/- slices.Insert of one element of two cells, in the model's world. -/
import Derived.Test.YteejggadbifdbaaGreatNrI
import Derived.Test.YteejggadbifdbaaGreatProg
import Derived.Shelf.Spec.SlicesInsertGrow
import Derived.Test.YteejggadbifdbaaGreatNrIc
section
set_option autoImplicit false
set_option linter.unusedVariables false
set_option linter.unusedSimpArgs false
namespace Go.Proofs
open Go.Shelf Go.RowKit Go.Lib
namespace Bx
theorem szE : Vi.szOf Tryz.prog 76 = some 2 := by kernel_rfl
theorem zE : ∀ w, (Go.sizeOf 76).run Tryz.prog w = .ok 2 w := by
  intro w
  first | (exact Vi.run_sz szE) | kernel_rfl
set_option maxHeartbeats 4000000 in
set_option maxRecDepth 100000 in
/-- THERE IS ROOM, i < len(s): in place. -/
theorem insE_room (b off n c i vb voff vc : Nat) (cs vs : List Value) (w : World) (hi : i < n) (hn6 : n ≤ 1000000) (hroom : n + 1 ≤ c) (hvb : vb ≠ b)
    (hcl : cs.length = n * 2) (hvl : vs.length = 2)
    (hcs : ∀ j v, cs[j]? = some v → w.cell? ⟨b, off + j, none⟩ = some v) (hsp : ∀ j, j < (n + 1) * 2 → (w.cell? ⟨b, off + j, none⟩).isSome = true) (hfz : ∀ j, j < (n + 1) * 2 → w.frozen? ⟨b, off + j, none⟩ = false)
    (hvs : ∀ j v, vs[j]? = some v → w.cell? ⟨vb, voff + j, none⟩ = some v) (h1c : ∀ v ∈ cs, v.oneCell' = true) (h1v : ∀ v ∈ vs, v.oneCell' = true)
    (tA tB : TypeId) (kA kB : Nat) (hsa : w.shape? vb = some (tA, kA)) (hsb : w.shape? b = some (tB, kB)) (hkB : kB ≠ 0) (hfa : w.frozen? ⟨vb, voff, none⟩ = false) (hfe : w.frozen? ⟨vb, kA, none⟩ = false) :
    Calls Tryz.prog 38 #[.slice (some ⟨b, off, none⟩) n c, .int .i64 i, .slice (some ⟨vb, voff, none⟩) 1 vc] w fun e w' =>
      e = .returned (.slice (some ⟨b, off, none⟩) (n + 1) c) ∧ w' = (w.drew.setCells b (off + (i + 1) * 2) (cs.drop (i * 2))).setCells b (off + i * 2) vs := by
  have hz2 : ¬ ((i : Int) = (n : Int)) := by omega
  have hov : ∀ o' lb cb, (callFunc 70 #[.slice (some ⟨vb, voff, none⟩) 1 vc, .slice (some ⟨b, o', none⟩) lb cb]).run Tryz.prog w = .ok (.value (.bool false)) w := fun o' lb cb => by
    rw [run_callFunc_extern Tryz.func70 (by kernel_rfl) (by kernel_rfl) (by kernel_rfl) (e := Extern.SlicesOverlaps.overlaps #[57, 57] #[4]) (by kernel_rfl),
      Lib.run_overlaps_apart w 57 4 76 Tryz.underlying57 2 zE ⟨vb, voff, none⟩ ⟨b, o', none⟩ 1 vc lb cb hvb tA tB kA kB hsa hsb hkB hfa hfe]
    rfl
  have hdl : (cs.drop (i * 2)).length = (n - i) * 2 := by rw [List.length_drop, hcl]; omega
  have hw1 : IntKind.i64.wrap ((i : Int) + 1) = (i : Int) + 1 := by rw [IntKind.wrap_i64]; omega
  have hb1 : (0 : Int) ≤ (i : Int) + 1 := by omega
  have hin : i ≤ n := by omega
  have htn : ((i : Int) + 1).toNat = i + 1 := by omega
  have hb2 : ¬ (c = i + 1) := by omega
  have hb3 : (i : Int) ≤ (n : Int) + 1 := by omega
  have hb4 : ¬ (c = i) := by omega
  have hcp1 : ∀ ty dc sc, (Builtin.copy_ #[57, 57] ty #[.slice (some ⟨b, off + (i + 1) * 2, none⟩) (n - i) dc, .slice (some ⟨b, off + i * 2, none⟩) (n + 1 - i) sc]).run Tryz.prog w.drew = .ok (goInt ((n - i : Nat) : Int)) (w.drew.setCells b (off + (i + 1) * 2) (cs.drop (i * 2))) := fun ty dc sc =>
    run_copy_cellsZ w.drew _ _ ty 76 2 (n - i) b (off + (i + 1) * 2) (n - i) dc ⟨b, off + i * 2, none⟩ (n + 1 - i) sc (cs.drop (i * 2)) Tryz.underlying57 szE (by simp only [Nat.min_def]; split <;> omega) hdl
      (fun j v hj => by rw [Addr.add_lit, Nat.add_assoc]; exact hcs (i * 2 + j) v (by rwa [List.getElem?_drop] at hj))
      (fun j hj => by rw [Nat.add_assoc]; exact hsp _ (by omega)) (fun j hj => by rw [Nat.add_assoc]; exact hfz _ (by omega)) (fun v hv => h1c v (List.mem_of_mem_drop hv))
  obtain ⟨W1, hW1⟩ : ∃ W1, W1 = w.drew.setCells b (off + (i + 1) * 2) (cs.drop (i * 2)) := ⟨_, rfl⟩
  have hsp1 : ∀ k, k < (n + 1) * 2 → (W1.cell? ⟨b, off + k, none⟩).isSome = true := fun k hk => by
    rw [hW1]
    exact isSome_setCells b _ _ _ (fun j hj => by rw [Nat.add_assoc]; exact hsp _ (by omega)) _ (hsp k hk)
  have hcp2 : ∀ (W : World), (∀ x, W.cell? x = W1.cell? x) → (∀ x, W.frozen? x = W1.frozen? x) → ∀ ty dc, (Builtin.copy_ #[57, 57] ty #[.slice (some ⟨b, off + i * 2, none⟩) (n + 1 - i) dc, .slice (some ⟨vb, voff, none⟩) 1 vc]).run Tryz.prog W = .ok (goInt (1 : Nat)) (W.setCells b (off + i * 2) vs) := fun W hWc hWf ty dc =>
    run_copy_cellsZ W _ _ ty 76 2 1 b (off + i * 2) (n + 1 - i) dc ⟨vb, voff, none⟩ 1 vc vs Tryz.underlying57 szE (by simp only [Nat.min_def]; split <;> omega) (by omega)
      (fun j v hj => by
        rw [Addr.add_lit, hWc, hW1, World.cell?_setCells_out b _ _ _ _ (fun h _ => absurd h hvb)]
        exact hvs j v hj)
      (fun j hj => by rw [hWc, Nat.add_assoc]; exact hsp1 _ (by omega)) (fun j hj => by rw [hWf, hW1, World.frozen?_setCells, Nat.add_assoc]; exact hfz _ (by omega)) h1v
  rw [← hW1] at hcp1
  have mixed : Tryz.prog.follows Departure.mixedOrders = true := by kernel_rfl
  go_enter Tryz.func38, Tryz.ntmps38
  go_wp2_with (simp only [hov])
  go_region_law_o (refine step_copy_runI rfl _ _ 57 57 rfl _ _ (by simp [Act.eval, Act.put]) (by simp [Act.eval, Act.put]) (hcp1 _ _ _) ?_)
  go_wp2_with (at_builtin; refine wpList_copy_runI _ rfl _ _ 57 57 rfl _ _ rfl rfl (hcp2 _ (fun _ => rfl) (fun _ => rfl) _ _) ?_)
  go_ret
  first | exact ⟨rfl, rfl⟩ | exact ⟨rfl, by rw [hW1]⟩
end Bx
end Go.Proofs
namespace Go.Proofs
open Go.Shelf Go.RowKit Go.Lib
namespace Bx
theorem info146x : (Tryz.prog.info? 76).map (fun i => (i.zero, i.size, i.bytes)) = some (some (.agg #[.slice none 0 0, .int .i64 0]), 2, 32) := by kernel_rfl
set_option maxHeartbeats 4000000 in
set_option maxRecDepth 100000 in
/-- i < len(s), no room: a new block. -/
theorem insE_grow (b off n c i vb voff vc : Nat) (cs vs : List Value) (w : World) (hi : i < n) (hnc : n ≤ c) (hroom : c < n + 1) (hbig : (n + 1) * 32 ≤ 140737488355328)
    (hcl : cs.length = n * 2) (hvl : vs.length = 2)
    (hcs : ∀ j v, cs[j]? = some v → w.cell? ⟨b, off + j, none⟩ = some v)
    (hvs : ∀ j v, vs[j]? = some v → w.cell? ⟨vb, voff + j, none⟩ = some v) (h1c : ∀ v ∈ cs, v.oneCell' = true) (h1v : ∀ v ∈ vs, v.oneCell' = true) :
    Calls Tryz.prog 38 #[.slice (some ⟨b, off, none⟩) n c, .int .i64 i, .slice (some ⟨vb, voff, none⟩) 1 vc] w fun e w' =>
      e = .returned (.slice (some ⟨w.heap.size, 0, none⟩) (n + 1) (grownCap w (n + 1) c 76)) ∧
      w' = (((w.alloc (.cells ((cs.take (i * 2)).toArray ++ Builtin.zeroCells (Value.agg #[.slice none 0 0, .int .i64 0]).cells (n + 1 - i) ++ Builtin.zeroCells (Value.agg #[.slice none 0 0, .int .i64 0]).cells (grownCap w (n + 1) c 76 - (n + 1))) 76)).drew.setCells w.heap.size (i * 2) vs).drew).setCells w.heap.size ((i + 1) * 2) (cs.drop (i * 2)) := by
  have mixed : Tryz.prog.follows Departure.mixedOrders = true := by kernel_rfl
  obtain ⟨i0, hi0, hz0, hzs, hzb⟩ := info_parts info146x
  have hz2 : ¬ ((i : Int) = (n : Int)) := by omega
  have hz3 : (c : Int) < (n : Int) + 1 := by omega
  have hbw : b < w.heap.size := block_lt_of_cell (hcs 0 _ (List.getElem?_eq_getElem (by omega)))
  have hvw : vb < w.heap.size := block_lt_of_cell (hvs 0 _ (List.getElem?_eq_getElem (by omega)))
  have hkk : (n : Int) + 1 - (i : Int) = ((n + 1 - i : Nat) : Int) := by omega
  have hik : i + (n + 1 - i) = n + 1 := by omega
  have hold : (Builtin.firstCells i0.size i (.slice (some ⟨b, off, none⟩) i c)).run Tryz.prog w.drew = .ok (cs.take (i * 2)).toArray w.drew := by
    rw [hzs]
    exact run_firstCells_some w.drew 2 i ⟨b, off, none⟩ i c (cs.take (i * 2)) (by rw [List.length_take]; omega) (fun j v hj => by
      rw [Addr.add_lit]
      rw [List.getElem?_take] at hj
      split at hj
      · exact hcs j v hj
      · cases hj)
  have hrz : ∀ ty, (Builtin.append_ #[57, 3] ty #[.slice (some ⟨b, off, none⟩) i c, .int .i64 ((n : Int) + 1 - (i : Int))]).run Tryz.prog w =
      .ok (.slice (some ⟨w.heap.size, 0, none⟩) (n + 1) (grownCap w (n + 1) c 76)) (w.drew.alloc (.cells ((cs.take (i * 2)).toArray ++ Builtin.zeroCells (Value.agg #[.slice none 0 0, .int .i64 0]).cells (n + 1 - i) ++ Builtin.zeroCells (Value.agg #[.slice none 0 0, .int .i64 0]).cells (grownCap w (n + 1) c 76 - (n + 1))) 76)) := fun ty => by
    have h := Lib.run_append_grow_zeros w 57 3 ty 76 i0 _ .i64 .i64 Tryz.underlying57 Tryz.underlying3 hi0 hz0 (some ⟨b, off, none⟩) i c (cs.take (i * 2)) hold (n + 1 - i) (by omega) (by omega) (by omega) (by omega) (by rw [hzb]; omega) (by rw [hzb, hik]; exact growslice_fits hroom hbig)
    rw [hik] at h
    rw [hkk]
    exact h
  obtain ⟨G, hG⟩ : ∃ G, G = grownCap w (n + 1) c 76 := ⟨_, rfl⟩
  obtain ⟨ROW, hROW⟩ : ∃ ROW : Array Value, ROW = (cs.take (i * 2)).toArray ++ Builtin.zeroCells (Value.agg #[.slice none 0 0, .int .i64 0]).cells (n + 1 - i) ++ Builtin.zeroCells (Value.agg #[.slice none 0 0, .int .i64 0]).cells (G - (n + 1)) := ⟨_, rfl⟩
  rw [← hG] at hrz ⊢
  rw [← hROW] at hrz ⊢
  have hRl : (n + 1) * 2 ≤ ROW.size := by
    rw [hROW]
    simp [Builtin.zeroCells, Value.cells]
    omega
  obtain ⟨W1, hW1⟩ : ∃ W1, W1 = w.drew.alloc (.cells ROW 76) := ⟨_, rfl⟩
  rw [← hW1] at hrz
  have hN : ∀ j, j < (n + 1) * 2 → (W1.cell? ⟨w.heap.size, j, none⟩).isSome = true := fun j hj => by
    rw [hW1, World.cell?_alloc_at (w := w.drew) ROW _ w.heap.size j rfl, Array.getElem?_eq_getElem (by omega)]; rfl
  have hNf : ∀ j, W1.frozen? ⟨w.heap.size, j, none⟩ = false := fun j => by rw [hW1]; exact World.frozen?_alloc_at (w := w.drew) ROW _ w.heap.size j rfl
  have hOb : ∀ j v, w.cell? ⟨b, j, none⟩ = some v → W1.cell? ⟨b, j, none⟩ = some v := fun j v h => by rw [hW1, World.cell?_alloc_past (w := w.drew) _ b j hbw]; exact h
  have hOv : ∀ j v, w.cell? ⟨vb, j, none⟩ = some v → W1.cell? ⟨vb, j, none⟩ = some v := fun j v h => by rw [hW1, World.cell?_alloc_past (w := w.drew) _ vb j hvw]; exact h
  have hcpA : ∀ (W : World), (∀ x, W.cell? x = W1.cell? x) → (∀ x, W.frozen? x = W1.frozen? x) → ∀ ty dc, (Builtin.copy_ #[57, 57] ty #[.slice (some ⟨w.heap.size, i * 2, none⟩) (n + 1 - i) dc, .slice (some ⟨vb, voff, none⟩) 1 vc]).run Tryz.prog W = .ok (goInt (1 : Nat)) (W.setCells w.heap.size (i * 2) vs) := fun W hWc hWf ty dc =>
    run_copy_cellsZ W _ _ ty 76 2 1 w.heap.size (i * 2) (n + 1 - i) dc ⟨vb, voff, none⟩ 1 vc vs Tryz.underlying57 szE (by simp only [Nat.min_def]; split <;> omega) (by omega)
      (fun j v hj => by rw [Addr.add_lit, hWc]; exact hOv _ v (hvs j v hj))
      (fun j hj => by rw [hWc]; exact hN _ (by omega)) (fun j hj => by rw [hWf]; exact hNf _) h1v
  have hGn : n + 1 ≤ G := by rw [hG]; exact grownCap_ge w _ _ _
  have hG63 : G ≤ 9223372036854775807 := by
    have := grownCap_le_maxLen w (n + 1) c 76 (by unfold maxLen; omega)
    rw [← hG] at this
    unfold maxLen at this
    omega
  have hGi : ¬ (G = i) := by omega
  have hGim : ¬ (G = i + 1) := by omega
  have hci : ¬ (c = i) := by omega
  have hbN : b ≠ w.heap.size := by omega
  have hdl : (cs.drop (i * 2)).length = (n - i) * 2 := by rw [List.length_drop, hcl]; omega
  have hcpB : ∀ (W : World), (∀ x, W.cell? x = (W1.setCells w.heap.size (i * 2) vs).cell? x) → (∀ x, W.frozen? x = (W1.setCells w.heap.size (i * 2) vs).frozen? x) → ∀ ty dc sc, (Builtin.copy_ #[57, 57] ty #[.slice (some ⟨w.heap.size, (i + 1) * 2, none⟩) (n - i) dc, .slice (some ⟨b, off + i * 2, none⟩) (n - i) sc]).run Tryz.prog W = .ok (goInt ((n - i : Nat) : Int)) (W.setCells w.heap.size ((i + 1) * 2) (cs.drop (i * 2))) := fun W hWc hWf ty dc sc =>
    run_copy_cellsZ W _ _ ty 76 2 (n - i) w.heap.size ((i + 1) * 2) (n - i) dc ⟨b, off + i * 2, none⟩ (n - i) sc (cs.drop (i * 2)) Tryz.underlying57 szE (by simp only [Nat.min_def]; split <;> omega) hdl
      (fun j v hj => by
        rw [Addr.add_lit, hWc, World.cell?_setCells_out _ _ _ _ _ (fun h _ => absurd h hbN), Nat.add_assoc]
        exact hOb _ v (hcs (i * 2 + j) v (by rwa [List.getElem?_drop] at hj)))
      (fun j hj => by rw [hWc]; exact isSome_setCells _ _ _ _ (fun t ht => hN _ (by omega)) _ (hN _ (by omega)))
      (fun j hj => by rw [hWf, World.frozen?_setCells]; exact hNf _) (fun v hv => h1c v (List.mem_of_mem_drop hv))
  subst hW1
  have hE1 : ∀ x, ((w.alloc (.cells ROW 76)).drew).cell? x = (w.drew.alloc (.cells ROW 76)).cell? x := fun x => rfl
  have hE2 : ∀ x, ((w.alloc (.cells ROW 76)).drew).frozen? x = (w.drew.alloc (.cells ROW 76)).frozen? x := fun x => rfl
  have hF1 : ∀ x, (((w.alloc (.cells ROW 76)).drew.setCells w.heap.size (i * 2) vs).drew).cell? x = ((w.drew.alloc (.cells ROW 76)).setCells w.heap.size (i * 2) vs).cell? x := fun x => rfl
  have hF2 : ∀ x, (((w.alloc (.cells ROW 76)).drew.setCells w.heap.size (i * 2) vs).drew).frozen? x = ((w.drew.alloc (.cells ROW 76)).setCells w.heap.size (i * 2) vs).frozen? x := fun x => rfl
  have hw1 : IntKind.i64.wrap ((i : Int) + 1) = (i : Int) + 1 := by rw [IntKind.wrap_i64]; omega
  have hb1 : (0 : Int) ≤ (i : Int) + 1 := by omega
  have hin : i ≤ n := by omega
  have htn : ((i : Int) + 1).toNat = i + 1 := by omega
  have hb3 : (i : Int) ≤ (n : Int) := by omega
  clear hkk hik hold hROW hG hRl
  go_enter Tryz.func38, Tryz.ntmps38
  go_wp2_with (first
    | (at_builtin; refine Lib.wpList_append_run _ rfl _ _ _ _ rfl _ _ rfl rfl _ _ (hrz _) ?_)
    | (at_builtin; refine wpList_copy_runI _ rfl _ _ 57 57 rfl _ _ rfl rfl (hcpA _ hE1 hE2 _ _) ?_)
    | (at_builtin; refine wpList_copy_runI _ rfl _ _ 57 57 rfl _ _ rfl rfl (hcpB _ (fun _ => rfl) (fun _ => rfl) _ _ _) ?_))
  go_region_law_o (refine step_copy_runI rfl _ _ 57 57 rfl (.slice (some ⟨w.heap.size, (i + 1) * 2, none⟩) (n - i) (G - (i + 1))) (.slice (some ⟨b, off + i * 2, none⟩) (n - i) (c - i)) (by simp [Act.eval, Act.put]) (by simp [Act.eval, Act.put]) (hcpB _ hF1 hF2 3 (G - (i + 1)) (c - i)) ?_)
  go_wp2
  go_ret
  exact ⟨rfl, rfl⟩
end Bx
end Go.Proofs
end
section
set_option autoImplicit false
set_option linter.unusedVariables false
set_option linter.unusedSimpArgs false
set_option maxRecDepth 100000
namespace Go.Vi
open Go Go.Proofs Go.RowKit Go.Shelf
theorem ins_ok2 (G : Glob) (xs : List AV) (H : Hp) (r : AV) (H' : Hp) (h : insK 76 xs H = some (r, H')) : XS Tryz.prog G 38 xs H fun r1 H1 => r1 = r ∧ H1 = H' := by
  unfold insK at h
  split at h
  case h_2 => cases h
  rename_i t l i n a t2 l2 i2
  split at h
  case h_2 => cases h
  rename_i T1 rows T2 rows2 hl hl2
  split at h
  case h_2 => cases h
  rename_i r2 hr2
  split at h
  case isFalse => cases h
  rename_i hc
  simp only [Bool.and_eq_true, beq_iff_eq, bne_iff_ne, ne_eq, decide_eq_true_eq] at hc
  obtain ⟨⟨⟨⟨⟨rfl, hne⟩, ha0⟩, han⟩, hin⟩, hn6⟩ := hc
  cases h
  obtain ⟨k, rfl⟩ : ∃ k : Nat, a = (k : Int) := ⟨a.toNat, by omega⟩
  simp only [Int.toNat_natCast] at han ⊢
  intro c Vs s hg hlen hr
  match Vs, hlen with
  | [V0, V1, V2], _ =>
    have r0 := hr 0 _ V0 rfl rfl
    have r1 := hr 1 _ V1 rfl rfl
    have r3 := hr 2 _ V2 rfl rfl
    cases r1
    cases r0 with
    | row _ _ _ _ cl o cap hρ ho hcap ht hlim =>
      cases r3 with
      | row _ _ _ _ cl2 o2 cap2 hρ2 ho2 hcap2 ht2 hlim2 =>
        obtain ⟨cl0, cells, e1, e2, e3, e4, e5, e6, e7⟩ := s.obj l _ hl
        rw [hρ] at e1
        cases e1
        obtain ⟨cl0, cells2, f1, f2, f3, f4, f5, f6, f7⟩ := s.obj l2 _ hl2
        rw [hρ2] at f1
        cases f1
        have hlv : live H l := ⟨_, hl, rfl⟩
        have hlv2 : live H l2 := ⟨_, hl2, rfl⟩
        have hbb : cl2.blk ≠ cl.blk := fun e => hne (s.inj l l2 cl cl2 hlv hlv2 hρ hρ2 e.symm)
        rw [e2] at ho hlim
        rw [f2] at ho2 hlim2
        have hi2 : i2 < rows2.length := (List.getElem?_eq_some_iff.1 hr2).1
        -- the cells
        have hF := e7.flat (i := i) (n := n) hin (by omega)
        have hF2 := f7.flat (i := i2) (n := 1) (by omega) (by omega)
        rw [← ho] at hF
        rw [← ho2] at hF2
        have hd2 : (rows2.drop i2).take 1 = [r2] := by
          rw [List.take_one, List.head?_drop, hr2]; rfl
        rw [hd2] at hF2
        generalize hcs : (cells.toList.drop o).take (n * 2) = cs at hF
        generalize hvs : (cells2.toList.drop o2).take (1 * 2) = vs at hF2
        generalize hold : (rows.drop i).take n = old at hF ⊢
        have hol : old.length = n := by rw [← hold, List.length_take, List.length_drop]; omega
        have hcl : cs.length = n * 2 := by rw [hF.1, hol]
        have hvl : vs.length = 2 := hF2.1
        have csat : ∀ (j : Nat) (v : Value), cs[j]? = some v → cells[o + j]? = some v := fun j v hj => by
          rw [← hcs, List.getElem?_take] at hj
          split at hj
          · rwa [List.getElem?_drop, Array.getElem?_toList] at hj
          · cases hj
        have vsat : ∀ (j : Nat) (v : Value), vs[j]? = some v → cells2[o2 + j]? = some v := fun j v hj => by
          rw [← hvs, List.getElem?_take] at hj
          split at hj
          · rwa [List.getElem?_drop, Array.getElem?_toList] at hj
          · cases hj
        have hcsw : ∀ (j : Nat) (v : Value), cs[j]? = some v → c.w.cell? ⟨cl.blk, o + j, none⟩ = some v := fun j v hj => by rw [cell_at e3]; exact csat j v hj
        have hvsw : ∀ (j : Nat) (v : Value), vs[j]? = some v → c.w.cell? ⟨cl2.blk, o2 + j, none⟩ = some v := fun j v hj => by rw [cell_at f3]; exact vsat j v hj
        have one1 := hF.one (by decide)
        have one2 := hF2.one (by decide)
        have hnew : FlatRows c (cs.take (k * 2) ++ (vs ++ cs.drop (k * 2))) 2 (old.take k ++ ([r2] ++ old.drop k)) := (hF.take (m := k) (by omega)).append (hF2.append hF.drop)
        have fin : ∀ (w' : World) (cl' : CL) (cells' : Array Value) (cap' : Nat), cl'.sz = 2 → cl'.base + cap' * 2 = cl'.lim → n + 1 ≤ cap' → cells'.size = cl'.lim → w'.heap[cl'.blk]? = some (.cells cells' 76 (0, 0)) → c.w.heap.size ≤ w'.heap.size →
            w'.os = c.w.os → w'.tape = c.w.tape → w'.output = c.w.output → (∀ b, b < c.w.heap.size → b ≠ cl.blk → w'.heap[b]? = c.w.heap[b]?) → (cl'.blk = cl.blk ∨ c.w.heap.size ≤ cl'.blk) →
            (∀ (q : Nat) (v : Value), (cs.take (k * 2) ++ (vs ++ cs.drop (k * 2)))[q]? = some v → cells'[cl'.base + q]? = some v) →
            ∃ r1 H1 c' V, Ending.returned (.slice (some ⟨cl'.blk, cl'.base, none⟩) (n + 1) cap') = .returned V ∧ w' = c'.w ∧ To c H c' H1 ∧ Rel c' r1 V ∧ r1 = .row false H.length 0 (n + 1) ∧ H1 = H.set l .dead ++ [.arr 76 2 (old.take k ++ ([r2] ++ old.drop k))] := by
          intro w' cl' cells' cap' q1 q2 q3 q4 q5 q6 q7 q8 q9 q10 q11 q12
          have t := To.become s (cl' := cl') hlv hρ e5 e6 (.arr 76 2 (old.take k ++ ([r2] ++ old.drop k))) q6 q7 q8 q9 q10 q11 (fun c' m hw hρ' hI hB =>
            ⟨cl', cells', hρ', q1, by rw [hw]; exact q5, q4, hI, hB, (hnew.mono m).laid q12⟩)
          refine ⟨_, _, _, _, rfl, rfl, t, ?_, rfl, rfl⟩
          have := Rel.row (c := { c with w := w', ρ := updρ c.ρ H.length cl' }) false H.length 0 (n + 1) cl' (cl'.base + 0 * cl'.sz) cap' (updρ_self _ _ _) rfl q3 (fun h => by cases h) (by rw [q1]; omega)
          simpa using this
        have cellNew : ∀ (cells' : Array Value) (o' : Nat), (∀ (j : Nat) (v : Value), (cs.take (k * 2))[j]? = some v → cells'[o' + j]? = some v) → (∀ (j : Nat) (v : Value), vs[j]? = some v → cells'[o' + k * 2 + j]? = some v) →
            (∀ (j : Nat) (v : Value), (cs.drop (k * 2))[j]? = some v → cells'[o' + (k + 1) * 2 + j]? = some v) → ∀ (q : Nat) (v : Value), (cs.take (k * 2) ++ (vs ++ cs.drop (k * 2)))[q]? = some v → cells'[o' + q]? = some v := by
          intro cells' o' h1 h2 h3 q v hq
          have hlt : (cs.take (k * 2)).length = k * 2 := by rw [List.length_take]; omega
          rw [List.getElem?_append] at hq
          split at hq
          · exact h1 q v hq
          · rename_i hge
            rw [hlt] at hge hq
            rw [List.getElem?_append] at hq
            split at hq
            · have := h2 _ v hq
              rw [← this]
              congr 1
              omega
            · rename_i hge2
              have := h3 _ v hq
              rw [hvl] at this hge2
              rw [← this]
              congr 1
              omega
        by_cases hroom : n + 1 ≤ cap
        · refine ((Bx.insE_room cl.blk o n cap k cl2.blk o2 cap2 cs vs c.w han hn6 hroom hbb hcl hvl hcsw (fun j hj => ?_) (fun j hj => ?_) hvsw one1 one2 T2 76 cells2.size cells.size ?_ ?_ (by omega) ?_ ?_)).mono ?_
          · rw [cell_at e3, Array.getElem?_eq_getElem (by omega)]; rfl
          · simp only [World.frozen?, e3]; simp
          · simp only [World.shape?, f3]
          · simp only [World.shape?, e3]
          · simp only [World.frozen?, f3]; simp
          · simp only [World.frozen?, f3]; simp
          · rintro e w' ⟨rfl, rfl⟩
            have hd : c.w.drew.heap[cl.blk]? = some (.cells cells 76 (0, 0)) := e3
            obtain ⟨cur1, a1, a2, a3, a4⟩ := setCells_heap (cs.drop (k * 2)) (o + (k + 1) * 2) c.w.drew cells hd (by rw [List.length_drop]; omega)
            obtain ⟨cur2, b1, b2, b3, b4⟩ := setCells_heap vs (o + k * 2) _ cur1 a1 (by omega)
            obtain ⟨g1, g2, g3, g4⟩ := setCells_rest cl.blk vs (o + k * 2) (c.w.drew.setCells cl.blk (o + (k + 1) * 2) (cs.drop (k * 2)))
            obtain ⟨g5, g6, g7, g8⟩ := setCells_rest cl.blk (cs.drop (k * 2)) (o + (k + 1) * 2) c.w.drew
            refine fin _ ⟨cl.blk, o, 2, cl.lim⟩ cur2 cap rfl hlim hroom (by rw [b2, a2]; exact e4) b1 (Nat.le_of_eq (by rw [g1, g5]; rfl)) (g2.trans g6) (g3.trans g7) (g4.trans g8) (fun b hb hne => ?_) (.inl rfl) ?_
            · rw [setCells_other _ _ _ _ hne, setCells_other _ _ _ _ hne]; rfl
            · refine cellNew cur2 o (fun j v hj => ?_) b4 (fun j v hj => ?_)
              · rw [List.getElem?_take] at hj
                split at hj
                · rename_i hjk
                  rw [b3 _ (by omega), a3 _ (by omega)]
                  exact csat j v hj
                · cases hj
              · have hjl := (List.getElem?_eq_some_iff.1 hj).1
                rw [b3 _ (by omega)]
                exact a4 j v hj
        · refine ((Bx.insE_grow cl.blk o n cap k cl2.blk o2 cap2 cs vs c.w han hcap (by omega) (by omega) hcl hvl hcsw hvsw one1 one2)).mono ?_
          rintro e w' ⟨rfl, rfl⟩
          generalize hG : grownCap c.w (n + 1) cap 76 = Gc
          have hGn : n + 1 ≤ Gc := by rw [← hG]; exact grownCap_ge c.w _ _ _
          generalize hROW : (cs.take (k * 2)).toArray ++ Builtin.zeroCells (Value.agg #[.slice none 0 0, .int .i64 0]).cells (n + 1 - k) ++ Builtin.zeroCells (Value.agg #[.slice none 0 0, .int .i64 0]).cells (Gc - (n + 1)) = ROW
          have hRs : ROW.size = Gc * 2 := by
            rw [← hROW]
            simp [Builtin.zeroCells, Value.cells]
            omega
          have hR0 : ∀ (j : Nat) (v : Value), (cs.take (k * 2))[j]? = some v → ROW[j]? = some v := fun j v hj => by
            have hjl := (List.getElem?_eq_some_iff.1 hj).1
            rw [← hROW, Array.append_assoc, Array.getElem?_append_left (by simpa using hjl)]
            simpa using hj
          have hd : ((c.w.alloc (.cells ROW 76)).drew).heap[c.w.heap.size]? = some (.cells ROW 76 (0, 0)) := World.alloc_heap_new c.w _
          obtain ⟨cur1, a1, a2, a3, a4⟩ := setCells_heap vs (k * 2) _ ROW hd (by omega)
          obtain ⟨cur2, b1, b2, b3, b4⟩ := setCells_heap (cs.drop (k * 2)) ((k + 1) * 2) _ cur1 (show ((c.w.alloc (.cells ROW 76)).drew.setCells c.w.heap.size (k * 2) vs).drew.heap[c.w.heap.size]? = _ from a1) (by rw [List.length_drop]; omega)
          obtain ⟨g1, g2, g3, g4⟩ := setCells_rest c.w.heap.size vs (k * 2) (c.w.alloc (.cells ROW 76)).drew
          obtain ⟨g5, g6, g7, g8⟩ := setCells_rest c.w.heap.size (cs.drop (k * 2)) ((k + 1) * 2) ((c.w.alloc (.cells ROW 76)).drew.setCells c.w.heap.size (k * 2) vs).drew
          have hsz : (c.w.alloc (.cells ROW 76)).heap.size = c.w.heap.size + 1 := by simp
          refine fin _ ⟨c.w.heap.size, 0, 2, Gc * 2⟩ cur2 Gc rfl (by simp) hGn (by rw [b2, a2]; exact hRs) b1 (by rw [g5]; show _ ≤ ((c.w.alloc (.cells ROW 76)).drew.setCells c.w.heap.size (k * 2) vs).heap.size; rw [g1]; show _ ≤ (c.w.alloc (.cells ROW 76)).heap.size; omega) (g6.trans g2) (g7.trans g3) (g8.trans g4) (fun b hb hne => ?_) (.inr (Nat.le_refl _)) ?_
          · rw [setCells_other _ _ _ _ (by omega)]
            show ((c.w.alloc (.cells ROW 76)).drew.setCells c.w.heap.size (k * 2) vs).heap[b]? = _
            rw [setCells_other _ _ _ _ (by omega)]
            exact Below.heap_alloc c.w _ b hb
          · refine cellNew cur2 0 (fun j v hj => ?_) (fun j v hj => ?_) (fun j v hj => ?_)
            · have hjl := (List.getElem?_eq_some_iff.1 hj).1
              rw [List.length_take] at hjl
              rw [Nat.zero_add, b3 _ (by omega), a3 _ (by omega)]
              exact hR0 j v hj
            · have hjl := (List.getElem?_eq_some_iff.1 hj).1
              rw [Nat.zero_add, b3 _ (by omega)]
              exact a4 j v hj
            · rw [Nat.zero_add]
              exact b4 j v hj
end Go.Vi
end
