/- Disk.there, the function. -/
import Derived.Test.YteejggadbifdbaaGreatNrT
set_option autoImplicit false
namespace Go.Proofs
open Go.RowKit Go.Shelf
attribute [local go_sem] Oper.semAt_some
namespace Bw
theorem cell_new (W : World) (cs : Array Value) (t : TypeId) (j : Nat) : (W.alloc (.cells cs t)).cell? ⟨W.heap.size, j, none⟩ = cs[j]? := by simp only [World.cell?, World.alloc_heap_new]; rfl
set_option maxRecDepth 100000 in
set_option maxHeartbeats 4000000 in
theorem there_in (n : Nat) (hn : 3 ≤ n) (db dof : Nat) (a : Option Addr) (len cap : Nat) (m : Nat → Int) (A : Nat → Option Addr) (N C : Nat → Nat) (nn : Nat) (hnn : nn < 3120) (a0 : Option Addr) (n0 c0 : Nat) (hreach : len * 8 ≤ 140737488351232) (w : World)
    (hdb : db < w.heap.size) (hs : w.cell? ⟨db, dof + 3121, none⟩ = some (.slice a len cap)) (hI : Wr w.heap.size w (.slice a len cap) len m fun j => .slice (A j) (N j) (C j)) (hv : w.cell? ⟨db, dof + 1 + nn, none⟩ = some (.slice a0 n0 c0)) :
    CallsIn Fence.wide n Tryz.prog 108 #[.pointer (some ⟨db, dof, none⟩), .int .i64 nn] w fun e W' =>
      ((∃ k, k < len ∧ m k = nn ∧ (∀ j, k < j → j < len → m j ≠ nn) ∧ e = .returned (.slice (A k) (N k) (C k))) ∨ ((∀ j, j < len → m j ≠ nn) ∧ e = .returned (.slice a0 n0 c0))) ∧ Below w.heap.size w W' := by
  have h1 : 1 ≤ n := by omega
  have h169 : Fence.wide.fn 108 := trivial
  have h223 : Fence.wide.fn 168 := trivial
  have h247 : Fence.wide.fn 202 := trivial
  have hro : Fence.wide.round = none := rfl
  refine callsIn_of_wp_marks Tryz.func108 rfl h169 ?_ hro
  simp only [Tryz.ntmps108, List.size_toArray, List.length_cons, List.length_nil, Nat.reduceAdd, Nat.reduceSub, Array.replicate_succ, Array.replicate_zero, List.push_toArray, List.append_toArray, List.nil_append, List.cons_append]
  gi_wp2_with (gi_at_call 168; refine (back_in Fence.wide (n - 1) h223 hro _ _ _ _).mono ?_; rintro e w' ⟨rfl, rfl⟩)
  have bN := ((Boxed.new w 3 (.int .i64 nn)).alloc (.cells #[.slice none 0 0] 22)).alloc (.cells #[.slice a len cap] 94)
  have bR := (Boxed.new (w.alloc (.cells #[.int .i64 nn] 3)) 22 (.slice none 0 0)).alloc (.cells #[.slice a len cap] 94)
  have bS := Boxed.new ((w.alloc (.cells #[.int .i64 nn] 3)).alloc (.cells #[.slice none 0 0] 22)) 94 (.slice a len cap)
  simp only [World.size_alloc] at bR bS
  have hB0 : Below w.heap.size w (((w.alloc (.cells #[.int .i64 nn] 3)).alloc (.cells #[.slice none 0 0] 22)).alloc (.cells #[.slice a len cap] 94)) := (((Below.refl _ w).alloc (Nat.le_refl _) _).alloc (by simp) _).alloc (by simp; omega) _
  have hsz : (((w.alloc (.cells #[.int .i64 nn] 3)).alloc (.cells #[.slice none 0 0] 22)).alloc (.cells #[.slice a len cap] 94)).heap.size = w.heap.size + 3 := by simp
  obtain ⟨W0, hW0⟩ : ∃ W0, ((w.alloc (.cells #[.int .i64 nn] 3)).alloc (.cells #[.slice none 0 0] 22)).alloc (.cells #[.slice a len cap] 94) = W0 := ⟨_, rfl⟩
  rw [hW0] at bN bR bS hB0 hsz ⊢
  clear hW0
  refine wpIn_rangeFunc_ownH (encs := fun x : Nat => #[.int .i64 (x : Int), .agg #[.int .i64 (m x), (.slice (A x) (N x) (C x))]]) hro h1 (gf := 202) (lb := #[.pointer (some ⟨w.heap.size + 1 + 1, 0, none⟩)]) rfl h247 (enters_of Tryz.func202 (by kernel_rfl) rfl)
    (back_stops Fence.wide (n - 1) h247 hro (by omega) (w.heap.size + 1 + 1) W0.heap.size w.heap.size _ len m (fun j => .slice (A j) (N j) (C j)) hreach W0 (by omega) (Nat.le_refl _) (by omega) bS.cell (hI.below hB0 (Nat.le_refl _))) belowK_t (belowK_b (Nat.le_refl _)) (Below.refl _ _) (fun _ => rfl)
    (fun pre W => ((Boxed W w.heap.size 3 (.int .i64 nn) ∧ Boxed W (w.heap.size + 1) 22 (.slice none 0 0)) ∧ ∀ p ∈ pre, m p ≠ nn) ∧ (Below w.heap.size w W ∧ Below W0.heap.size W0 W))
    (fun c pre W => (c = .ret ∧ ∃ ini last, pre = ini ++ [last] ∧ (∀ p ∈ ini, m p ≠ nn) ∧ m last = nn ∧ W.cell? ⟨w.heap.size + 1, 0, none⟩ = some ((.slice (A last) (N last) (C last)))) ∧ Below w.heap.size w W)
    (OwnFrom.and (OwnFrom.and (OwnFrom.and (Own.from (boxed_own _ _ _) _) (Own.from (boxed_own _ _ _) _)) (fun _ _ _ _ hs _ _ => hs)) (OwnFrom.and (ownFrom_below (Nat.le_refl _) (by omega)) (ownFrom_below (Nat.le_refl _) (Nat.le_refl _))))
    (fun c => OwnFrom.and (Own.from (fun s A B row hs hg hr => by obtain ⟨hc, ini, last, e1, e2, e3, e4⟩ := hs; exact ⟨hc, ini, last, e1, e2, e3, cell_kept e4 hg hr⟩) _) (ownFrom_below (Nat.le_refl _) (by omega)))
    ⟨⟨⟨bN, bR⟩, by simp⟩, hB0, Below.refl _ _⟩
    (fun x a' W => ∃ Bx, w.heap.size + 3 ≤ Bx ∧ (W.cell? ⟨Bx, 0, none⟩ = some (.int .i64 (m x)) ∧ W.cell? ⟨Bx, 1, none⟩ = some ((.slice (A x) (N x) (C x)))) ∧ a' = { tmps := #[.pointer (some ⟨db, dof, none⟩), .int .i64 nn, undef, .pointer (some ⟨w.heap.size, 0, none⟩), .pointer (some ⟨w.heap.size + 1, 0, none⟩), undef, .pointer (some ⟨Bx, 0, none⟩), .pointer (some ⟨db, dof, none⟩), .pointer (some ⟨db, dof, none⟩), .pointer (some ⟨db, dof + 3121, none⟩), .slice a len cap, .func (.func 202) #[] #[.pointer (some ⟨w.heap.size + 1 + 1, 0, none⟩)], .int .i64 (x : Int), .agg #[.int .i64 (m x), (.slice (A x) (N x) (C x))], undef, undef, undef, undef, undef, undef, undef, undef, undef, undef, undef, undef], defers := [] })
    (fun x a' _ X Y row hs hg hr => by obtain ⟨Bx, h1, ⟨h2, h2'⟩, h3⟩ := hs; exact ⟨Bx, h1, ⟨cell_kept h2 hg (fun r e => (hr r e).2), cell_kept h2' hg (fun r e => (hr r e).2)⟩, h3⟩)
    ?assign ?body ?done ?stop
  case assign =>
    rintro l pre x W K ⟨⟨⟨bN1, bR1⟩, hp⟩, hB1, hB2⟩ hK
    gi_wp2
    exact hK _ _ ((KeepsOthers.alloc _ _).from _) ((Below.refl _ W).alloc hB2.size _) ⟨⟨⟨bN1.alloc _, bR1.alloc _⟩, hp⟩, hB1.alloc hB1.size _, hB2.alloc hB2.size _⟩
      ⟨W.heap.size, by have := hB2.size; omega, ⟨cell_new _ _ _ 0, cell_new _ _ _ 1⟩, rfl⟩
  case body =>
    rintro l pre x a' W hl ⟨r, hr⟩ ⟨⟨⟨bN1, bR1⟩, hp⟩, hB1, hB2⟩ ⟨Bx, hBx, ⟨hx1, hx2⟩, rfl⟩ hlt
    have cN := bN1.cell
    have cR := bR1.cell
    have fR := bR1.frozen
    gi_wp2
    · have hx : m x = nn := by first | assumption | simp_all
      exact ⟨(KeepsOthers.setCell _ _ _).from _, ⟨rfl, pre, x, rfl, hp, hx, World.cell?_setCell_same' _ _ _ (by rw [cR]; rfl)⟩, hB1.setCell (p := ⟨w.heap.size + 1, 0, none⟩) (by simp) _⟩
    · have hx : m x ≠ nn := by first | assumption | simp_all
      exact ⟨KeepsFrom.refl _ _, Below.refl _ _, ⟨⟨bN1, bR1⟩, fun p hp' => (List.mem_append.1 hp').elim (hp p) (fun e => by simp at e; subst e; exact hx)⟩, hB1, hB2⟩
  case done =>
    rintro D ys W hD rfl ⟨⟨⟨bN1, bR1⟩, hp⟩, hB1, hB2⟩ hK
    have cN := bN1.cell
    have cR := bR1.cell
    have fR := bR1.frozen
    have hv' : W.cell? ⟨db, dof + 1 + nn, none⟩ = some (.slice a0 n0 c0) := (hB1.cell (p := ⟨db, _, none⟩) hdb).trans hv
    gi_wp2
    gi_region
    gi_wp2
    have hK0 := (KeepsOthers.setCell W ⟨w.heap.size + 1, 0, none⟩ (.slice a0 n0 c0)).same D _ hK rfl
    have hK' : (W.setCell ⟨w.heap.size + 1, 0, none⟩ (.slice a0 n0 c0)).drew.heap[D]? = some (.deferred (some [])) := hK0
    refine ⟨by simp, .inl ⟨_, _, rfl, run_takeDeferred hK', ?_⟩⟩
    have hc5 := cell_kept (World.cell?_setCell_same' W ⟨w.heap.size + 1, 0, none⟩ (.slice a0 n0 c0) (by rw [cR]; rfl)) (grownBy_putObj' _ D (.deferred none)) (fun r e => by cases e; exact ⟨_, hK0, rfl⟩)
    refine ⟨.slice a0 n0 c0, ?_, .inr ⟨fun j hj => ?_, rfl⟩, ?_⟩
    · have hc6 : ((W.setCell ⟨w.heap.size + 1, 0, none⟩ (.slice a0 n0 c0)).drew.putObj D (.deferred none)).cell? ⟨w.heap.size + 1, 0, none⟩ = some (.slice a0 n0 c0) := hc5
      simp [results, Tryz.f108, go_sem, hc6]
    · have := hp (len - 1 - (len - 1 - j)) (List.mem_map.2 ⟨len - 1 - j, List.mem_range.2 (by omega), rfl⟩)
      rwa [show len - 1 - (len - 1 - j) = j by omega] at this
    · exact (Below.drew (hB1.setCell (p := ⟨w.heap.size + 1, 0, none⟩) (by simp) _)).trans (belowK_b (w := w) (Nat.le_refl _) _ D _ _ (by omega) hK' rfl rfl)
  case stop =>
    rintro D c pre W hD ⟨k, hk, rfl⟩ ⟨⟨rfl, ini, last, e1, e2, e3, hcr⟩, hB1⟩ hK
    gi_wp2
    refine ⟨by simp, .inl ⟨_, _, rfl, run_takeDeferred hK, ?_⟩⟩
    have hc5 := cell_kept hcr (grownBy_putObj' _ D (.deferred none)) (fun r e => by cases e; exact ⟨_, hK, rfl⟩)
    obtain ⟨k', rfl⟩ : ∃ k', k = k' + 1 := by
      cases k with
      | zero => simp [upto] at e1
      | succ k' => exact ⟨k', rfl⟩
    rw [upto_succ] at e1
    obtain ⟨rfl, e5⟩ := List.append_inj' e1 rfl
    obtain rfl : len - 1 - k' = last := by simpa using e5
    refine ⟨_, ?_, .inl ⟨len - 1 - k', by omega, e3, fun j h1 h2 => ?_, rfl⟩, hB1.trans (belowK_b (w := w) (Nat.le_refl _) W D _ _ (by omega) hK rfl rfl)⟩
    · simp [results, Tryz.f108, go_sem, hc5]
    · have := e2 (len - 1 - (len - 1 - j)) (List.mem_map.2 ⟨len - 1 - j, List.mem_range.2 (by omega), rfl⟩)
      rwa [show len - 1 - (len - 1 - j) = j by omega] at this
end Bw
end Go.Proofs
