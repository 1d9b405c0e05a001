/- tape.Open of an empty disk. -/
import Derived.Test.YteejggadbifdbaaGreatNrK
set_option autoImplicit false
namespace Go.Proofs
open Go.RowKit Go.Shelf
attribute [local go_sem] Oper.semAt_some
namespace Bw
set_option maxRecDepth 100000 in
set_option maxHeartbeats 4000000 in
theorem none_in (n : Nat) (db dof : Nat) (w : World) (h0 : w.cell? ⟨db, dof, none⟩ = some (.bool true)) :
    CallsIn Fence.wide n Tryz.prog 80 #[.pointer (some ⟨db, dof, none⟩)] w fun e w' => e = .returned (.bool false) ∧ w' = w := by
  refine callsIn_of_wp Tryz.func80 rfl trivial ?_ rfl
  simp only [Tryz.ntmps80, List.size_toArray, List.length_cons, List.length_nil, Nat.reduceAdd, Nat.reduceSub, Array.replicate_succ, Array.replicate_zero, List.push_toArray, List.append_toArray, List.nil_append, List.cons_append]
  gi_wp2
  go_ret
  exact ⟨rfl, rfl⟩
set_option maxRecDepth 100000 in
set_option maxHeartbeats 4000000 in
theorem block_in (n : Nat) (k : Nat) (h3 : k < 3120) (w : World) :
    CallsIn Fence.wide n Tryz.prog 107 #[.int .i64 k] w fun e w' => e = .returned (.bool true) ∧ w' = w := by
  refine callsIn_of_wp Tryz.func107 rfl trivial ?_ rfl
  simp only [Tryz.ntmps107, List.size_toArray, List.length_cons, List.length_nil, Nat.reduceAdd, Nat.reduceSub, Array.replicate_succ, Array.replicate_zero, List.push_toArray, List.append_toArray, List.nil_append, List.cons_append]
  gi_wp2
  go_ret
  exact ⟨by simp; omega, rfl⟩
open Go.Vi in
/-- What is computed without objects, of the model's world. -/
theorem closed_calls {P : Program} {f : Nat} {args : List AV} {r : AV} {N d : Nat} (h : (erun P (fun _ _ => .shr) (fun _ => none) N d f args []).map (·.1) = some r) (w : World) (Vs : List Value) (hl : args.length = Vs.length)
    (hr : ∀ (c : Cx) (j : Nat) (x : AV) (V : Value), args[j]? = some x → Vs[j]? = some V → Rel c x V) : Calls P f Vs.toArray w fun e w' => ∃ c V, e = .returned V ∧ Rel c r V ∧ Below w.heap.size w w' := by
  obtain ⟨⟨r', H'⟩, h1, h2⟩ := Option.map_eq_some_iff.1 h
  simp only at h2
  subst h2
  have hx := erun_ok P (fun _ _ => .shr) (fun _ => none) N d f args [] r' H' h1
  have s : Sim { w := w, I := fun _ => False, B := fun _ => False, ρ := fun _ => none } [] := ⟨fun _ h => h.elim, fun _ h => h.elim, fun l o h => by simp at h, fun l l' cl cl' h => by obtain ⟨o, h, _⟩ := h; simp at h, fun _ _ => rfl⟩
  refine (hx _ Vs s (fun g cs h => by cases h) hl (hr _)).mono ?_
  rintro e w' ⟨r1, H1, c', V, rfl, rfl, t, hV, rfl, rfl⟩
  exact ⟨c', V, rfl, hV, t.ext.os, t.ext.tape, t.ext.output, t.ext.size, fun b hb => t.ext.frame b hb fun ⟨l, cl, ⟨o, h, _⟩, _⟩ => by simp at h⟩
theorem clone_nil (n : Nat) (w : World) : CallsIn Fence.wide n Tryz.prog 39 #[.slice none 0 0] w fun e w' => e = .returned (.slice none 0 0) ∧ Below w.heap.size w w' := by
  refine callsIn_wide.2 ((closed_calls (args := [.nils]) (r := .nils) (N := 10) (d := 3) (by kernel_rfl) w [_] rfl ?_).mono ?_)
  · intro c j x V h1 h2
    cases j with
    | zero => cases h1; cases h2; exact .nils
    | succ j => simp at h1
  · rintro e w' ⟨c, V, rfl, hV, hB⟩
    cases hV
    exact ⟨rfl, hB⟩
set_option maxRecDepth 100000 in
set_option maxHeartbeats 4000000 in
theorem read_in (n : Nat) (hn : 6 ≤ n) (db dof : Nat) (x : Int) (k : Nat) (hx : x = k) (h3 : k < 3120) (w : World) (hdb : db < w.heap.size) (h0 : w.cell? ⟨db, dof, none⟩ = some (.bool true)) (h21 : w.cell? ⟨db, dof + 3121, none⟩ = some (.slice none 0 0)) (h22 : w.cell? ⟨db, dof + 3122, none⟩ = some (.bool false))
    (hk : w.cell? ⟨db, dof + 1 + k, none⟩ = some (.slice none 0 0)) :
    CallsIn Fence.wide n Tryz.prog 75 #[.pointer (some ⟨db, dof, none⟩), .int .i64 x] w fun e w' => e = .returned (.tuple #[.slice none 0 0, .int .i64 0]) ∧ Below w.heap.size w w' := by
  subst hx
  have h1 : 1 ≤ n := by omega
  have h113 : Fence.wide.fn 80 := trivial
  have h136 : Fence.wide.fn 107 := trivial
  have h169 : Fence.wide.fn 108 := trivial
  have h87 : Fence.wide.fn 39 := trivial
  refine callsIn_of_wp Tryz.func75 rfl trivial ?_ rfl
  simp only [Tryz.ntmps75, List.size_toArray, List.length_cons, List.length_nil, Nat.reduceAdd, Nat.reduceSub, Array.replicate_succ, Array.replicate_zero, List.push_toArray, List.append_toArray, List.nil_append, List.cons_append]
  gi_wp2_with (first
    | (gi_at_call 80; refine (none_in _ db dof _ h0).mono ?_; rintro e w' ⟨rfl, rfl⟩)
    | (gi_at_call 107; refine (block_in _ k h3 _).mono ?_; rintro e w' ⟨rfl, rfl⟩)
    | (gi_at_call 39; refine (clone_nil _ _).mono ?_; rintro e w' ⟨rfl, hB2⟩)
    | (gi_at_call 108; refine (there_in _ (by omega) db dof none 0 0 (fun _ => 0) (fun _ => none) (fun _ => 0) (fun _ => 0) k h3 none 0 0 (by omega) _ hdb h21 (.inl ⟨_, _, rfl, rfl⟩) hk).mono ?_; rintro e w' ⟨⟨k', hk', _⟩ | ⟨_, rfl⟩, hB⟩; · exact absurd hk' (Nat.not_lt_zero _)))
  exact bodyPost_ret (v := .tuple #[.slice none 0 0, .int .i64 0]) (by simp [results, Tryz.f75, go_sem]) rfl ⟨rfl, hB.trans (hB2.mono hB.size)⟩
def noRec : Value := .agg #[.int .i64 0, .int .i64 0, .int .i64 0, .int .i64 0, .slice none 0 0, .slice none 0 0, .int .i64 0, .int .i64 0, .string ⟨#[]⟩, .slice none 0 0]
set_option maxRecDepth 100000 in
theorem dec_nil (n : Nat) (w : World) : CallsIn Fence.wide n Tryz.prog 76 #[.slice none 0 0] w fun e w' => e = .returned (.tuple #[.int .i64 0, noRec, .int .i64 3]) ∧ Below w.heap.size w w' := by
  refine callsIn_wide.2 ((closed_calls (args := [.nils]) (r := .tup [.int .i64 0, .agg [.int .i64 0, .int .i64 0, .int .i64 0, .int .i64 0, .nils, .nils, .int .i64 0, .int .i64 0, .str ⟨#[]⟩, .nils], .int .i64 3]) (N := 50) (d := 12) (by kernel_rfl) w [_] rfl ?_).mono ?_)
  · intro c j x V h1 h2
    cases j with
    | zero => cases h1; cases h2; exact .nils
    | succ j => simp at h1
  · rintro e w' ⟨c, V, rfl, hV, hB⟩
    refine ⟨?_, hB⟩
    cases hV with
    | tup _ Vs hl h2 =>
      match Vs, hl with
      | ⟨[a, b, d]⟩, _ =>
        have ha := h2 0 _ a rfl rfl
        have hb := h2 1 _ b rfl rfl
        have hd := h2 2 _ d rfl rfl
        cases ha
        cases hd
        cases hb with
        | agg _ Us hl' h1' h2' =>
          match Us, hl' with
          | ⟨[x0, x1, x2, x3, x4, x5, x6, x7, x8, x9]⟩, _ =>
            have e0 := h2' 0 _ x0 rfl rfl
            cases e0
            have e1 := h2' 1 _ x1 rfl rfl
            cases e1
            have e2 := h2' 2 _ x2 rfl rfl
            cases e2
            have e3 := h2' 3 _ x3 rfl rfl
            cases e3
            have e4 := h2' 4 _ x4 rfl rfl
            cases e4
            have e5 := h2' 5 _ x5 rfl rfl
            cases e5
            have e6 := h2' 6 _ x6 rfl rfl
            cases e6
            have e7 := h2' 7 _ x7 rfl rfl
            cases e7
            have e8 := h2' 8 _ x8 rfl rfl
            cases e8
            have e9 := h2' 9 _ x9 rfl rfl
            cases e9
            rfl
set_option maxRecDepth 100000 in
set_option maxHeartbeats 400000 in
theorem open_in (n : Nat) (hn : 8 ≤ n) (db dof : Nat) (w : World) (hdb : db < w.heap.size) (h0 : w.cell? ⟨db, dof, none⟩ = some (.bool true)) (h21 : w.cell? ⟨db, dof + 3121, none⟩ = some (.slice none 0 0)) (h22 : w.cell? ⟨db, dof + 3122, none⟩ = some (.bool false))
    (hk : ∀ k, 120 ≤ k → k < 3120 → w.cell? ⟨db, dof + 1 + k, none⟩ = some (.slice none 0 0)) :
    CallsIn Fence.wide n Tryz.prog 42 #[.pointer (some ⟨db, dof, none⟩)] w fun e w' => ∃ b, w.heap.size ≤ b ∧ e = .returned (.tuple #[.pointer (some ⟨b, 0, none⟩), .int .i64 0]) ∧
      w'.heap[b]? = some (.cells #[.pointer (some ⟨db, dof, none⟩), .slice none 0 0, .int .i64 0, .bool false] 153 (0, 0)) ∧ Below w.heap.size w w' := by
  have h1 : 1 ≤ n := by omega
  have h110 : Fence.wide.fn 75 := trivial
  have h111 : Fence.wide.fn 76 := trivial
  refine callsIn_of_wp Tryz.func42 rfl trivial ?_ rfl
  simp only [Tryz.ntmps42, List.size_toArray, List.length_cons, List.length_nil, Nat.reduceAdd, Nat.reduceSub, Array.replicate_succ, Array.replicate_zero, List.push_toArray, List.append_toArray, List.nil_append, List.cons_append]
  gi_wp2
  obtain ⟨w1, hw1⟩ : ∃ w1, w.alloc (.cells #[.pointer (some ⟨db, dof, none⟩), .slice none 0 0, .int .i64 0, .bool false] 153) = w1 := ⟨_, rfl⟩
  have hB0 : Below w.heap.size w w1 := by rw [← hw1]; exact (Below.refl _ w).alloc (Nat.le_refl _) _
  have hsz : w1.heap.size = w.heap.size + 1 := by rw [← hw1]; simp
  have hT : w1.heap[w.heap.size]? = some (.cells #[.pointer (some ⟨db, dof, none⟩), .slice none 0 0, .int .i64 0, .bool false] 153 (0, 0)) := by rw [← hw1]; exact World.alloc_heap_new w _
  rw [hw1]
  clear hw1
  gi_loopw [5, 6, 7] (fun v5 v6 v7 wr => ∃ k : Nat, 1 ≤ k ∧ k ≤ 3001 ∧ v7 = .int .i64 k ∧ v6 = .bool false ∧ v5 = .bool (decide (k = 1)) ∧ Below w1.heap.size w1 wr)
    (fun _ _ v7 _ => 3001 - (intOf v7).toNat)
  case atStart => exact ⟨1, by omega, by omega, rfl, rfl, rfl, Below.refl _ _⟩
  case round =>
    obtain ⟨k, hk1, hk2, rfl, rfl, rfl, hB1⟩ := hrel
    have hBw : Below w.heap.size w wr := hB0.trans (hB1.mono (by omega))
    by_cases hlt : k ≤ 3000
    · have c0 := (hBw.cell (p := ⟨db, _, none⟩) hdb).trans h0
      have c21 := (hBw.cell (p := ⟨db, _, none⟩) hdb).trans h21
      have c22 := (hBw.cell (p := ⟨db, _, none⟩) hdb).trans h22
      have ck := (hBw.cell (p := ⟨db, _, none⟩) hdb).trans (hk (119 + k) (by omega) (by omega))
      have hdb' : db < wr.heap.size := Nat.lt_of_lt_of_le hdb hBw.size
      by_cases hk1 : k = 1
      · subst hk1
        gi_wp2_with (first
          | (gi_at_call 75; refine (read_in _ (by omega) db dof _ (119 + 1) (by omega) (by omega) _ hdb' c0 c21 c22 ck).mono ?_; rintro e w' ⟨rfl, hB2⟩)
          | (gi_at_call 76; refine (dec_nil _ _).mono ?_; rintro e w' ⟨rfl, hB3⟩; unfold noRec))
        exact ⟨⟨2, by omega, by omega, rfl, rfl, rfl, ((hB1.trans (hB2.mono hB1.size)).trans (hB3.mono (Nat.le_trans hB1.size hB2.size))).alloc (Nat.le_trans (Nat.le_trans hB1.size hB2.size) hB3.size) _⟩, by simp [intOf]⟩
      · rw [decide_eq_false hk1]
        gi_wp2_with (gi_at_call 75; refine (read_in _ (by omega) db dof _ (119 + k) (by omega) (by omega) _ hdb' c0 c21 c22 ck).mono ?_; rintro e w' ⟨rfl, hB2⟩)
        go_roundw
        case rel => exact ⟨k + 1, by omega, by omega, rfl, rfl, by simp; omega, hB1.trans (hB2.mono hB1.size)⟩
        case measure => simp [intOf]; omega
    · obtain rfl : k = 3001 := by omega
      have hTw : wr.heap[w.heap.size]? = some (.cells #[.pointer (some ⟨db, dof, none⟩), .slice none 0 0, .int .i64 0, .bool false] 153 (0, 0)) := (hB1.block _ (by omega)).trans hT
      have cT1 : wr.cell? ⟨w.heap.size, 1, none⟩ = some (.slice none 0 0) := by simp [World.cell?, hTw]
      have cT2 : wr.cell? ⟨w.heap.size, 2, none⟩ = some (.int .i64 0) := by simp [World.cell?, hTw]
      have fT : wr.frozen? ⟨w.heap.size, 2, none⟩ = false := by simp [World.frozen?, hTw]
      gi_wp2
      refine bodyPost_ret (v := .tuple #[.pointer (some ⟨w.heap.size, 0, none⟩), .int .i64 0]) (by simp [results, Tryz.f42, go_sem]) rfl ⟨w.heap.size, Nat.le_refl _, rfl, ?_, hBw.setCell (p := ⟨w.heap.size, 2, none⟩) (Nat.le_refl _) _⟩
      simp only [World.setCell, Array.getElem?_modify, hTw]
      rfl
end Bw
end Go.Proofs
