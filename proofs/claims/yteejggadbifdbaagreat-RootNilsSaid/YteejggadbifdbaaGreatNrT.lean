/- Disk.there: a range over slices.Backward. -/
import Derived.RangeFuncNested
import Derived.RangeFuncLeaves
import Derived.RangeFuncBox
import Derived.Shelf.Abstract
import Derived.WalkKit
import Derived.OwnWalkIn
import Derived.TacticsInMore
import Derived.LoopNIn
import Derived.LoopIn
import Derived.Test.YteejggadbifdbaaGreatProg
set_option autoImplicit false
namespace Go.Proofs
open Go.RowKit Go.Shelf
attribute [local go_sem] Oper.semAt_some
namespace Bw
def upto {α : Type} (f : Nat → α) (k : Nat) : List α := (List.range k).map f
theorem upto_succ {α : Type} (f : Nat → α) (k : Nat) : upto f (k + 1) = upto f k ++ [f k] := by simp [upto, List.range_succ]
theorem upto_length {α : Type} (f : Nat → α) (k : Nat) : (upto f k).length = k := by simp [upto]
/-- What a round is given: the place and the element. -/
def enc (m : Nat → Int) (V : Nat → Value) (j : Nat) : Array Value := #[.int .i64 (j : Int), .agg #[.int .i64 (m j), V j]]

set_option maxRecDepth 100000 in
set_option maxHeartbeats 2000000 in
theorem back1_in (F : Fence) (n : Nat) (h7 : F.fn 202) (hro : F.round = none) (hn : 1 ≤ n) (l Bs n₀ b off len cap : Nat) (m : Nat → Int) (V : Nat → Value) (hV : ∀ j, j < len → (V j).oneCell' = true) (hreach : len * 8 ≤ 140737488351232) (hb : b < n₀) (J Jx : List Nat → World → Prop)
    (hY : ∀ pre x W, J pre W → pre.length < len → YieldAt F (n - 1) Tryz.prog l (enc m V x) W fun e W' =>
      (e = .returned (.bool true) ∧ J (pre ++ [x]) W' ∧ Below n₀ W W') ∨ (e = .returned (.bool false) ∧ Jx (pre ++ [x]) W'))
    (W : World) (hBs : W.cell? ⟨Bs, 0, none⟩ = some (.slice (some ⟨b, off, none⟩) len cap)) (hBn : Bs < n₀)
    (hc : ∀ j, j < len → W.cell? ⟨b, off + j * 2, none⟩ = some (.int .i64 (m j))) (hd : ∀ j, j < len → W.cell? ⟨b, off + j * 2 + 1, none⟩ = some (V j)) (h0 : J [] W) :
    CallsIn F n Tryz.prog 202 #[.func (.yield l) #[] #[], .pointer (some ⟨Bs, 0, none⟩)] W fun e W' => (∃ v, e = .returned v) ∧
      ((∃ ys, ys = upto (fun j => len - 1 - j) len ∧ J ys W') ∨ (∃ pre, (∃ k, k ≤ len ∧ pre = upto (fun j => len - 1 - j) k) ∧ Jx pre W')) := by
  refine callsIn_of_wp Tryz.func202 rfl h7 ?_ hro
  simp only [Tryz.ntmps202, List.size_toArray, List.length_cons, List.length_nil, Nat.reduceAdd, Nat.reduceSub, Array.replicate_succ, Array.replicate_zero, List.push_toArray, List.append_toArray, List.nil_append, List.cons_append]
  gi_wp2
  gi_loopw [3] (fun i wr => ∃ k : Nat, k ≤ len ∧ i = .int .i64 ((len : Int) - 1 - k) ∧ J (upto (fun j => len - 1 - j) k) wr ∧ Below n₀ W wr)
    (fun i _ => (intOf i + 1).toNat)
  case atStart => exact ⟨0, Nat.zero_le _, by simp, h0, Below.refl _ _⟩
  case round =>
    obtain ⟨k, hk, rfl, hJs, hnx⟩ := hrel
    by_cases hlt : k < len
    · have hcx : wr.cell? ⟨b, off + (len - 1 - k) * 2, none⟩ = some (.int .i64 (m (len - 1 - k))) := (hnx.cell (p := ⟨b, _, none⟩) hb).trans (hc _ (by omega))
      have hdx : wr.cell? ⟨b, off + (len - 1 - k) * 2 + 1, none⟩ = some (V (len - 1 - k)) := (hnx.cell (p := ⟨b, _, none⟩) hb).trans (hd _ (by omega))
      have hBx : wr.cell? ⟨Bs, 0, none⟩ = some (.slice (some ⟨b, off, none⟩) len cap) := (hnx.cell (p := ⟨Bs, 0, none⟩) hBn).trans hBs
      obtain ⟨fn, tmps, assign, body, hy, hR⟩ := hY _ (len - 1 - k) wr hJs (by rw [upto_length]; exact hlt)
      have e1 : (len : Int) - 1 - k = ((len - 1 - k : Nat) : Int) := by omega
      rw [e1]
      have hV' := hV (len - 1 - k) (by omega)
      unfold enc at hy
      gi_wp2
      refine hR.mono ?_
      rintro e W3 (⟨rfl, hJ3, hk3⟩ | ⟨rfl, hJx3⟩)
      · gi_wp2
        go_roundw
        case rel => exact ⟨k + 1, by omega, by congr 1; omega, by rw [upto_succ]; exact hJ3, hnx.trans hk3⟩
        case measure => simp [intOf]; try omega
      · gi_wp2
        refine bodyPost_ret (results_none rfl _ _ _) rfl ?_
        exact ⟨⟨_, rfl⟩, .inr ⟨_, ⟨k + 1, by omega, (upto_succ _ _).symm⟩, hJx3⟩⟩
    · obtain rfl : k = len := by omega
      gi_wp2
      go_end0
      exact ⟨⟨_, rfl⟩, .inl ⟨_, rfl, hJs⟩⟩

set_option maxRecDepth 100000 in
set_option maxHeartbeats 1000000 in
/-- .. at an empty slice: no round. -/
theorem back1_nil_in (F : Fence) (n : Nat) (h7 : F.fn 202) (hro : F.round = none) (l Bs : Nat) (J : List Nat → World → Prop) (W : World) (ba : Option Addr) (bc : Nat) (hBs : W.cell? ⟨Bs, 0, none⟩ = some (.slice ba 0 bc)) (h0 : J [] W) :
    CallsIn F n Tryz.prog 202 #[.func (.yield l) #[] #[], .pointer (some ⟨Bs, 0, none⟩)] W fun e W' => (∃ v, e = .returned v) ∧ J [] W' := by
  refine callsIn_of_wp Tryz.func202 rfl h7 ?_ hro
  simp only [Tryz.ntmps202, List.size_toArray, List.length_cons, List.length_nil, Nat.reduceAdd, Nat.reduceSub, Array.replicate_succ, Array.replicate_zero, List.push_toArray, List.append_toArray, List.nil_append, List.cons_append]
  gi_wp2
  gi_loopw [3] (fun i wr => i = .int .i64 (-1) ∧ J [] wr) (fun _ _ => 0)
  case atStart => exact ⟨rfl, h0⟩
  case round =>
    obtain ⟨rfl, hJs⟩ := hrel
    gi_wp2
    go_end0
    exact ⟨⟨_, rfl⟩, hJs⟩

set_option maxHeartbeats 1000000 in
theorem back_in (F : Fence) (n : Nat) (h5 : F.fn 168) (hro : F.round = none) (a : Option Addr) (len cap : Nat) (w : World) :
    CallsIn F n Tryz.prog 168 #[.slice a len cap] w fun e w' => e = .returned (.func (.func 202) #[] #[.pointer (some ⟨w.heap.size, 0, none⟩)]) ∧ w' = w.alloc (.cells #[.slice a len cap] 94) := by
  refine callsIn_of_wp Tryz.func168 rfl h5 ?_ hro
  simp only [Tryz.ntmps168, List.size_toArray, List.length_cons, List.length_nil, Nat.reduceAdd, Nat.reduceSub, Array.replicate_succ, Array.replicate_zero, List.push_toArray, List.append_toArray, List.nil_append, List.cons_append]
  gi_wp2
  go_ret
  exact ⟨rfl, rfl⟩

/-- The slice holds len writes, in a block below n₀; or it is empty. -/
def Wr (n₀ : Nat) (W : World) (sv : Value) (len : Nat) (m : Nat → Int) (V : Nat → Value) : Prop :=
  (∃ ba bc, sv = .slice ba 0 bc ∧ len = 0) ∨ ∃ b off cap, sv = .slice (some ⟨b, off, none⟩) len cap ∧ b < n₀ ∧ (∀ j, j < len → (V j).oneCell' = true) ∧
    (∀ j, j < len → W.cell? ⟨b, off + j * 2, none⟩ = some (.int .i64 (m j))) ∧ ∀ j, j < len → W.cell? ⟨b, off + j * 2 + 1, none⟩ = some (V j)
theorem Wr.below {n₀ n₁ : Nat} {A B : World} (h : Below n₀ A B) {sv : Value} {len : Nat} {m : Nat → Int} {V : Nat → Value} (hn : n₁ ≤ n₀) : Wr n₁ A sv len m V → Wr n₁ B sv len m V
  | .inl e => .inl e
  | .inr ⟨b, off, cap, e, hb, hv, hc, hd⟩ => .inr ⟨b, off, cap, e, hb, hv, fun j hj => (h.cell (p := ⟨b, _, none⟩) (Nat.lt_of_lt_of_le hb hn)).trans (hc j hj), fun j hj => (h.cell (p := ⟨b, _, none⟩) (Nat.lt_of_lt_of_le hb hn)).trans (hd j hj)⟩

theorem back_stops (F : Fence) (n : Nat) (h7 : F.fn 202) (hro : F.round = none) (hn : 1 ≤ n) (Bs n₀ n₁ : Nat) (sv : Value) (len : Nat) (m : Nat → Int) (V : Nat → Value) (hreach : len * 8 ≤ 140737488351232) (w : World) (hBn : Bs < n₀) (hn₀ : n₀ ≤ w.heap.size) (hn₁ : n₁ ≤ n₀)
    (hc : w.cell? ⟨Bs, 0, none⟩ = some sv) (hI : Wr n₁ w sv len m V) :
    SeqStopsK F n Tryz.prog 202 #[.pointer (some ⟨Bs, 0, none⟩)] (enc m V) (Below n₀) (fun ys => ys = upto (fun j => len - 1 - j) len) (fun pre => ∃ k, k ≤ len ∧ pre = upto (fun j => len - 1 - j) k) len w := fun l J Jx W hW _ _ hY h0 => by
  have hc' := (hW.cell (p := ⟨Bs, 0, none⟩) (Nat.lt_of_lt_of_le hBn hn₀)).trans hc
  rcases hI.below (hW.mono hn₀) hn₁ with ⟨ba, bc, rfl, rfl⟩ | ⟨b, off, cap, rfl, hb, hv, hcs, hds⟩
  · exact (back1_nil_in F n h7 hro l Bs J W ba bc hc' h0).mono fun e W' ⟨he, hj⟩ => ⟨he, .inl ⟨_, rfl, hj⟩⟩
  · exact back1_in F n h7 hro hn l Bs n₀ b off len cap m V hv hreach (by omega) J Jx hY W hc' hBn hcs hds h0
end Bw
end Go.Proofs
