/- QueueNils: computed for every argument. -/
import Derived.Test.YtgfbdcbbgpkmnaaGreatDoorNqLw
import Derived.KernelRfl
section
set_option autoImplicit false
set_option linter.unusedVariables false
set_option maxRecDepth 1000000
namespace Go.Vi
open Go Go.Proofs
/-- What is written down, by numbers. -/
noncomputable def ob (k : Int) (s : ByteArray) (n : Int) (b0 b1 b2 b4 : Bool) : Nat → AV × AV
  | 0 => (.bool (ltN 100 (Int.ofNat s.size)), .bool b0)
  | 1 => (.bool (kB k), .bool b1)
  | 2 => (.bool (isNameB s), .bool b2)
  | 3 => (.bool (decide (s.size < 9223372036854775808)), .bool true)
  | 4 => (.bool (kB n), .bool b4)
  | 5 => (.int .i64 0, .int .i64 0)
  | 6 => (.int .i64 k, .int .i64 k)
  | 7 => (.int .i64 n, .int .i64 n)
  | 8 => (.str s, .str s)
  | 9 => (.int .i64 1, .int .i64 1)
  | 10 => (.int .i64 s.size, .int .i64 s.size)
  | _ => (.bool false, .bool false)
theorem factA (k : Int) (s : ByteArray) (n : Int) : outG (runH cfY O3 OG3 (W3 true true true true) 30 3 [.int .i64 k, .str s, .int .i64 n] HT.none) = some (.bool true, ([0] : List Nat).map (ob k s n true true true true)) := by kernel_rfl
theorem factB (k : Int) (s : ByteArray) (n : Int) : outG (runH cfY O3 OG3 (W3 false true true true) 30 3 [.int .i64 k, .str s, .int .i64 n] HT.none) = some (.bool true, ([0, 1, 1, 3, 1, 2, 2, 2, 5, 5, 5, 6, 8, 1, 1, 3, 1, 2, 2, 2, 1, 1, 3, 1, 2, 2, 2, 1, 1, 3, 1, 2, 2, 2, 1, 1, 3, 1, 3, 1, 1, 3, 1, 2, 2, 2, 4, 4, 4, 4, 5, 5, 7, 7, 6, 3, 2, 2, 2, 2, 5, 5, 8, 8, 10, 1, 1, 3, 1, 2, 2, 2, 9, 9, 9, 6, 8, 1, 1, 3, 1, 2, 2, 2, 1, 1, 3, 1, 2, 2, 2, 1, 1, 3, 1, 2, 2, 2, 1, 1, 3, 1, 3, 1, 1, 3, 1, 2, 2, 2, 4, 4, 4, 4, 9, 9, 7, 7, 6, 3, 2, 2, 2, 2, 9, 9, 8, 8, 10, 1, 1, 3, 1, 2, 2, 2, 9, 9, 9, 6, 8, 1, 1, 3, 1, 2, 2, 2, 1, 1, 3, 1, 2, 2, 2, 1, 1, 3, 1, 2, 2, 2, 1, 1, 3, 1, 3, 1, 1, 3, 1, 2, 2, 2, 4, 4, 4, 4, 9, 9, 7, 7, 6, 3, 2, 2, 2, 2, 9, 9, 8, 8, 10] : List Nat).map (ob k s n false true true true)) := by kernel_rfl
theorem factC (k : Int) (s : ByteArray) (n : Int) : outG (runH cfY O3 OG3 (W3 false true true false) 30 3 [.int .i64 k, .str s, .int .i64 n] HT.none) = some (.bool true, ([0, 1, 1, 3, 1, 2, 2, 2, 5, 5, 5, 6, 8, 1, 1, 3, 1, 2, 2, 2, 1, 1, 3, 1, 2, 2, 2, 1, 1, 3, 1, 2, 2, 2, 1, 1, 3, 1, 3, 1, 1, 3, 1, 2, 2, 2, 4, 4, 4, 4, 5, 5, 7, 3, 2, 2, 2, 2, 5, 5, 8, 8, 10, 1, 1, 3, 1, 2, 2, 2, 9, 9, 9, 6, 8, 1, 1, 3, 1, 2, 2, 2, 1, 1, 3, 1, 2, 2, 2, 1, 1, 3, 1, 2, 2, 2, 1, 1, 3, 1, 3, 1, 1, 3, 1, 2, 2, 2, 4, 4, 4, 4, 9, 9, 7, 3, 2, 2, 2, 2, 9, 9, 8, 8, 10, 1, 1, 3, 1, 2, 2, 2, 9, 9, 9, 6, 8, 1, 1, 3, 1, 2, 2, 2, 1, 1, 3, 1, 2, 2, 2, 1, 1, 3, 1, 2, 2, 2, 1, 1, 3, 1, 3, 1, 1, 3, 1, 2, 2, 2, 4, 4, 4, 4, 9, 9, 7, 3, 2, 2, 2, 2, 9, 9, 8, 8, 10] : List Nat).map (ob k s n false true true false)) := by kernel_rfl
end Go.Vi
end
section
set_option autoImplicit false
set_option linter.unusedVariables false
set_option maxRecDepth 1000000
namespace Go.Vi
open Go Go.Proofs
theorem factD (k : Int) (s : ByteArray) (n : Int) : outG (runH cfY O3 OG3 (W3 false true false true) 30 3 [.int .i64 k, .str s, .int .i64 n] HT.none) = some (.bool true, ([0, 1, 1, 3, 1, 2, 2, 2, 5, 5, 5, 6, 8, 1, 1, 3, 1, 2, 2, 2, 1, 1, 3, 1, 2, 2, 2, 1, 1, 3, 1, 2, 2, 2, 1, 1, 3, 1, 3, 1, 1, 3, 1, 2, 2, 2, 4, 4, 4, 4, 5, 5, 7, 7, 6, 3, 2, 2, 2, 2, 5, 5, 8, 1, 1, 3, 1, 2, 2, 2, 9, 9, 9, 6, 8, 1, 1, 3, 1, 2, 2, 2, 1, 1, 3, 1, 2, 2, 2, 1, 1, 3, 1, 2, 2, 2, 1, 1, 3, 1, 3, 1, 1, 3, 1, 2, 2, 2, 4, 4, 4, 4, 9, 9, 7, 7, 6, 3, 2, 2, 2, 2, 9, 9, 8, 1, 1, 3, 1, 2, 2, 2, 9, 9, 9, 6, 8, 1, 1, 3, 1, 2, 2, 2, 1, 1, 3, 1, 2, 2, 2, 1, 1, 3, 1, 2, 2, 2, 1, 1, 3, 1, 3, 1, 1, 3, 1, 2, 2, 2, 4, 4, 4, 4, 9, 9, 7, 7, 6, 3, 2, 2, 2, 2, 9, 9, 8] : List Nat).map (ob k s n false true false true)) := by kernel_rfl
theorem factE (k : Int) (s : ByteArray) (n : Int) : outG (runH cfY O3 OG3 (W3 false true false false) 30 3 [.int .i64 k, .str s, .int .i64 n] HT.none) = some (.bool true, ([0, 1, 1, 3, 1, 2, 2, 2, 5, 5, 5, 6, 8, 1, 1, 3, 1, 2, 2, 2, 1, 1, 3, 1, 2, 2, 2, 1, 1, 3, 1, 2, 2, 2, 1, 1, 3, 1, 3, 1, 1, 3, 1, 2, 2, 2, 4, 4, 4, 4, 5, 5, 7, 3, 2, 2, 2, 2, 5, 5, 8, 1, 1, 3, 1, 2, 2, 2, 9, 9, 9, 6, 8, 1, 1, 3, 1, 2, 2, 2, 1, 1, 3, 1, 2, 2, 2, 1, 1, 3, 1, 2, 2, 2, 1, 1, 3, 1, 3, 1, 1, 3, 1, 2, 2, 2, 4, 4, 4, 4, 9, 9, 7, 3, 2, 2, 2, 2, 9, 9, 8, 1, 1, 3, 1, 2, 2, 2, 9, 9, 9, 6, 8, 1, 1, 3, 1, 2, 2, 2, 1, 1, 3, 1, 2, 2, 2, 1, 1, 3, 1, 2, 2, 2, 1, 1, 3, 1, 3, 1, 1, 3, 1, 2, 2, 2, 4, 4, 4, 4, 9, 9, 7, 3, 2, 2, 2, 2, 9, 9, 8] : List Nat).map (ob k s n false true false false)) := by kernel_rfl
theorem factF (k : Int) (s : ByteArray) (n : Int) : outG (runH cfY O3 OG3 (W3 false false true true) 30 3 [.int .i64 k, .str s, .int .i64 n] HT.none) = some (.bool true, ([0, 1, 1, 1, 11, 11, 11, 5, 5, 5, 6, 8, 1, 1, 1, 11, 11, 11, 1, 1, 1, 11, 11, 11, 1, 1, 1, 11, 11, 11, 1, 1, 1, 3, 1, 1, 1, 11, 11, 11, 4, 4, 4, 4, 5, 5, 7, 7, 6, 3, 2, 2, 2, 2, 5, 5, 8, 8, 10, 1, 1, 1, 11, 11, 11, 9, 9, 9, 6, 8, 1, 1, 1, 11, 11, 11, 1, 1, 1, 11, 11, 11, 1, 1, 1, 11, 11, 11, 1, 1, 1, 3, 1, 1, 1, 11, 11, 11, 4, 4, 4, 4, 9, 9, 7, 7, 6, 3, 2, 2, 2, 2, 9, 9, 8, 8, 10, 1, 1, 1, 11, 11, 11, 9, 9, 9, 6, 8, 1, 1, 1, 11, 11, 11, 1, 1, 1, 11, 11, 11, 1, 1, 1, 11, 11, 11, 1, 1, 1, 3, 1, 1, 1, 11, 11, 11, 4, 4, 4, 4, 9, 9, 7, 7, 6, 3, 2, 2, 2, 2, 9, 9, 8, 8, 10] : List Nat).map (ob k s n false false true true)) := by kernel_rfl
end Go.Vi
end
section
set_option autoImplicit false
set_option linter.unusedVariables false
set_option maxRecDepth 1000000
namespace Go.Vi
open Go Go.Proofs
theorem factG (k : Int) (s : ByteArray) (n : Int) : outG (runH cfY O3 OG3 (W3 false false true false) 30 3 [.int .i64 k, .str s, .int .i64 n] HT.none) = some (.bool true, ([0, 1, 1, 1, 11, 11, 11, 5, 5, 5, 6, 8, 1, 1, 1, 11, 11, 11, 1, 1, 1, 11, 11, 11, 1, 1, 1, 11, 11, 11, 1, 1, 1, 3, 1, 1, 1, 11, 11, 11, 4, 4, 4, 4, 5, 5, 7, 3, 2, 2, 2, 2, 5, 5, 8, 8, 10, 1, 1, 1, 11, 11, 11, 9, 9, 9, 6, 8, 1, 1, 1, 11, 11, 11, 1, 1, 1, 11, 11, 11, 1, 1, 1, 11, 11, 11, 1, 1, 1, 3, 1, 1, 1, 11, 11, 11, 4, 4, 4, 4, 9, 9, 7, 3, 2, 2, 2, 2, 9, 9, 8, 8, 10, 1, 1, 1, 11, 11, 11, 9, 9, 9, 6, 8, 1, 1, 1, 11, 11, 11, 1, 1, 1, 11, 11, 11, 1, 1, 1, 11, 11, 11, 1, 1, 1, 3, 1, 1, 1, 11, 11, 11, 4, 4, 4, 4, 9, 9, 7, 3, 2, 2, 2, 2, 9, 9, 8, 8, 10] : List Nat).map (ob k s n false false true false)) := by kernel_rfl
theorem factH (k : Int) (s : ByteArray) (n : Int) : outG (runH cfY O3 OG3 (W3 false false false true) 30 3 [.int .i64 k, .str s, .int .i64 n] HT.none) = some (.bool true, ([0, 1, 1, 1, 11, 11, 11, 5, 5, 5, 6, 8, 1, 1, 1, 11, 11, 11, 1, 1, 1, 11, 11, 11, 1, 1, 1, 11, 11, 11, 1, 1, 1, 3, 1, 1, 1, 11, 11, 11, 4, 4, 4, 4, 5, 5, 7, 7, 6, 3, 2, 2, 2, 2, 5, 5, 8, 1, 1, 1, 11, 11, 11, 9, 9, 9, 6, 8, 1, 1, 1, 11, 11, 11, 1, 1, 1, 11, 11, 11, 1, 1, 1, 11, 11, 11, 1, 1, 1, 3, 1, 1, 1, 11, 11, 11, 4, 4, 4, 4, 9, 9, 7, 7, 6, 3, 2, 2, 2, 2, 9, 9, 8, 1, 1, 1, 11, 11, 11, 9, 9, 9, 6, 8, 1, 1, 1, 11, 11, 11, 1, 1, 1, 11, 11, 11, 1, 1, 1, 11, 11, 11, 1, 1, 1, 3, 1, 1, 1, 11, 11, 11, 4, 4, 4, 4, 9, 9, 7, 7, 6, 3, 2, 2, 2, 2, 9, 9, 8] : List Nat).map (ob k s n false false false true)) := by kernel_rfl
theorem factI (k : Int) (s : ByteArray) (n : Int) : outG (runH cfY O3 OG3 (W3 false false false false) 30 3 [.int .i64 k, .str s, .int .i64 n] HT.none) = some (.bool true, ([0, 1, 1, 1, 11, 11, 11, 5, 5, 5, 6, 8, 1, 1, 1, 11, 11, 11, 1, 1, 1, 11, 11, 11, 1, 1, 1, 11, 11, 11, 1, 1, 1, 3, 1, 1, 1, 11, 11, 11, 4, 4, 4, 4, 5, 5, 7, 3, 2, 2, 2, 2, 5, 5, 8, 1, 1, 1, 11, 11, 11, 9, 9, 9, 6, 8, 1, 1, 1, 11, 11, 11, 1, 1, 1, 11, 11, 11, 1, 1, 1, 11, 11, 11, 1, 1, 1, 3, 1, 1, 1, 11, 11, 11, 4, 4, 4, 4, 9, 9, 7, 3, 2, 2, 2, 2, 9, 9, 8, 1, 1, 1, 11, 11, 11, 9, 9, 9, 6, 8, 1, 1, 1, 11, 11, 11, 1, 1, 1, 11, 11, 11, 1, 1, 1, 11, 11, 11, 1, 1, 1, 3, 1, 1, 1, 11, 11, 11, 4, 4, 4, 4, 9, 9, 7, 3, 2, 2, 2, 2, 9, 9, 8] : List Nat).map (ob k s n false false false false)) := by kernel_rfl
end Go.Vi
end
section
set_option autoImplicit false
set_option linter.unusedVariables false
set_option maxRecDepth 1000000
namespace Go.Vi
open Go Go.Proofs
theorem qn_xs {k : Int} {s : ByteArray} {n : Int} {b0 b1 b2 b4 : Bool} {L : Obls} (h : outG (runH cfY O3 OG3 (W3 b0 b1 b2 b4) 30 3 [.int .i64 k, .str s, .int .i64 n] HT.none) = some (.bool true, L)) (hL : oksL L) : XS Tryz.prog (fun _ => none) 3 [.int .i64 k, .str s, .int .i64 n] [] fun r H => r = .bool true := by
  obtain ⟨h', e⟩ := outG_ok h
  have := runH_xs (c := cfY) O3_sim OG3_sim K3_ok (w3_ok b0 b1 b2 b4) HT.none_ok e hL
  rw [HT.none_den] at this
  exact this.mono fun r1 H1 hr => hr.1
theorem ob_ok {k : Int} {s : ByteArray} {n : Int} {b0 b1 b2 b4 : Bool} (l : List Nat) (h0 : decide (100 < s.size) = b0) (h1 : 1 ∈ l → kB k = b1) (h2 : 2 ∈ l → isNameB s = b2) (h3 : 3 ∈ l → s.size < 9223372036854775808) (h4 : 4 ∈ l → kB n = b4) : oksL (l.map (ob k s n b0 b1 b2 b4)) := by
  intro p hp
  obtain ⟨j, hj, rfl⟩ := List.mem_map.1 hp
  have c0 : ltN 100 (Int.ofNat s.size) = decide (100 < s.size) := by
    rw [ltN_eq]
    congr 1
    simp only [eq_iff_iff]
    exact (show (100 : Int) < (s.size : Int) ↔ 100 < s.size by omega)
  match j, hj with
  | 0, _ => simp only [ob, AV.same, c0, h0, beq_self_eq_true]
  | 1, hj => simp only [ob, AV.same, h1 hj, beq_self_eq_true]
  | 2, hj => simp only [ob, AV.same, h2 hj, beq_self_eq_true]
  | 3, hj => simp only [ob, AV.same, decide_eq_true (h3 hj), beq_self_eq_true]
  | 4, hj => simp only [ob, AV.same, h4 hj, beq_self_eq_true]
  | 5, _ => rfl
  | 6, _ => simp only [ob, AV.same, decide_true, Bool.and_self]
  | 7, _ => simp only [ob, AV.same, decide_true, Bool.and_self]
  | 8, _ => simp only [ob, AV.same, decide_true, Bool.and_self]
  | 9, _ => rfl
  | 10, _ => simp only [ob, AV.same, decide_true, Bool.and_self]
  | _ + 11, _ => rfl
theorem f3_xs (k : Int) (s : ByteArray) (n : Int) : XS Tryz.prog (fun _ => none) 3 [.int .i64 k, .str s, .int .i64 n] [] fun r H => r = .bool true := by
  by_cases q0 : 100 < s.size
  · exact qn_xs (factA k s n) (ob_ok _ (by simp [q0]) (fun h => by simp at h) (fun h => by simp at h) (fun h => by simp at h) (fun h => by simp at h))
  have h0 : decide (100 < s.size) = false := by simp [q0]
  have h3 : s.size < 9223372036854775808 := by omega
  cases h1 : kB k <;> cases h2 : isNameB s <;> cases h4 : kB n
  · exact qn_xs (factI k s n) (ob_ok _ h0 (fun _ => h1) (fun _ => h2) (fun _ => h3) (fun _ => h4))
  · exact qn_xs (factH k s n) (ob_ok _ h0 (fun _ => h1) (fun _ => h2) (fun _ => h3) (fun _ => h4))
  · exact qn_xs (factG k s n) (ob_ok _ h0 (fun _ => h1) (fun _ => h2) (fun _ => h3) (fun _ => h4))
  · exact qn_xs (factF k s n) (ob_ok _ h0 (fun _ => h1) (fun _ => h2) (fun _ => h3) (fun _ => h4))
  · exact qn_xs (factE k s n) (ob_ok _ h0 (fun _ => h1) (fun _ => h2) (fun _ => h3) (fun _ => h4))
  · exact qn_xs (factD k s n) (ob_ok _ h0 (fun _ => h1) (fun _ => h2) (fun _ => h3) (fun _ => h4))
  · exact qn_xs (factC k s n) (ob_ok _ h0 (fun _ => h1) (fun _ => h2) (fun _ => h3) (fun _ => h4))
  · exact qn_xs (factB k s n) (ob_ok _ h0 (fun _ => h1) (fun _ => h2) (fun _ => h3) (fun _ => h4))
end Go.Vi
end
