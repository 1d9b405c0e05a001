/- RootNils: computed for every argument. -/
import Derived.Test.YteejggadbifdbaaGreatNrLw
import Derived.KernelRfl
section
set_option autoImplicit false
set_option linter.unusedVariables false
set_option maxRecDepth 1000000
namespace Go.Vi
open Go Go.Proofs
/-- What is written down, by numbers. -/
noncomputable def ob (k : Int) (r : List (List AV)) (b0 bk : Bool) : Nat → AV × AV
  | 0 => (.bool (ltN 40 (Int.ofNat (lenL r))), .bool b0)
  | 1 => (.bool (keyV r), .bool bk)
  | 3 => (.bool (eqN k 1), .bool false)
  | 4 => (.bool (eqN k 2), .bool false)
  | 5 => (.bool (eqN k 3), .bool false)
  | 6 => (.bool (eqN k 4), .bool false)
  | 7 => (.bool (!kindB k), .bool true)
  | _ => (.bool false, .bool false)
end Go.Vi
end
section
set_option autoImplicit false
set_option linter.unusedVariables false
set_option maxRecDepth 1000000
namespace Go.Vi
open Go Go.Proofs
theorem fact0 (k : Int) (r : List (List AV)) (n : Int) : outG (runG cfY O3 (W3 true true false) 30 3 [.int .i64 k, .list .loose r, .int .i64 n] HT.none) = some (.bool true, ([0] : List Nat).map (ob k r true true)) := by kernel_rfl
theorem fact4 (r : List (List AV)) (n : Int) : outG (runG cfY O3 (W3 false true false) 30 3 [.int .i64 2, .list .loose r, .int .i64 n] HT.none) = some (.bool true, ([0, 2, 1, 1, 1, 1, 1, 1, 1, 1, 1, 1, 1, 1, 1, 1, 1, 1, 1, 1] : List Nat).map (ob 2 r false true)) := by kernel_rfl
theorem fact8 (r : List (List AV)) (n : Int) : outG (runG cfY O3 (W3 false false false) 30 3 [.int .i64 3, .list .loose r, .int .i64 n] HT.none) = some (.bool true, ([0, 2, 1, 1, 1, 1, 1, 1, 1, 1, 1, 1, 1, 1, 1, 1, 1, 1, 1, 1] : List Nat).map (ob 3 r false false)) := by kernel_rfl
theorem fact12 (n : Int) : outG (runG cfY O3 (W3 false false false) 30 3 [.int .i64 4, .nils, .int .i64 n] HT.none) = some (.bool true, ([2, 2, 2, 2, 2, 2, 2, 2, 2, 2, 2, 2, 2, 2, 2, 2, 2, 2, 2, 2] : List Nat).map (ob 4 [] false false)) := by kernel_rfl
end Go.Vi
end
section
set_option autoImplicit false
set_option linter.unusedVariables false
set_option maxRecDepth 1000000
namespace Go.Vi
open Go Go.Proofs
theorem fact1 (r : List (List AV)) (n : Int) : outG (runG cfY O3 (W3 false true false) 30 3 [.int .i64 1, .list .loose r, .int .i64 n] HT.none) = some (.bool true, ([0, 2, 1, 1, 1, 1, 1, 1, 1, 1, 1, 1, 1, 1, 1, 1, 1, 1, 1, 1] : List Nat).map (ob 1 r false true)) := by kernel_rfl
theorem fact5 (r : List (List AV)) (n : Int) : outG (runG cfY O3 (W3 false false false) 30 3 [.int .i64 2, .list .loose r, .int .i64 n] HT.none) = some (.bool true, ([0, 2, 1, 1, 1, 1, 1, 1, 1, 1, 1, 1, 1, 1, 1, 1, 1, 1, 1, 1] : List Nat).map (ob 2 r false false)) := by kernel_rfl
theorem fact9 (n : Int) : outG (runG cfY O3 (W3 false false false) 30 3 [.int .i64 3, .nils, .int .i64 n] HT.none) = some (.bool true, ([2, 2, 2, 2, 2, 2, 2, 2, 2, 2, 2, 2, 2, 2, 2, 2, 2, 2, 2, 2] : List Nat).map (ob 3 [] false false)) := by kernel_rfl
theorem fact13 (k : Int) (r : List (List AV)) (n : Int) : outG (runG cfY O3 (W3 false true true) 30 3 [.int .i64 k, .list .loose r, .int .i64 n] HT.none) = some (.bool true, ([0, 3, 4, 5, 6, 3, 4, 5, 6, 7, 3, 4, 5, 6, 1, 1, 1, 1, 1, 1, 1, 1, 1, 1, 1, 1] : List Nat).map (ob k r false true)) := by kernel_rfl
end Go.Vi
end
section
set_option autoImplicit false
set_option linter.unusedVariables false
set_option maxRecDepth 1000000
namespace Go.Vi
open Go Go.Proofs
theorem fact2 (r : List (List AV)) (n : Int) : outG (runG cfY O3 (W3 false false false) 30 3 [.int .i64 1, .list .loose r, .int .i64 n] HT.none) = some (.bool true, ([0, 2, 1, 1, 1, 1, 1, 1, 1, 1, 1, 1, 1, 1, 1, 1, 1, 1, 1, 1] : List Nat).map (ob 1 r false false)) := by kernel_rfl
theorem fact6 (n : Int) : outG (runG cfY O3 (W3 false false false) 30 3 [.int .i64 2, .nils, .int .i64 n] HT.none) = some (.bool true, ([2, 2, 2, 2, 2, 2, 2, 2, 2, 2, 2, 2, 2, 2, 2, 2, 2, 2, 2, 2] : List Nat).map (ob 2 [] false false)) := by kernel_rfl
theorem fact10 (r : List (List AV)) (n : Int) : outG (runG cfY O3 (W3 false true false) 30 3 [.int .i64 4, .list .loose r, .int .i64 n] HT.none) = some (.bool true, ([0, 2, 1, 1, 1, 1, 1, 1, 1, 1, 1, 1, 1, 1, 1, 1, 1, 1, 1, 1] : List Nat).map (ob 4 r false true)) := by kernel_rfl
theorem fact14 (k : Int) (r : List (List AV)) (n : Int) : outG (runG cfY O3 (W3 false false true) 30 3 [.int .i64 k, .list .loose r, .int .i64 n] HT.none) = some (.bool true, ([0, 3, 4, 5, 6, 3, 4, 5, 6, 7, 3, 4, 5, 6, 1, 1, 1, 1, 1, 1, 1, 1, 1, 1, 1, 1] : List Nat).map (ob k r false false)) := by kernel_rfl
end Go.Vi
end
section
set_option autoImplicit false
set_option linter.unusedVariables false
set_option maxRecDepth 1000000
namespace Go.Vi
open Go Go.Proofs
theorem fact3 (n : Int) : outG (runG cfY O3 (W3 false false false) 30 3 [.int .i64 1, .nils, .int .i64 n] HT.none) = some (.bool true, ([2, 2, 2, 2, 2, 2, 2, 2, 2, 2, 2, 2, 2, 2, 2, 2, 2, 2, 2, 2] : List Nat).map (ob 1 [] false false)) := by kernel_rfl
theorem fact7 (r : List (List AV)) (n : Int) : outG (runG cfY O3 (W3 false true false) 30 3 [.int .i64 3, .list .loose r, .int .i64 n] HT.none) = some (.bool true, ([0, 2, 1, 1, 1, 1, 1, 1, 1, 1, 1, 1, 1, 1, 1, 1, 1, 1, 1, 1] : List Nat).map (ob 3 r false true)) := by kernel_rfl
theorem fact11 (r : List (List AV)) (n : Int) : outG (runG cfY O3 (W3 false false false) 30 3 [.int .i64 4, .list .loose r, .int .i64 n] HT.none) = some (.bool true, ([0, 2, 1, 1, 1, 1, 1, 1, 1, 1, 1, 1, 1, 1, 1, 1, 1, 1, 1, 1] : List Nat).map (ob 4 r false false)) := by kernel_rfl
theorem fact15 (k : Int) (n : Int) : outG (runG cfY O3 (W3 false false true) 30 3 [.int .i64 k, .nils, .int .i64 n] HT.none) = some (.bool true, ([2, 3, 4, 5, 6, 3, 4, 5, 6, 7, 3, 4, 5, 6, 2, 2, 2, 2, 2, 2, 2, 2, 2, 2, 2, 2] : List Nat).map (ob k [] false false)) := by kernel_rfl
end Go.Vi
end
section
set_option autoImplicit false
set_option linter.unusedVariables false
set_option linter.unusedSimpArgs false
set_option maxRecDepth 1000000
namespace Go.Vi
open Go Go.Proofs
theorem rn_xs {xs : List AV} {b0 bk o : Bool} {L : Obls} (h : outG (runG cfY O3 (W3 b0 bk o) 30 3 xs HT.none) = some (.bool true, L)) (hL : oksL L) : XS Tryz.prog (fun _ => none) 3 xs [] fun r H => r = .bool true := by
  obtain ⟨h', e⟩ := outG_ok h
  have := runG_xs (c := cfY) O3_sim K3_ok (w3_ok b0 bk o) HT.none_ok e hL
  rw [HT.none_den] at this
  exact this.mono fun r1 H1 hr => hr.1
theorem ob_ok {k : Int} {r : List (List AV)} {b0 bk : Bool} (l : List Nat) (h0 : 0 ∈ l → decide (40 < r.length) = b0) (h1 : 1 ∈ l → keyV r = bk) (h3 : 3 ∈ l → k ≠ 1) (h4 : 4 ∈ l → k ≠ 2) (h5 : 5 ∈ l → k ≠ 3) (h6 : 6 ∈ l → k ≠ 4) (h7 : 7 ∈ l → kindB k = false) : oksL (l.map (ob k r b0 bk)) := by
  intro p hp
  obtain ⟨j, hj, rfl⟩ := List.mem_map.1 hp
  have c0 : ltN 40 (Int.ofNat (lenL r)) = decide (40 < r.length) := by
    rw [ltN_eq, lenL_eq]
    congr 1
    simp only [eq_iff_iff]
    exact (show (40 : Int) < (r.length : Int) ↔ 40 < r.length by omega)
  match j, hj with
  | 0, hj => simp only [ob, AV.same, c0, h0 hj, beq_self_eq_true]
  | 1, hj => simp only [ob, AV.same, h1 hj, beq_self_eq_true]
  | 2, _ => rfl
  | 3, hj => simp [ob, AV.same, eqN_eq, h3 hj]
  | 4, hj => simp [ob, AV.same, eqN_eq, h4 hj]
  | 5, hj => simp [ob, AV.same, eqN_eq, h5 hj]
  | 6, hj => simp [ob, AV.same, eqN_eq, h6 hj]
  | 7, hj => simp [ob, AV.same, h7 hj]
  | _ + 8, _ => rfl
theorem kind_no {k : Int} (h1 : k ≠ 1) (h2 : k ≠ 2) (h3 : k ≠ 3) (h4 : k ≠ 4) : kindB k = false := by
  unfold kindB
  rw [ltN_eq, ltN_eq]
  by_cases h : k < 1
  · rw [decide_eq_true h]; rfl
  · rw [decide_eq_true (show 4 < k by omega), Bool.not_true, Bool.and_false]
theorem f3_xs (k : Int) (x : AV) (hx : x = .nils ∨ ∃ r, x = .list .loose r) (n : Int) : XS Tryz.prog (fun _ => none) 3 [.int .i64 k, x, .int .i64 n] [] fun r H => r = .bool true := by
  rcases hx with rfl | ⟨r, rfl⟩
  ·
    by_cases e1 : k = 1
    · subst e1
      exact rn_xs (fact3 n) (ob_ok _ (fun h => absurd h (by decide)) (fun h => absurd h (by decide)) (fun h => absurd h (by decide)) (fun h => absurd h (by decide)) (fun h => absurd h (by decide)) (fun h => absurd h (by decide)) (fun h => absurd h (by decide)))
    by_cases e2 : k = 2
    · subst e2
      exact rn_xs (fact6 n) (ob_ok _ (fun h => absurd h (by decide)) (fun h => absurd h (by decide)) (fun h => absurd h (by decide)) (fun h => absurd h (by decide)) (fun h => absurd h (by decide)) (fun h => absurd h (by decide)) (fun h => absurd h (by decide)))
    by_cases e3 : k = 3
    · subst e3
      exact rn_xs (fact9 n) (ob_ok _ (fun h => absurd h (by decide)) (fun h => absurd h (by decide)) (fun h => absurd h (by decide)) (fun h => absurd h (by decide)) (fun h => absurd h (by decide)) (fun h => absurd h (by decide)) (fun h => absurd h (by decide)))
    by_cases e4 : k = 4
    · subst e4
      exact rn_xs (fact12 n) (ob_ok _ (fun h => absurd h (by decide)) (fun h => absurd h (by decide)) (fun h => absurd h (by decide)) (fun h => absurd h (by decide)) (fun h => absurd h (by decide)) (fun h => absurd h (by decide)) (fun h => absurd h (by decide)))
    exact rn_xs (fact15 k n) (ob_ok _ (fun h => absurd h (by decide)) (fun h => absurd h (by decide)) (fun _ => e1) (fun _ => e2) (fun _ => e3) (fun _ => e4) (fun _ => kind_no e1 e2 e3 e4))
  by_cases q0 : 40 < r.length
  · exact rn_xs (fact0 k r n) (ob_ok _ (fun _ => by simp [q0]) (fun h => absurd h (by decide)) (fun h => absurd h (by decide)) (fun h => absurd h (by decide)) (fun h => absurd h (by decide)) (fun h => absurd h (by decide)) (fun h => absurd h (by decide)))
  have h0 : decide (40 < r.length) = false := by simp [q0]
  by_cases e1 : k = 1
  · subst e1
    cases hb : keyV r with
    | true => exact rn_xs (fact1 r n) (ob_ok _ (fun _ => h0) (fun _ => hb) (fun h => absurd h (by decide)) (fun h => absurd h (by decide)) (fun h => absurd h (by decide)) (fun h => absurd h (by decide)) (fun h => absurd h (by decide)))
    | false => exact rn_xs (fact2 r n) (ob_ok _ (fun _ => h0) (fun _ => hb) (fun h => absurd h (by decide)) (fun h => absurd h (by decide)) (fun h => absurd h (by decide)) (fun h => absurd h (by decide)) (fun h => absurd h (by decide)))
  by_cases e2 : k = 2
  · subst e2
    cases hb : keyV r with
    | true => exact rn_xs (fact4 r n) (ob_ok _ (fun _ => h0) (fun _ => hb) (fun h => absurd h (by decide)) (fun h => absurd h (by decide)) (fun h => absurd h (by decide)) (fun h => absurd h (by decide)) (fun h => absurd h (by decide)))
    | false => exact rn_xs (fact5 r n) (ob_ok _ (fun _ => h0) (fun _ => hb) (fun h => absurd h (by decide)) (fun h => absurd h (by decide)) (fun h => absurd h (by decide)) (fun h => absurd h (by decide)) (fun h => absurd h (by decide)))
  by_cases e3 : k = 3
  · subst e3
    cases hb : keyV r with
    | true => exact rn_xs (fact7 r n) (ob_ok _ (fun _ => h0) (fun _ => hb) (fun h => absurd h (by decide)) (fun h => absurd h (by decide)) (fun h => absurd h (by decide)) (fun h => absurd h (by decide)) (fun h => absurd h (by decide)))
    | false => exact rn_xs (fact8 r n) (ob_ok _ (fun _ => h0) (fun _ => hb) (fun h => absurd h (by decide)) (fun h => absurd h (by decide)) (fun h => absurd h (by decide)) (fun h => absurd h (by decide)) (fun h => absurd h (by decide)))
  by_cases e4 : k = 4
  · subst e4
    cases hb : keyV r with
    | true => exact rn_xs (fact10 r n) (ob_ok _ (fun _ => h0) (fun _ => hb) (fun h => absurd h (by decide)) (fun h => absurd h (by decide)) (fun h => absurd h (by decide)) (fun h => absurd h (by decide)) (fun h => absurd h (by decide)))
    | false => exact rn_xs (fact11 r n) (ob_ok _ (fun _ => h0) (fun _ => hb) (fun h => absurd h (by decide)) (fun h => absurd h (by decide)) (fun h => absurd h (by decide)) (fun h => absurd h (by decide)) (fun h => absurd h (by decide)))
  cases hb : keyV r with
  | true => exact rn_xs (fact13 k r n) (ob_ok _ (fun _ => h0) (fun _ => hb) (fun _ => e1) (fun _ => e2) (fun _ => e3) (fun _ => e4) (fun _ => kind_no e1 e2 e3 e4))
  | false => exact rn_xs (fact14 k r n) (ob_ok _ (fun _ => h0) (fun _ => hb) (fun _ => e1) (fun _ => e2) (fun _ => e3) (fun _ => e4) (fun _ => kind_no e1 e2 e3 e4))
end Go.Vi
end
