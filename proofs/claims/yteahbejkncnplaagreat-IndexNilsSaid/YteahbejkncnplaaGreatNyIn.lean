/- IndexNils: computed for every key and number. -/
import Derived.Test.YteahbejkncnplaaGreatNyAs
set_option autoImplicit false
set_option linter.unusedVariables false
set_option maxRecDepth 1000000
namespace Go.Vi
open Go Go.Proofs
/-- What is written down, by numbers. -/
noncomputable def ob (r : List (List AV)) (n : Int) (b0 b1 b2 b3 : Bool) : Nat → AV × AV
  | 0 => (.bool (ltN 40 (Int.ofNat (lenL r))), .bool b0)
  | 1 => (.bool (!ltN (Int.ofNat (lenL r)) 1), .bool b1)
  | 2 => (.bool (!ltN 24 (Int.ofNat (lenL r))), .bool b2)
  | 3 => (.bool (!ltN n 0), .bool b3)
  | _ => (.bool false, .bool false)
theorem factA (r : List (List AV)) (n : Int) : outG (runG cfY O2 (W4 true true true true) 30 4 [.list .loose r, .int .i64 n] HT.none) = some (.bool true, ([0] : List Nat).map (ob r n true true true true)) := by kernel_rfl
theorem factB (r : List (List AV)) (n : Int) : outG (runG cfY O2 (W4 false true true true) 30 4 [.list .loose r, .int .i64 n] HT.none) = some (.bool true, ([0, 1, 1, 1, 1, 1, 1, 1, 1, 2, 2, 3, 3, 3, 2, 1, 1, 1, 1, 2, 2, 3, 3, 3, 2, 1, 1, 1, 1, 1, 1, 1, 1, 1, 1, 1, 1, 2, 2, 3, 3, 3, 2, 1, 1, 1, 1, 2, 2, 3, 3, 3, 2, 1, 1, 1, 1, 1, 1, 1, 1, 1, 1, 1, 1, 2, 2, 3, 3, 3, 2, 1, 1, 1, 1, 2, 2, 3, 3, 3, 2, 1, 1, 1, 1] : List Nat).map (ob r n false true true true)) := by kernel_rfl
theorem factC (r : List (List AV)) (n : Int) : outG (runG cfY O2 (W4 false true true false) 30 4 [.list .loose r, .int .i64 n] HT.none) = some (.bool true, ([0, 1, 1, 1, 1, 1, 1, 1, 1, 2, 2, 3, 3, 3, 2, 1, 1, 1, 1, 2, 2, 3, 3, 3, 2, 1, 1, 1, 1, 1, 1, 1, 1, 1, 1, 1, 1, 2, 2, 3, 3, 3, 2, 1, 1, 1, 1, 2, 2, 3, 3, 3, 2, 1, 1, 1, 1, 1, 1, 1, 1, 1, 1, 1, 1, 2, 2, 3, 3, 3, 2, 1, 1, 1, 1, 2, 2, 3, 3, 3, 2, 1, 1, 1, 1] : List Nat).map (ob r n false true true false)) := by kernel_rfl
end Go.Vi
