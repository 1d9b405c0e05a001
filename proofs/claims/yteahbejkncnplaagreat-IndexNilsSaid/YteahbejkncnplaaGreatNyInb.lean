/- IndexNils: computed for every key and number, the rest. -/
import Derived.Test.YteahbejkncnplaaGreatNyIn
set_option autoImplicit false
set_option linter.unusedVariables false
set_option maxRecDepth 1000000
namespace Go.Vi
open Go Go.Proofs
theorem factD (r : List (List AV)) (n : Int) : outG (runG cfY O2 (W4 false true false true) 30 4 [.list .loose r, .int .i64 n] HT.none) = some (.bool true, ([0, 1, 1, 1, 1, 1, 1, 1, 1, 2, 2, 2, 1, 1, 1, 1, 2, 2, 2, 1, 1, 1, 1, 1, 1, 1, 1, 1, 1, 1, 1, 2, 2, 2, 1, 1, 1, 1, 2, 2, 2, 1, 1, 1, 1, 1, 1, 1, 1, 1, 1, 1, 1, 2, 2, 2, 1, 1, 1, 1, 2, 2, 2, 1, 1, 1, 1] : List Nat).map (ob r n false true false true)) := by kernel_rfl
theorem factE (r : List (List AV)) (n : Int) : outG (runG cfY O2 (W4 false false false true) 30 4 [.list .loose r, .int .i64 n] HT.none) = some (.bool true, ([0, 1, 1, 1, 1, 1, 1, 1, 1, 4, 4, 4, 1, 1, 1, 1, 4, 4, 4, 1, 1, 1, 1, 1, 1, 1, 1, 1, 1, 1, 1, 4, 4, 4, 1, 1, 1, 1, 4, 4, 4, 1, 1, 1, 1, 1, 1, 1, 1, 1, 1, 1, 1, 4, 4, 4, 1, 1, 1, 1, 4, 4, 4, 1, 1, 1, 1] : List Nat).map (ob r n false false false true)) := by kernel_rfl
theorem factN (n : Int) : outG (runG cfY O2 (W4 false false false true) 30 4 [.nils, .int .i64 n] HT.none) = some (.bool true, ([4, 4, 4, 4, 4, 4, 4, 4, 4, 4, 4, 4, 4, 4, 4, 4, 4, 4, 4, 4, 4, 4, 4, 4, 4, 4, 4, 4, 4, 4, 4, 4, 4, 4, 4, 4, 4, 4, 4, 4, 4, 4, 4, 4, 4, 4, 4, 4, 4, 4, 4, 4, 4, 4, 4, 4, 4, 4, 4, 4, 4, 4, 4, 4, 4, 4, 4] : List Nat).map (ob [] n false false false true)) := by kernel_rfl
end Go.Vi
