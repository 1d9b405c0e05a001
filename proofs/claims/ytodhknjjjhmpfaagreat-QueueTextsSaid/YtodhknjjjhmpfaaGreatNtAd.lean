/- Parts of closed calls, computed. -/
import Derived.Test.YtodhknjjjhmpfaaGreatNtSt
import Derived.KernelRfl
set_option autoImplicit false
set_option linter.unusedVariables false
set_option maxRecDepth 1000000
namespace Go.Vi
open Go Go.Proofs
theorem pT28_2_0 : pieceN cfY F1 H28_2.length 11 (bodyT Tryz.f28) E28_2 sT28_2_0 T28_2_0 = true := by kernel_rfl
theorem pT28_2_1 : pieceN cfY F1 H28_2.length 2 (restK 11 (bodyT Tryz.f28)) T28_2_0 sT28_2_1 T28_2_1 = true := by kernel_rfl
end Go.Vi
