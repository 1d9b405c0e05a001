/- Parts of closed calls, computed. -/
import Derived.Test.YtodhknjjjhmpfaaGreatNtSt
import Derived.KernelRfl
set_option autoImplicit false
set_option linter.unusedVariables false
set_option maxRecDepth 1000000
namespace Go.Vi
open Go Go.Proofs
theorem pT7_1_0 : pieceN cfY F1 H7_1.length 5 (bodyT Tryz.f7) E7_1 sT7_1_0 T7_1_0 = true := by kernel_rfl
end Go.Vi
