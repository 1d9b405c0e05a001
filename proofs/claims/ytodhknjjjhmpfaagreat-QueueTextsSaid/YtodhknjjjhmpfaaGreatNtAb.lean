/- Parts of closed calls, computed. -/
import Derived.Test.YtodhknjjjhmpfaaGreatNtSt
import Derived.KernelRfl
set_option autoImplicit false
set_option linter.unusedVariables false
set_option maxRecDepth 1000000
namespace Go.Vi
open Go Go.Proofs
theorem pT8_1_0 : pieceN cfY F1 H8_1.length 6 (bodyT Tryz.f8) E8_1 sT8_1_0 T8_1_0 = true := by kernel_rfl
end Go.Vi
