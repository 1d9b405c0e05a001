/- Parts of closed calls, computed. -/
import Derived.Test.YtgfbdcbbgpkmnaaGreatDoorNqSt
import Derived.KernelRfl
set_option autoImplicit false
set_option linter.unusedVariables false
set_option maxRecDepth 1000000
namespace Go.Vi
open Go Go.Proofs
theorem pT6_1_0 : pieceN cfY F1 H6_1.length 6 (bodyT Tryz.f6) E6_1 sT6_1_0 T6_1_0 = true := by kernel_rfl
end Go.Vi
