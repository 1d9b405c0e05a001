/- Parts of closed calls, computed. -/
import Derived.Test.YtgfbdcbbgpkmnaaGreatDoorNqSt
import Derived.KernelRfl
set_option autoImplicit false
set_option linter.unusedVariables false
set_option maxRecDepth 1000000
namespace Go.Vi
open Go Go.Proofs
theorem pT35_1_0 : pieceN cfY F1 H35_1.length 11 (bodyT Tryz.f35) E35_1 sT35_1_0 T35_1_0 = true := by kernel_rfl
theorem pT35_1_1 : pieceN cfY F1 H35_1.length 2 (restK 11 (bodyT Tryz.f35)) T35_1_0 sT35_1_1 T35_1_1 = true := by kernel_rfl
end Go.Vi
