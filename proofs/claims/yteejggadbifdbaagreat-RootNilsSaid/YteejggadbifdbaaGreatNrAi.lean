/- Parts of closed calls, computed. -/
import Derived.Test.YteejggadbifdbaaGreatNrSa
import Derived.Test.YteejggadbifdbaaGreatNrSb
import Derived.Test.YteejggadbifdbaaGreatNrSc
import Derived.Test.YteejggadbifdbaaGreatNrSd
set_option autoImplicit false
set_option linter.unusedVariables false
set_option maxRecDepth 1000000
namespace Go.Vi
open Go Go.Proofs
theorem pT11_1_0 : pieceN cfY F1 H11_1.length 3 (bodyT Tryz.f11) E11_1 sT11_1_0 T11_1_0 = true := by kernel_rfl
theorem pT11_2_0 : pieceN cfY F1 H11_2.length 3 (bodyT Tryz.f11) E11_2 sT11_2_0 T11_2_0 = true := by kernel_rfl
theorem pT11_3_0 : pieceN cfY F1 H11_3.length 3 (bodyT Tryz.f11) E11_3 sT11_3_0 T11_3_0 = true := by kernel_rfl
end Go.Vi
