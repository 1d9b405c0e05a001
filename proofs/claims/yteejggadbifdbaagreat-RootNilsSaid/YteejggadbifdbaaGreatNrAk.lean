/- Parts of closed calls, computed. -/
import Derived.Test.YteejggadbifdbaaGreatNrSa
import Derived.Test.YteejggadbifdbaaGreatNrSb
import Derived.Test.YteejggadbifdbaaGreatNrSc
import Derived.Test.YteejggadbifdbaaGreatNrSd
set_option autoImplicit false
set_option linter.unusedVariables false
set_option maxRecDepth 1000000
namespace Go.Vi
open Go Go.Proofs
theorem pT11_7_0 : pieceN cfY F1 H11_7.length 3 (bodyT Tryz.f11) E11_7 sT11_7_0 T11_7_0 = true := by kernel_rfl
theorem pT11_8_0 : pieceN cfY F1 H11_8.length 3 (bodyT Tryz.f11) E11_8 sT11_8_0 T11_8_0 = true := by kernel_rfl
end Go.Vi
