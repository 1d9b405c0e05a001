/- Parts of closed calls, computed. -/
import Derived.Test.YteejggadbifdbaaGreatNrSa
import Derived.Test.YteejggadbifdbaaGreatNrSb
import Derived.Test.YteejggadbifdbaaGreatNrSc
import Derived.Test.YteejggadbifdbaaGreatNrSd
set_option autoImplicit false
set_option linter.unusedVariables false
set_option maxRecDepth 1000000
namespace Go.Vi
open Go Go.Proofs
theorem pT11_4_0 : pieceN cfY F1 H11_4.length 3 (bodyT Tryz.f11) E11_4 sT11_4_0 T11_4_0 = true := by kernel_rfl
theorem pT11_5_0 : pieceN cfY F1 H11_5.length 3 (bodyT Tryz.f11) E11_5 sT11_5_0 T11_5_0 = true := by kernel_rfl
theorem pT11_6_0 : pieceN cfY F1 H11_6.length 3 (bodyT Tryz.f11) E11_6 sT11_6_0 T11_6_0 = true := by kernel_rfl
end Go.Vi
