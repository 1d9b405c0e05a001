/- Parts of closed calls, computed. -/
import Derived.Test.YteejggadbifdbaaGreatNrSa
import Derived.Test.YteejggadbifdbaaGreatNrSb
import Derived.Test.YteejggadbifdbaaGreatNrSc
import Derived.Test.YteejggadbifdbaaGreatNrSd
set_option autoImplicit false
set_option linter.unusedVariables false
set_option maxRecDepth 1000000
namespace Go.Vi
open Go Go.Proofs
theorem pT20_2_6 : pieceX cfY F1 H20_2.length isN b20 T20_2_5 sT20_2_6 T20_2_6 = true := by kernel_rfl
theorem pT20_2_7 : pieceX cfY F1 H20_2.length isN b20 T20_2_6 sT20_2_7 T20_2_7 = true := by kernel_rfl
theorem pT20_2_8 : pieceX cfY F1 H20_2.length (isX 0) b20 T20_2_7 sT20_2_8 T20_2_8 = true := by kernel_rfl
theorem pT20_2_9 : pieceN cfY F1 H20_2.length 1 y20 T20_2_8 sT20_2_9 T20_2_9 = true := by kernel_rfl
theorem pT20_3_0 : pieceN cfY F1 H20_3.length 3 (bodyT Tryz.f20) E20_3 sT20_3_0 T20_3_0 = true := by kernel_rfl
theorem pT20_3_1 : pieceN cfY F1 H20_3.length 1 (.seq a20 (.block 0 (.loop b20))) T20_3_0 sT20_3_1 T20_3_1 = true := by kernel_rfl
end Go.Vi
