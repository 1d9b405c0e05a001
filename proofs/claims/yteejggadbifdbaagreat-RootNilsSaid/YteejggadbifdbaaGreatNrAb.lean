/- Parts of closed calls, computed. -/
import Derived.Test.YteejggadbifdbaaGreatNrSa
import Derived.Test.YteejggadbifdbaaGreatNrSb
import Derived.Test.YteejggadbifdbaaGreatNrSc
import Derived.Test.YteejggadbifdbaaGreatNrSd
set_option autoImplicit false
set_option linter.unusedVariables false
set_option maxRecDepth 1000000
namespace Go.Vi
open Go Go.Proofs
theorem pT20_1_0 : pieceN cfY F1 H20_1.length 3 (bodyT Tryz.f20) E20_1 sT20_1_0 T20_1_0 = true := by kernel_rfl
theorem pT20_1_1 : pieceN cfY F1 H20_1.length 1 (.seq a20 (.block 0 (.loop b20))) T20_1_0 sT20_1_1 T20_1_1 = true := by kernel_rfl
theorem pT20_1_2 : pieceX cfY F1 H20_1.length isN b20 T20_1_1 sT20_1_2 T20_1_2 = true := by kernel_rfl
theorem pT20_1_3 : pieceX cfY F1 H20_1.length (isX 0) b20 T20_1_2 sT20_1_3 T20_1_3 = true := by kernel_rfl
theorem pT20_1_4 : pieceN cfY F1 H20_1.length 1 y20 T20_1_3 sT20_1_4 T20_1_4 = true := by kernel_rfl
theorem pT20_2_0 : pieceN cfY F1 H20_2.length 3 (bodyT Tryz.f20) E20_2 sT20_2_0 T20_2_0 = true := by kernel_rfl
theorem pT20_2_1 : pieceN cfY F1 H20_2.length 1 (.seq a20 (.block 0 (.loop b20))) T20_2_0 sT20_2_1 T20_2_1 = true := by kernel_rfl
theorem pT20_2_2 : pieceX cfY F1 H20_2.length isN b20 T20_2_1 sT20_2_2 T20_2_2 = true := by kernel_rfl
end Go.Vi
