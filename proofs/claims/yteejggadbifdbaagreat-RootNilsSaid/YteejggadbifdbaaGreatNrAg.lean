/- Parts of closed calls, computed. -/
import Derived.Test.YteejggadbifdbaaGreatNrSa
import Derived.Test.YteejggadbifdbaaGreatNrSb
import Derived.Test.YteejggadbifdbaaGreatNrSc
import Derived.Test.YteejggadbifdbaaGreatNrSd
set_option autoImplicit false
set_option linter.unusedVariables false
set_option maxRecDepth 1000000
namespace Go.Vi
open Go Go.Proofs
theorem pT20_3_9 : pieceN cfY F1 H20_3.length 1 y20 T20_3_8 sT20_3_9 T20_3_9 = true := by kernel_rfl
theorem pT20_4_0 : pieceN cfY F1 H20_4.length 3 (bodyT Tryz.f20) E20_4 sT20_4_0 T20_4_0 = true := by kernel_rfl
theorem pT20_4_1 : pieceN cfY F1 H20_4.length 1 (.seq a20 (.block 0 (.loop b20))) T20_4_0 sT20_4_1 T20_4_1 = true := by kernel_rfl
theorem pT20_4_2 : pieceX cfY F1 H20_4.length isN b20 T20_4_1 sT20_4_2 T20_4_2 = true := by kernel_rfl
theorem pT20_4_3 : pieceX cfY F1 H20_4.length isN b20 T20_4_2 sT20_4_3 T20_4_3 = true := by kernel_rfl
end Go.Vi
