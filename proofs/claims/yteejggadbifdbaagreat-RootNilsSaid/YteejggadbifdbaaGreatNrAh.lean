/- Parts of closed calls, computed. -/
import Derived.Test.YteejggadbifdbaaGreatNrSa
import Derived.Test.YteejggadbifdbaaGreatNrSb
import Derived.Test.YteejggadbifdbaaGreatNrSc
import Derived.Test.YteejggadbifdbaaGreatNrSd
set_option autoImplicit false
set_option linter.unusedVariables false
set_option maxRecDepth 1000000
namespace Go.Vi
open Go Go.Proofs
theorem pT20_4_4 : pieceX cfY F1 H20_4.length isN b20 T20_4_3 sT20_4_4 T20_4_4 = true := by kernel_rfl
theorem pT20_4_5 : pieceX cfY F1 H20_4.length (isX 0) b20 T20_4_4 sT20_4_5 T20_4_5 = true := by kernel_rfl
theorem pT20_4_6 : pieceN cfY F1 H20_4.length 1 y20 T20_4_5 sT20_4_6 T20_4_6 = true := by kernel_rfl
end Go.Vi
