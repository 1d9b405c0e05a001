/- Parts of closed calls, computed. -/
import Derived.Test.YteejggadbifdbaaGreatNrSa
import Derived.Test.YteejggadbifdbaaGreatNrSb
import Derived.Test.YteejggadbifdbaaGreatNrSc
import Derived.Test.YteejggadbifdbaaGreatNrSd
set_option autoImplicit false
set_option linter.unusedVariables false
set_option maxRecDepth 1000000
namespace Go.Vi
open Go Go.Proofs
theorem pT20_3_5 : pieceX cfY F1 H20_3.length isN b20 T20_3_4 sT20_3_5 T20_3_5 = true := by kernel_rfl
theorem pT20_3_6 : pieceX cfY F1 H20_3.length isN b20 T20_3_5 sT20_3_6 T20_3_6 = true := by kernel_rfl
theorem pT20_3_7 : pieceX cfY F1 H20_3.length isN b20 T20_3_6 sT20_3_7 T20_3_7 = true := by kernel_rfl
theorem pT20_3_8 : pieceX cfY F1 H20_3.length (isX 0) b20 T20_3_7 sT20_3_8 T20_3_8 = true := by kernel_rfl
end Go.Vi
