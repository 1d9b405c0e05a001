/- Parts of closed calls, computed. -/
import Derived.Test.YteejggadbifdbaaGreatNrSa
import Derived.Test.YteejggadbifdbaaGreatNrSb
import Derived.Test.YteejggadbifdbaaGreatNrSc
import Derived.Test.YteejggadbifdbaaGreatNrSd
set_option autoImplicit false
set_option linter.unusedVariables false
set_option maxRecDepth 1000000
namespace Go.Vi
open Go Go.Proofs
theorem pT20_3_2 : pieceX cfY F1 H20_3.length isN b20 T20_3_1 sT20_3_2 T20_3_2 = true := by kernel_rfl
theorem pT20_3_3 : pieceX cfY F1 H20_3.length isN b20 T20_3_2 sT20_3_3 T20_3_3 = true := by kernel_rfl
theorem pT20_3_4 : pieceX cfY F1 H20_3.length isN b20 T20_3_3 sT20_3_4 T20_3_4 = true := by kernel_rfl
end Go.Vi
