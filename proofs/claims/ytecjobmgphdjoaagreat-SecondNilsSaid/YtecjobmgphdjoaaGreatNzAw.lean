/- Awake of the sets: its parts computed. -/
import Derived.Test.YtecjobmgphdjoaaGreatNzSt
set_option autoImplicit false
set_option linter.unusedVariables false
set_option maxRecDepth 1000000
namespace Go.Vi
open Go Go.Proofs
theorem pc1 : pieceK cfY F2 4 cA S0 s1 S1 = true := by kernel_rfl
theorem pc2 : pieceK cfY F2 1 (restK 4 cA) S1 s2 S2 = true := by kernel_rfl
theorem pc3 : pieceK cfY F2 2 (restK 5 cA) S2 s3 S3 = true := by kernel_rfl
theorem pc4 : lastB cfY F2 Tryz.f4 (restK 7 cA) S3 = some (.bool true) := by kernel_rfl
end Go.Vi
