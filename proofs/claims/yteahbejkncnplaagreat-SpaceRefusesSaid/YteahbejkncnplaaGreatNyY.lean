/- SpaceRefuses: what is computed. -/
import Derived.Test.YteahbejkncnplaaGreatNyX
set_option autoImplicit false
set_option linter.unusedVariables false
set_option maxRecDepth 1000000
namespace Go.Vi
open Go Go.Proofs
def L1 (s : ByteArray) : Obl := [(.str s, .str s), (.str s, .str s), (.list .loose (strRows s), .list .loose (strRows s)), (.list .loose (strRows s), .list .loose (strRows s)), (.str s, .str s), (.str s, .str s), (.str s, .str s), (.str s, .str s)]
def L0 (s : ByteArray) : Obl := L1 s ++ (L1 s ++ L1 s)
theorem fact1 (s : ByteArray) : (pre s).map (fun p => p.1.get 44) = some (some (.bool (ltN 300 (Int.ofNat s.size)))) := by kernel_rfl
theorem fact2 (s : ByteArray) : (pre s).bind (fun p => finR Tryz.prog Tryz.f3 (cdF (ct (sr (sl b4))) cfY F2 Tryz.f3.ntmps p.1 p.2)) = some (.bool true) := by kernel_rfl
theorem fact3 (s : ByteArray) : ((pre s).bind fun p => (cdG cfY F2 Tryz.f3.ntmps b5 p.1 p.2).bind fun q => (finR Tryz.prog Tryz.f3 (some q.1)).map fun v => (v, q.2)) = some (.bool true, L0 s) := by kernel_rfl
end Go.Vi
