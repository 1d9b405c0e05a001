/- First is true: computed. -/
import Derived.Test.YtenfndlbldffgaaDoorViY
import Derived.KernelRfl
import Derived.Test.YtenfndlbldffgaaDoorProg
set_option autoImplicit false
namespace Go.Vi
open Go Go.Vi Go.Proofs

def callee (o : Oper) : Nat := match o.op with
  | .call { callee := .value (.func f), .. } => f
  | _ => 1000
def mdT (f : Nat) (o : Oper) : Md := match o.op with
  | .alloc _ => if f = 9 then .shf else .iso
  | .buildSlice .. => if f = 36 ∧ o.dst ≠ some 89 ∧ o.dst ≠ some 95 then .shr else .iso
  | _ => if (callee o) ∈ [21, 24, 32, 48] then .shr else .iso
theorem first_run : (erun Tryd.prog mdT (fun _ => none) 200 20 4 [] []).map (·.1) = some (.bool true) := by kernel_rfl
theorem first_fn : Vi.Fn Tryd.prog (fun _ => none) 4 [] (.bool true) := by
  obtain ⟨⟨r, H⟩, h1, h2⟩ := Option.map_eq_some_iff.1 first_run
  simp only at h2
  subst h2
  refine XS.mono (erun_ok Tryd.prog mdT (fun _ => none) 200 20 4 [] [] _ H h1) ?_
  rintro r1 H1 ⟨rfl, rfl⟩
  rfl
end Go.Vi
