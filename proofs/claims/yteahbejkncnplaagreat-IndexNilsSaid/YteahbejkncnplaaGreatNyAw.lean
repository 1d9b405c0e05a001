/- Awake of the index: computed. -/
import Derived.Test.YteahbejkncnplaaGreatNyR
set_option autoImplicit false
set_option linter.unusedVariables false
set_option maxRecDepth 1000000
namespace Go.Vi
open Go Go.Proofs
noncomputable def valF (x : Option (AV × HT)) : Option AV := Option.rec none (fun p => some p.1) x
theorem valF_ok {x : Option (AV × HT)} {v : AV} (h : valF x = some v) : ∃ h', x = some (v, h') := by
  cases x with
  | none => cases h
  | some p => obtain ⟨a, b⟩ := p; cases h; exact ⟨b, rfl⟩
theorem awake_run : valF (runF cfY O1 30 21 [] HT.none) = some (.bool true) := by kernel_rfl
end Go.Vi
