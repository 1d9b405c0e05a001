/-
  DERIVED. GIVEN WITH THE SEED: THE CARDS: each row of YtenfndlbldffgaaDoorRows.lean that lists a variable, with what it lists TIED to the program's text (the seventh form; the later family's looks); each row that meets fmt, with fmt's text TOLD by the authors' own Lean function (tested against real Go, not proved from fmt's source: count such statements apart). THE CARD IS WHAT COUNTS. Prove the row's statement (the work); the ties are given (YtenfndlbldffgaaDoorTie.lean); close each card by the builder's one call (the guide's Derived/Test/ToyasCard.lean, 'card_holds'). Laid BY PROGRAM, IN A SANDBOX (cutbox-door.mjs). By AI agents, Wed Nov 11 2026. No macro, syntax, notation, axiom, sorry.
-/
import Derived.Test.YtenfndlbldffgaaDoorRows
import GoSem.ClaimSeven
namespace Go.Proofs.YtenfndlbldffgaaDoor
namespace Rows

/-- THE TIED CARD OF 'progenylaw29.CareLays'. -/
def careLaysCard : Claim7 := { stood := { row := careLaysRow, standIns := [], harness := (true, "ee372b2c8cb2da9301056f43693c725bed289fbeb7bd38a6e19b27b9c7726c2d"), looks := false }, kinds := [], alts := [], laidByText := true, laidKinds := [.data, .data, .data], laidTests := true, laidLooks := .later }
def CareLaysCardSaid : Prop := Claim7.holds Tryd.pinned (.plain (OpenSpec.ofChange careLaysSpec)) careLaysCard

/-- THE SECOND FORM's CARD OF 'progenylaw29.CareLays'. -/
def careLaysUptoCard : Claim7 := { stood := { row := careLaysUptoRow, standIns := [], harness := (true, "ee372b2c8cb2da9301056f43693c725bed289fbeb7bd38a6e19b27b9c7726c2d"), looks := false }, kinds := [], alts := [], laidByText := true, laidKinds := [.data, .data, .data], laidTests := true, laidLooks := .later }
def CareLaysUptoCardSaid : Prop := Claim7.holds Tryd.pinned (.plain (OpenSpec.upto careLaysSpec)) careLaysUptoCard
end Rows
end Go.Proofs.YtenfndlbldffgaaDoor
