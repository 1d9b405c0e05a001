/-
  DERIVED. GIVEN WITH THE SEED: THE CARDS: each row of YtgfbdcbbgpkmnaaGreatDoorRows.lean that lists a variable, with what it lists TIED to the program's text (the seventh form; the later family's looks); each row that meets fmt, with fmt's text TOLD by the authors' own Lean function (tested against real Go, not proved from fmt's source: count such statements apart). THE CARD IS WHAT COUNTS. Prove the row's statement (the work); the ties are given (YtgfbdcbbgpkmnaaGreatDoorTie.lean); close each card by the builder's one call (the guide's Derived/Test/ToyasCard.lean, 'card_holds'). Laid BY PROGRAM, IN A SANDBOX (cutbox-door.mjs). By AI agents, Wed Nov 11 2026. No macro, syntax, notation, axiom, sorry.
-/
import Derived.Test.YtgfbdcbbgpkmnaaGreatDoorRows
import GoSem.ClaimSeven
namespace Go.Proofs.YtgfbdcbbgpkmnaaGreatDoor
namespace Rows

/-- THE TIED CARD OF 'progenylaw22.QueueNils'. -/
def queueNilsCard : Claim7 := { stood := { row := queueNilsRow, standIns := [], harness := (true, "2701d1cc4dcd0f998fa1a4f8ed5ae5ef06246bf2bb582af8ee678f518f9c6bb9"), looks := false }, kinds := [], alts := [], laidByText := true, laidKinds := [.data, .pinned], laidTests := true, laidLooks := .later }
def QueueNilsCardSaid : Prop := Claim7.holds Tryz.pinned (.plain (OpenSpec.ofChange queueNilsSpec)) queueNilsCard

/-- THE SECOND FORM's CARD OF 'progenylaw22.QueueNils'. -/
def queueNilsUptoCard : Claim7 := { stood := { row := queueNilsUptoRow, standIns := [], harness := (true, "2701d1cc4dcd0f998fa1a4f8ed5ae5ef06246bf2bb582af8ee678f518f9c6bb9"), looks := false }, kinds := [], alts := [], laidByText := true, laidKinds := [.data, .pinned], laidTests := true, laidLooks := .later }
def QueueNilsUptoCardSaid : Prop := Claim7.holds Tryz.pinned (.plain (OpenSpec.upto queueNilsSpec)) queueNilsUptoCard
end Rows
end Go.Proofs.YtgfbdcbbgpkmnaaGreatDoor
