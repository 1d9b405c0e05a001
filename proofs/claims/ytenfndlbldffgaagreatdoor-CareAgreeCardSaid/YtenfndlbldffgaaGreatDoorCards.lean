/-
  DERIVED. GIVEN WITH THE SEED: THE CARDS: each row of YtenfndlbldffgaaGreatDoorRows.lean that lists a variable, with what it lists TIED to the program's text (the seventh form; the later family's looks); each row that meets fmt, with fmt's text TOLD by the authors' own Lean function (tested against real Go, not proved from fmt's source: count such statements apart). THE CARD IS WHAT COUNTS. Prove the row's statement (the work); the ties are given (YtenfndlbldffgaaGreatDoorTie.lean); close each card by the builder's one call (the guide's Derived/Test/ToyasCard.lean, 'card_holds'). Laid BY PROGRAM, IN A SANDBOX (cutbox-door.mjs). By AI agents, Wed Nov 11 2026. No macro, syntax, notation, axiom, sorry.
-/
import Derived.Test.YtenfndlbldffgaaGreatDoorRows
import GoSem.ClaimSeven
namespace Go.Proofs.YtenfndlbldffgaaGreatDoor
namespace Rows

/-- THE TIED CARD OF 'progenylaw29.CareTexts'. -/
def careTextsCard : Claim7 := { stood := { row := careTextsRow, standIns := [], harness := (true, "aab043e679cebf1a7cd0e92de037bf74bde2b1c8de19ceabe12898062505750c"), looks := false }, kinds := [], alts := [], laidByText := true, laidKinds := [.data, .data, .data, .data, .pinned], laidTests := true, laidLooks := .later }
def CareTextsCardSaid : Prop := Claim7.holds Tryz.pinned (.plain (OpenSpec.ofChange careTextsSpec)) careTextsCard

/-- THE TIED CARD OF 'progenylaw29.CareRecovers'. -/
def careRecoversCard : Claim7 := { stood := { row := careRecoversRow, standIns := [], harness := (true, "aab043e679cebf1a7cd0e92de037bf74bde2b1c8de19ceabe12898062505750c"), looks := false }, kinds := [], alts := [], laidByText := true, laidKinds := [.data, .data, .data], laidTests := true, laidLooks := .later }
def CareRecoversCardSaid : Prop := Claim7.holds Tryz.pinned (.plain (OpenSpec.ofChange careRecoversSpec)) careRecoversCard

/-- THE TIED CARD OF 'progenylaw29.CareCopies'. -/
def careCopiesCard : Claim7 := { stood := { row := careCopiesRow, standIns := [], harness := (true, "aab043e679cebf1a7cd0e92de037bf74bde2b1c8de19ceabe12898062505750c"), looks := false }, kinds := [], alts := [], laidByText := true, laidKinds := [.data, .data, .data], laidTests := true, laidLooks := .later }
def CareCopiesCardSaid : Prop := Claim7.holds Tryz.pinned (.plain (OpenSpec.ofChange careCopiesSpec)) careCopiesCard

/-- THE TIED CARD OF 'progenylaw29.CareGathers'. -/
def careGathersCard : Claim7 := { stood := { row := careGathersRow, standIns := [], harness := (true, "aab043e679cebf1a7cd0e92de037bf74bde2b1c8de19ceabe12898062505750c"), looks := false }, kinds := [], alts := [], laidByText := true, laidKinds := [.data, .data, .data], laidTests := true, laidLooks := .later }
def CareGathersCardSaid : Prop := Claim7.holds Tryz.pinned (.plain (OpenSpec.ofChange careGathersSpec)) careGathersCard

/-- THE TIED CARD OF 'progenylaw29.CareAgree'. -/
def careAgreeCard : Claim7 := { stood := { row := careAgreeRow, standIns := [], harness := (true, "aab043e679cebf1a7cd0e92de037bf74bde2b1c8de19ceabe12898062505750c"), looks := false }, kinds := [], alts := [], laidByText := true, laidKinds := [.data, .data, .data], laidTests := true, laidLooks := .later }
def CareAgreeCardSaid : Prop := Claim7.holds Tryz.pinned (.plain (OpenSpec.ofChange careAgreeSpec)) careAgreeCard

/-- THE SECOND FORM's CARD OF 'progenylaw29.CareTexts'. -/
def careTextsUptoCard : Claim7 := { stood := { row := careTextsUptoRow, standIns := [], harness := (true, "aab043e679cebf1a7cd0e92de037bf74bde2b1c8de19ceabe12898062505750c"), looks := false }, kinds := [], alts := [], laidByText := true, laidKinds := [.data, .data, .data, .data, .pinned], laidTests := true, laidLooks := .later }
def CareTextsUptoCardSaid : Prop := Claim7.holds Tryz.pinned (.plain (OpenSpec.upto careTextsSpec)) careTextsUptoCard

/-- THE SECOND FORM's CARD OF 'progenylaw29.CareRecovers'. -/
def careRecoversUptoCard : Claim7 := { stood := { row := careRecoversUptoRow, standIns := [], harness := (true, "aab043e679cebf1a7cd0e92de037bf74bde2b1c8de19ceabe12898062505750c"), looks := false }, kinds := [], alts := [], laidByText := true, laidKinds := [.data, .data, .data], laidTests := true, laidLooks := .later }
def CareRecoversUptoCardSaid : Prop := Claim7.holds Tryz.pinned (.plain (OpenSpec.upto careRecoversSpec)) careRecoversUptoCard

/-- THE SECOND FORM's CARD OF 'progenylaw29.CareCopies'. -/
def careCopiesUptoCard : Claim7 := { stood := { row := careCopiesUptoRow, standIns := [], harness := (true, "aab043e679cebf1a7cd0e92de037bf74bde2b1c8de19ceabe12898062505750c"), looks := false }, kinds := [], alts := [], laidByText := true, laidKinds := [.data, .data, .data], laidTests := true, laidLooks := .later }
def CareCopiesUptoCardSaid : Prop := Claim7.holds Tryz.pinned (.plain (OpenSpec.upto careCopiesSpec)) careCopiesUptoCard

/-- THE SECOND FORM's CARD OF 'progenylaw29.CareGathers'. -/
def careGathersUptoCard : Claim7 := { stood := { row := careGathersUptoRow, standIns := [], harness := (true, "aab043e679cebf1a7cd0e92de037bf74bde2b1c8de19ceabe12898062505750c"), looks := false }, kinds := [], alts := [], laidByText := true, laidKinds := [.data, .data, .data], laidTests := true, laidLooks := .later }
def CareGathersUptoCardSaid : Prop := Claim7.holds Tryz.pinned (.plain (OpenSpec.upto careGathersSpec)) careGathersUptoCard

/-- THE SECOND FORM's CARD OF 'progenylaw29.CareAgree'. -/
def careAgreeUptoCard : Claim7 := { stood := { row := careAgreeUptoRow, standIns := [], harness := (true, "aab043e679cebf1a7cd0e92de037bf74bde2b1c8de19ceabe12898062505750c"), looks := false }, kinds := [], alts := [], laidByText := true, laidKinds := [.data, .data, .data], laidTests := true, laidLooks := .later }
def CareAgreeUptoCardSaid : Prop := Claim7.holds Tryz.pinned (.plain (OpenSpec.upto careAgreeSpec)) careAgreeUptoCard
end Rows
end Go.Proofs.YtenfndlbldffgaaGreatDoor
