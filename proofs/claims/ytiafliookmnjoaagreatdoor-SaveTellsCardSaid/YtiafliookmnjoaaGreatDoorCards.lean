/-
  DERIVED. GIVEN WITH THE SEED: THE CARDS: each row of YtiafliookmnjoaaGreatDoorRows.lean that lists a variable, with what it lists TIED to the program's text (the seventh form; the later family's looks); each row that meets fmt, with fmt's text TOLD by the authors' own Lean function (tested against real Go, not proved from fmt's source: count such statements apart). THE CARD IS WHAT COUNTS. Prove the row's statement (the work); the ties are given (YtiafliookmnjoaaGreatDoorTie.lean); close each card by the builder's one call (the guide's Derived/Test/ToyasCard.lean, 'card_holds'). Laid BY PROGRAM, IN A SANDBOX (cutbox-door.mjs). By AI agents, Wed Nov 11 2026. No macro, syntax, notation, axiom, sorry.
-/
import Derived.Test.YtiafliookmnjoaaGreatDoorRows
import GoSem.ClaimSeven
namespace Go.Proofs.YtiafliookmnjoaaGreatDoor
namespace Rows

/-- THE TIED CARD OF 'emulatorlaw23.SaveDecodes'. -/
def saveDecodesCard : Claim7 := { stood := { row := saveDecodesRow, standIns := [], harness := (true, "03d5f9a3c6af9eb12dd9c09dc801f68ce2f78b93ce418e84cd22d8fe18c7ed28"), looks := false }, kinds := [], alts := [], laidByText := true, laidKinds := [.data], laidTests := true, laidLooks := .later }
def SaveDecodesCardSaid : Prop := Claim7.holds Tryz.pinned (.plain (OpenSpec.ofChange saveDecodesSpec)) saveDecodesCard

/-- THE TIED CARD OF 'emulatorlaw23.SaveEncodes'. -/
def saveEncodesCard : Claim7 := { stood := { row := saveEncodesRow, standIns := [], harness := (true, "03d5f9a3c6af9eb12dd9c09dc801f68ce2f78b93ce418e84cd22d8fe18c7ed28"), looks := false }, kinds := [], alts := [], laidByText := true, laidKinds := [.data], laidTests := true, laidLooks := .later }
def SaveEncodesCardSaid : Prop := Claim7.holds Tryz.pinned (.plain (OpenSpec.ofChange saveEncodesSpec)) saveEncodesCard

/-- THE TIED CARD OF 'emulatorlaw23.SaveReturns'. -/
def saveReturnsCard : Claim7 := { stood := { row := saveReturnsRow, standIns := [], harness := (true, "03d5f9a3c6af9eb12dd9c09dc801f68ce2f78b93ce418e84cd22d8fe18c7ed28"), looks := false }, kinds := [], alts := [], laidByText := true, laidKinds := [.data], laidTests := true, laidLooks := .later }
def SaveReturnsCardSaid : Prop := Claim7.holds Tryz.pinned (.plain (OpenSpec.ofChange saveReturnsSpec)) saveReturnsCard

/-- THE TIED CARD OF 'emulatorlaw23.SaveTells'. -/
def saveTellsCard : Claim7 := { stood := { row := saveTellsRow, standIns := [], harness := (true, "03d5f9a3c6af9eb12dd9c09dc801f68ce2f78b93ce418e84cd22d8fe18c7ed28"), looks := false }, kinds := [], alts := [], laidByText := true, laidKinds := [.data], laidTests := true, laidLooks := .later }
def SaveTellsCardSaid : Prop := Claim7.holds Tryz.pinned (.plain (OpenSpec.ofChange saveTellsSpec)) saveTellsCard

/-- THE SECOND FORM's CARD OF 'emulatorlaw23.SaveDecodes'. -/
def saveDecodesUptoCard : Claim7 := { stood := { row := saveDecodesUptoRow, standIns := [], harness := (true, "03d5f9a3c6af9eb12dd9c09dc801f68ce2f78b93ce418e84cd22d8fe18c7ed28"), looks := false }, kinds := [], alts := [], laidByText := true, laidKinds := [.data], laidTests := true, laidLooks := .later }
def SaveDecodesUptoCardSaid : Prop := Claim7.holds Tryz.pinned (.plain (OpenSpec.upto saveDecodesSpec)) saveDecodesUptoCard

/-- THE SECOND FORM's CARD OF 'emulatorlaw23.SaveEncodes'. -/
def saveEncodesUptoCard : Claim7 := { stood := { row := saveEncodesUptoRow, standIns := [], harness := (true, "03d5f9a3c6af9eb12dd9c09dc801f68ce2f78b93ce418e84cd22d8fe18c7ed28"), looks := false }, kinds := [], alts := [], laidByText := true, laidKinds := [.data], laidTests := true, laidLooks := .later }
def SaveEncodesUptoCardSaid : Prop := Claim7.holds Tryz.pinned (.plain (OpenSpec.upto saveEncodesSpec)) saveEncodesUptoCard

/-- THE SECOND FORM's CARD OF 'emulatorlaw23.SaveReturns'. -/
def saveReturnsUptoCard : Claim7 := { stood := { row := saveReturnsUptoRow, standIns := [], harness := (true, "03d5f9a3c6af9eb12dd9c09dc801f68ce2f78b93ce418e84cd22d8fe18c7ed28"), looks := false }, kinds := [], alts := [], laidByText := true, laidKinds := [.data], laidTests := true, laidLooks := .later }
def SaveReturnsUptoCardSaid : Prop := Claim7.holds Tryz.pinned (.plain (OpenSpec.upto saveReturnsSpec)) saveReturnsUptoCard

/-- THE SECOND FORM's CARD OF 'emulatorlaw23.SaveTells'. -/
def saveTellsUptoCard : Claim7 := { stood := { row := saveTellsUptoRow, standIns := [], harness := (true, "03d5f9a3c6af9eb12dd9c09dc801f68ce2f78b93ce418e84cd22d8fe18c7ed28"), looks := false }, kinds := [], alts := [], laidByText := true, laidKinds := [.data], laidTests := true, laidLooks := .later }
def SaveTellsUptoCardSaid : Prop := Claim7.holds Tryz.pinned (.plain (OpenSpec.upto saveTellsSpec)) saveTellsUptoCard
end Rows
end Go.Proofs.YtiafliookmnjoaaGreatDoor
