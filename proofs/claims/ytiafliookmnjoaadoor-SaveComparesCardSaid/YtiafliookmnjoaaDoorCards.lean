/-
  DERIVED. GIVEN WITH THE SEED: THE CARDS: each row of YtiafliookmnjoaaDoorRows.lean that lists a variable, with what it lists TIED to the program's text (the seventh form; the later family's looks); each row that meets fmt, with fmt's text TOLD by the authors' own Lean function (tested against real Go, not proved from fmt's source: count such statements apart). THE CARD IS WHAT COUNTS. Prove the row's statement (the work); the ties are given (YtiafliookmnjoaaDoorTie.lean); close each card by the builder's one call (the guide's Derived/Test/ToyasCard.lean, 'card_holds'). Laid BY PROGRAM, IN A SANDBOX (cutbox-door.mjs). By AI agents, Wed Nov 11 2026. No macro, syntax, notation, axiom, sorry.
-/
import Derived.Test.YtiafliookmnjoaaDoorRows
import GoSem.ClaimSeven
namespace Go.Proofs.YtiafliookmnjoaaDoor
namespace Rows

/-- THE TIED CARD OF 'emulatorlaw23.SaveCompares'. -/
def saveComparesCard : Claim7 := { stood := { row := saveComparesRow, standIns := [], harness := (true, "b3f52f562b4ae8111211b9f8687e967c6998188a1106b5f854ddd899090eb5c5"), looks := false }, kinds := [], alts := [], laidByText := true, laidKinds := [.data], laidTests := true, laidLooks := .later }
def SaveComparesCardSaid : Prop := Claim7.holds Tryd.pinned (.plain (OpenSpec.ofChange saveComparesSpec)) saveComparesCard

/-- THE SECOND FORM's CARD OF 'emulatorlaw23.SaveCompares'. -/
def saveComparesUptoCard : Claim7 := { stood := { row := saveComparesUptoRow, standIns := [], harness := (true, "b3f52f562b4ae8111211b9f8687e967c6998188a1106b5f854ddd899090eb5c5"), looks := false }, kinds := [], alts := [], laidByText := true, laidKinds := [.data], laidTests := true, laidLooks := .later }
def SaveComparesUptoCardSaid : Prop := Claim7.holds Tryd.pinned (.plain (OpenSpec.upto saveComparesSpec)) saveComparesUptoCard
end Rows
end Go.Proofs.YtiafliookmnjoaaDoor
