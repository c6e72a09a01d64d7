/-
  NARROWER THAN 'FOR EVERY INPUT', by the rows' own cells (each row's printed sentence says how): SaveDecodes: laid · SaveEncodes: laid · SaveReturns: laid · SaveTells: laid.
  DERIVED. THE GIVEN ROWS OF THIS SEAT. 4 by the template 'for every input the law returns true; each argument reads behind the call as it read before'; 0 by the template 'total and deterministic' (their statements: YtiafliookmnjoaaGreatDoorTotals.lean).
  GIVEN WITH THE SEED: the statements are not yours to turn. If you find one false, say at which input.
  Laid BY PROGRAM, IN A SANDBOX (cutbox-rows.mjs): the forced cells as the released guide's own fill.sh prints them over the translation 78a2927b9913068e… (all of the seat's roots in one cut). By AI agents, Wed Nov 11 2026. No macro, syntax, notation, axiom, sorry.
-/
import Derived.Test.YtiafliookmnjoaaGreatDoorChecked
import GoSem.Claim
import GoSem.ClaimJoined
import GoSem.ClaimMapViews
import Derived.JoinedTies
import Derived.KernelRfl
namespace Go.Proofs.YtiafliookmnjoaaGreatDoor
/- THE CELL 'sum', in the pinned program and in every row, IS THE sha256 OF THE DUMP (.gsa) THAT YtiafliookmnjoaaGreatDoorProg.lean LOADS. Nothing in Lean hashes anything: it is a label: what it is worth is what the hold of that sum in a sandbox is worth. -/
noncomputable def Tryz.pinned : Pinned := { name := "ytiafliookmnjoaagreatdoor", sum := "78a2927b9913068e5e97f3017a23cc303ffb9328e3bacf7dbda9bf15258c0436", checked := Tryz.checked }
namespace Rows
def none {H : Type} : Left H := { results := [], args := [] }

/- WHAT THE LISTED PACKAGE-LEVEL VARIABLES READ AS WHEN THE CALL BEGINS. Each datum BY PROGRAM (the guide's laid-datum.mjs) off the statement by which the dump's own 'gosem.cut.vars' lays the variable. In a bare row this is a premise. The card (YtiafliookmnjoaaGreatDoorCards.lean) ties it to the program's text. -/
def laid_emulator_machine_halted {H : Type} : DataW H := .agg [.lit (.bool true), .lit (.bool false), .lit (.bool false), .lit (.int .i64 0)]

/-- 'emulatorlaw23.SaveDecodes': WHATEVER THE INPUT: true; the input reads as it did. -/
def saveDecodesSpec : ChangeSpec := { name := "saveDecodes", fn := fun _ => fun
  | [d] => { results := [.lit (.bool true)], args := [d] }
  | _ => none }
def saveDecodesRow : OpenClaim := { program := "ytiafliookmnjoaagreatdoor", sum := "78a2927b9913068e5e97f3017a23cc303ffb9328e3bacf7dbda9bf15258c0436", func := "emulator/emulatorlaw23.SaveDecodes", spec := "saveDecodes", inPlace := ["internal/abi.NoEscape", "internal/bytealg.MakeNoZero"], unfollowed := true, recurses := true, named := ["emulator/machine.halted"], apart := false, laid := [("emulator/machine.halted", laid_emulator_machine_halted)] }
def SaveDecodesSaid : Prop := saveDecodesRow.holds Tryz.pinned (OpenSpec.ofChange saveDecodesSpec)

/-- ITS FALSE NEIGHBOUR: 'it returns false'. Refute it at one input. -/
def saveDecodesWrong : ChangeSpec := { name := "saveDecodes", fn := fun _ => fun
  | [d] => { results := [.lit (.bool false)], args := [d] }
  | _ => none }
def SaveDecodesWrongFalsely : Prop := saveDecodesRow.holds Tryz.pinned (OpenSpec.ofChange saveDecodesWrong)

/-- 'emulatorlaw23.SaveEncodes': WHATEVER THE INPUT: true; the input reads as it did. -/
def saveEncodesSpec : ChangeSpec := { name := "saveEncodes", fn := fun _ => fun
  | [d] => { results := [.lit (.bool true)], args := [d] }
  | _ => none }
def saveEncodesRow : OpenClaim := { program := "ytiafliookmnjoaagreatdoor", sum := "78a2927b9913068e5e97f3017a23cc303ffb9328e3bacf7dbda9bf15258c0436", func := "emulator/emulatorlaw23.SaveEncodes", spec := "saveEncodes", inPlace := ["internal/abi.NoEscape", "internal/bytealg.MakeNoZero"], unfollowed := true, recurses := true, named := ["emulator/machine.halted"], apart := false, laid := [("emulator/machine.halted", laid_emulator_machine_halted)] }
def SaveEncodesSaid : Prop := saveEncodesRow.holds Tryz.pinned (OpenSpec.ofChange saveEncodesSpec)

/-- ITS FALSE NEIGHBOUR: 'it returns false'. Refute it at one input. -/
def saveEncodesWrong : ChangeSpec := { name := "saveEncodes", fn := fun _ => fun
  | [d] => { results := [.lit (.bool false)], args := [d] }
  | _ => none }
def SaveEncodesWrongFalsely : Prop := saveEncodesRow.holds Tryz.pinned (OpenSpec.ofChange saveEncodesWrong)

/-- 'emulatorlaw23.SaveReturns': WHATEVER THE INPUT: true; the input reads as it did. -/
def saveReturnsSpec : ChangeSpec := { name := "saveReturns", fn := fun _ => fun
  | [d] => { results := [.lit (.bool true)], args := [d] }
  | _ => none }
def saveReturnsRow : OpenClaim := { program := "ytiafliookmnjoaagreatdoor", sum := "78a2927b9913068e5e97f3017a23cc303ffb9328e3bacf7dbda9bf15258c0436", func := "emulator/emulatorlaw23.SaveReturns", spec := "saveReturns", inPlace := ["internal/abi.NoEscape", "internal/bytealg.MakeNoZero"], unfollowed := true, recurses := true, named := ["emulator/machine.halted"], apart := false, laid := [("emulator/machine.halted", laid_emulator_machine_halted)] }
def SaveReturnsSaid : Prop := saveReturnsRow.holds Tryz.pinned (OpenSpec.ofChange saveReturnsSpec)

/-- ITS FALSE NEIGHBOUR: 'it returns false'. Refute it at one input. -/
def saveReturnsWrong : ChangeSpec := { name := "saveReturns", fn := fun _ => fun
  | [d] => { results := [.lit (.bool false)], args := [d] }
  | _ => none }
def SaveReturnsWrongFalsely : Prop := saveReturnsRow.holds Tryz.pinned (OpenSpec.ofChange saveReturnsWrong)

/-- 'emulatorlaw23.SaveTells': WHATEVER THE INPUT: true; the input reads as it did. -/
def saveTellsSpec : ChangeSpec := { name := "saveTells", fn := fun _ => fun
  | [d1, d2] => { results := [.lit (.bool true)], args := [d1, d2] }
  | _ => none }
def saveTellsRow : OpenClaim := { program := "ytiafliookmnjoaagreatdoor", sum := "78a2927b9913068e5e97f3017a23cc303ffb9328e3bacf7dbda9bf15258c0436", func := "emulator/emulatorlaw23.SaveTells", spec := "saveTells", inPlace := ["internal/abi.NoEscape", "internal/bytealg.MakeNoZero"], unfollowed := true, recurses := true, named := ["emulator/machine.halted"], apart := false, laid := [("emulator/machine.halted", laid_emulator_machine_halted)] }
def SaveTellsSaid : Prop := saveTellsRow.holds Tryz.pinned (OpenSpec.ofChange saveTellsSpec)

/-- ITS FALSE NEIGHBOUR: 'it returns false'. Refute it at one input. -/
def saveTellsWrong : ChangeSpec := { name := "saveTells", fn := fun _ => fun
  | [d1, d2] => { results := [.lit (.bool false)], args := [d1, d2] }
  | _ => none }
def SaveTellsWrongFalsely : Prop := saveTellsRow.holds Tryz.pinned (OpenSpec.ofChange saveTellsWrong)

/- THE SECOND FORM. 'bulk': how many values and letters a reading holds, each counted each time it is reached (what is shared counts as often as it is met; a slice's spare places count too). A statement '..UptoSaid' is the law's where the arguments, and the package variables that the reading takes, are together of bulk at most 1048576: NARROWER than '..Said'. Prove '..Said' where nothing that the law and all that it calls make is longer than what came in: it says more and counts as full. Else prove '..UptoSaid'. A law counts once. -/
mutual
def uptoBulk {H : Type} : DataW H → Nat
  | .lit (.string bytes) => bytes.length + 1
  | .lit _ => 1
  | .nil => 1
  | .ptr d => uptoBulk d + 1
  | .slice elems spare => uptoBulkAll elems + uptoBulkAll spare + 1
  | .agg parts => uptoBulkAll parts + 1
  | .iface _ d => uptoBulk d + 1
  | .map entries => uptoBulkEntries entries + 1
  | .held _ => 1
def uptoBulkAll {H : Type} : List (DataW H) → Nat
  | [] => 0
  | d :: r => uptoBulk d + uptoBulkAll r
def uptoBulkEntries {H : Type} : List (Lit × DataW H) → Nat
  | [] => 0
  | x :: r => uptoBulkEntry x + uptoBulkEntries r
def uptoBulkEntry {H : Type} : Lit × DataW H → Nat
  | (.string bytes, d) => bytes.length + uptoBulk d + 1
  | (_, d) => uptoBulk d + 1
 end
def uptoSmall : (H : Type) → List (DataW H) → Bool := fun _ ds => decide (uptoBulkAll ds ≤ 1048576)
def OpenSpec.upto (s : _root_.Go.ChangeSpec) : _root_.Go.OpenSpec := { _root_.Go.OpenSpec.ofChange s with cond := some uptoSmall }

/-- 'emulatorlaw23.SaveDecodes', WHERE WHAT IT READS IS OF BULK AT MOST 1048576: true; the input reads as it did. -/
def saveDecodesUptoRow : OpenClaim := { program := "ytiafliookmnjoaagreatdoor", sum := "78a2927b9913068e5e97f3017a23cc303ffb9328e3bacf7dbda9bf15258c0436", func := "emulator/emulatorlaw23.SaveDecodes", spec := "saveDecodes", inPlace := ["internal/abi.NoEscape", "internal/bytealg.MakeNoZero"], unfollowed := true, recurses := true, named := ["emulator/machine.halted"], apart := false, laid := [("emulator/machine.halted", laid_emulator_machine_halted)], narrowed := true }
def SaveDecodesUptoSaid : Prop := saveDecodesUptoRow.holds Tryz.pinned (OpenSpec.upto saveDecodesSpec)

/-- 'emulatorlaw23.SaveEncodes', WHERE WHAT IT READS IS OF BULK AT MOST 1048576: true; the input reads as it did. -/
def saveEncodesUptoRow : OpenClaim := { program := "ytiafliookmnjoaagreatdoor", sum := "78a2927b9913068e5e97f3017a23cc303ffb9328e3bacf7dbda9bf15258c0436", func := "emulator/emulatorlaw23.SaveEncodes", spec := "saveEncodes", inPlace := ["internal/abi.NoEscape", "internal/bytealg.MakeNoZero"], unfollowed := true, recurses := true, named := ["emulator/machine.halted"], apart := false, laid := [("emulator/machine.halted", laid_emulator_machine_halted)], narrowed := true }
def SaveEncodesUptoSaid : Prop := saveEncodesUptoRow.holds Tryz.pinned (OpenSpec.upto saveEncodesSpec)

/-- 'emulatorlaw23.SaveReturns', WHERE WHAT IT READS IS OF BULK AT MOST 1048576: true; the input reads as it did. -/
def saveReturnsUptoRow : OpenClaim := { program := "ytiafliookmnjoaagreatdoor", sum := "78a2927b9913068e5e97f3017a23cc303ffb9328e3bacf7dbda9bf15258c0436", func := "emulator/emulatorlaw23.SaveReturns", spec := "saveReturns", inPlace := ["internal/abi.NoEscape", "internal/bytealg.MakeNoZero"], unfollowed := true, recurses := true, named := ["emulator/machine.halted"], apart := false, laid := [("emulator/machine.halted", laid_emulator_machine_halted)], narrowed := true }
def SaveReturnsUptoSaid : Prop := saveReturnsUptoRow.holds Tryz.pinned (OpenSpec.upto saveReturnsSpec)

/-- 'emulatorlaw23.SaveTells', WHERE WHAT IT READS IS OF BULK AT MOST 1048576: true; the input reads as it did. -/
def saveTellsUptoRow : OpenClaim := { program := "ytiafliookmnjoaagreatdoor", sum := "78a2927b9913068e5e97f3017a23cc303ffb9328e3bacf7dbda9bf15258c0436", func := "emulator/emulatorlaw23.SaveTells", spec := "saveTells", inPlace := ["internal/abi.NoEscape", "internal/bytealg.MakeNoZero"], unfollowed := true, recurses := true, named := ["emulator/machine.halted"], apart := false, laid := [("emulator/machine.halted", laid_emulator_machine_halted)], narrowed := true }
def SaveTellsUptoSaid : Prop := saveTellsUptoRow.holds Tryz.pinned (OpenSpec.upto saveTellsSpec)

end Rows
end Go.Proofs.YtiafliookmnjoaaGreatDoor
