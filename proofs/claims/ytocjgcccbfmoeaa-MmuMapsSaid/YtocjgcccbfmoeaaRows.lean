/-
  No cell of these rows narrows 'for every input' (looked for: loops, veiled, ifaces, maps, wideKeys, modest, calm, conditions, laid).
  DERIVED. THE GIVEN ROWS OF THIS SEAT. 7 by the template 'for every input the law returns true; each argument reads behind the call as it read before'; 0 by the template 'total and deterministic' (their statements: YtocjgcccbfmoeaaTotals.lean).
  GIVEN WITH THE SEED: the statements are not yours to turn. If you find one false, say at which input.
  Laid BY PROGRAM, IN A SANDBOX (cutbox-rows.mjs): the forced cells as the released guide's own fill.sh prints them over the translation 9344e5713e362549… (all of the seat's roots in one cut). By AI agents, Wed Nov 11 2026. No macro, syntax, notation, axiom, sorry.
-/
import Derived.Test.YtocjgcccbfmoeaaChecked
import GoSem.Claim
import GoSem.ClaimJoined
import GoSem.ClaimMapViews
import Derived.JoinedTies
import Derived.KernelRfl
namespace Go.Proofs.Ytocjgcccbfmoeaa
/- THE CELL 'sum', in the pinned program and in every row, IS THE sha256 OF THE DUMP (.gsa) THAT YtocjgcccbfmoeaaProg.lean LOADS. Nothing in Lean hashes anything: it is a label: what it is worth is what the hold of that sum in a sandbox is worth. -/
noncomputable def Try.pinned : Pinned := { name := "ytocjgcccbfmoeaa", sum := "9344e5713e362549176a6d77a7e28120750b83752f25f6e5e42160171d4381ab", checked := Try.checked }
namespace Rows
def none {H : Type} : Left H := { results := [], args := [] }

/-- 'emulatorlaw09.MmuTranslates': WHATEVER THE INPUT: true; the input reads as it did. -/
def mmuTranslatesSpec : ChangeSpec := { name := "mmuTranslates", fn := fun _ => fun
  | [d] => { results := [.lit (.bool true)], args := [d] }
  | _ => none }
def mmuTranslatesRow : OpenClaim := { program := "ytocjgcccbfmoeaa", sum := "9344e5713e362549176a6d77a7e28120750b83752f25f6e5e42160171d4381ab", func := "emulator/emulatorlaw09.MmuTranslates", spec := "mmuTranslates", apart := false }
def MmuTranslatesSaid : Prop := mmuTranslatesRow.holds Try.pinned (OpenSpec.ofChange mmuTranslatesSpec)

/-- ITS FALSE NEIGHBOUR: 'it returns false'. Refute it at one input. -/
def mmuTranslatesWrong : ChangeSpec := { name := "mmuTranslates", fn := fun _ => fun
  | [d] => { results := [.lit (.bool false)], args := [d] }
  | _ => none }
def MmuTranslatesWrongFalsely : Prop := mmuTranslatesRow.holds Try.pinned (OpenSpec.ofChange mmuTranslatesWrong)

/-- 'emulatorlaw09.MmuMaps': WHATEVER THE INPUT: true; the input reads as it did. -/
def mmuMapsSpec : ChangeSpec := { name := "mmuMaps", fn := fun _ => fun
  | [d1, d2] => { results := [.lit (.bool true)], args := [d1, d2] }
  | _ => none }
def mmuMapsRow : OpenClaim := { program := "ytocjgcccbfmoeaa", sum := "9344e5713e362549176a6d77a7e28120750b83752f25f6e5e42160171d4381ab", func := "emulator/emulatorlaw09.MmuMaps", spec := "mmuMaps", apart := false }
def MmuMapsSaid : Prop := mmuMapsRow.holds Try.pinned (OpenSpec.ofChange mmuMapsSpec)

/-- ITS FALSE NEIGHBOUR: 'it returns false'. Refute it at one input. -/
def mmuMapsWrong : ChangeSpec := { name := "mmuMaps", fn := fun _ => fun
  | [d1, d2] => { results := [.lit (.bool false)], args := [d1, d2] }
  | _ => none }
def MmuMapsWrongFalsely : Prop := mmuMapsRow.holds Try.pinned (OpenSpec.ofChange mmuMapsWrong)

/-- 'emulatorlaw09.MmuRights': WHATEVER THE INPUT: true; the input reads as it did. -/
def mmuRightsSpec : ChangeSpec := { name := "mmuRights", fn := fun _ => fun
  | [d] => { results := [.lit (.bool true)], args := [d] }
  | _ => none }
def mmuRightsRow : OpenClaim := { program := "ytocjgcccbfmoeaa", sum := "9344e5713e362549176a6d77a7e28120750b83752f25f6e5e42160171d4381ab", func := "emulator/emulatorlaw09.MmuRights", spec := "mmuRights", apart := false }
def MmuRightsSaid : Prop := mmuRightsRow.holds Try.pinned (OpenSpec.ofChange mmuRightsSpec)

/-- ITS FALSE NEIGHBOUR: 'it returns false'. Refute it at one input. -/
def mmuRightsWrong : ChangeSpec := { name := "mmuRights", fn := fun _ => fun
  | [d] => { results := [.lit (.bool false)], args := [d] }
  | _ => none }
def MmuRightsWrongFalsely : Prop := mmuRightsRow.holds Try.pinned (OpenSpec.ofChange mmuRightsWrong)

/-- 'emulatorlaw09.MmuRegisters': WHATEVER THE INPUT: true; the input reads as it did. -/
def mmuRegistersSpec : ChangeSpec := { name := "mmuRegisters", fn := fun _ => fun
  | [d1, d2, d3] => { results := [.lit (.bool true)], args := [d1, d2, d3] }
  | _ => none }
def mmuRegistersRow : OpenClaim := { program := "ytocjgcccbfmoeaa", sum := "9344e5713e362549176a6d77a7e28120750b83752f25f6e5e42160171d4381ab", func := "emulator/emulatorlaw09.MmuRegisters", spec := "mmuRegisters", apart := false }
def MmuRegistersSaid : Prop := mmuRegistersRow.holds Try.pinned (OpenSpec.ofChange mmuRegistersSpec)

/-- ITS FALSE NEIGHBOUR: 'it returns false'. Refute it at one input. -/
def mmuRegistersWrong : ChangeSpec := { name := "mmuRegisters", fn := fun _ => fun
  | [d1, d2, d3] => { results := [.lit (.bool false)], args := [d1, d2, d3] }
  | _ => none }
def MmuRegistersWrongFalsely : Prop := mmuRegistersRow.holds Try.pinned (OpenSpec.ofChange mmuRegistersWrong)

/-- 'emulatorlaw09.MmuQuiet': WHATEVER THE INPUT: true; the input reads as it did. -/
def mmuQuietSpec : ChangeSpec := { name := "mmuQuiet", fn := fun _ => fun
  | [d] => { results := [.lit (.bool true)], args := [d] }
  | _ => none }
def mmuQuietRow : OpenClaim := { program := "ytocjgcccbfmoeaa", sum := "9344e5713e362549176a6d77a7e28120750b83752f25f6e5e42160171d4381ab", func := "emulator/emulatorlaw09.MmuQuiet", spec := "mmuQuiet", apart := false }
def MmuQuietSaid : Prop := mmuQuietRow.holds Try.pinned (OpenSpec.ofChange mmuQuietSpec)

/-- ITS FALSE NEIGHBOUR: 'it returns false'. Refute it at one input. -/
def mmuQuietWrong : ChangeSpec := { name := "mmuQuiet", fn := fun _ => fun
  | [d] => { results := [.lit (.bool false)], args := [d] }
  | _ => none }
def MmuQuietWrongFalsely : Prop := mmuQuietRow.holds Try.pinned (OpenSpec.ofChange mmuQuietWrong)

/-- 'emulatorlaw09.MmuCopies': WHATEVER THE INPUT: true; the input reads as it did. -/
def mmuCopiesSpec : ChangeSpec := { name := "mmuCopies", fn := fun _ => fun
  | [d] => { results := [.lit (.bool true)], args := [d] }
  | _ => none }
def mmuCopiesRow : OpenClaim := { program := "ytocjgcccbfmoeaa", sum := "9344e5713e362549176a6d77a7e28120750b83752f25f6e5e42160171d4381ab", func := "emulator/emulatorlaw09.MmuCopies", spec := "mmuCopies", apart := false }
def MmuCopiesSaid : Prop := mmuCopiesRow.holds Try.pinned (OpenSpec.ofChange mmuCopiesSpec)

/-- ITS FALSE NEIGHBOUR: 'it returns false'. Refute it at one input. -/
def mmuCopiesWrong : ChangeSpec := { name := "mmuCopies", fn := fun _ => fun
  | [d] => { results := [.lit (.bool false)], args := [d] }
  | _ => none }
def MmuCopiesWrongFalsely : Prop := mmuCopiesRow.holds Try.pinned (OpenSpec.ofChange mmuCopiesWrong)

/-- 'emulatorlaw09.MmuMapped': WHATEVER THE INPUT: true; the input reads as it did. -/
def mmuMappedSpec : ChangeSpec := { name := "mmuMapped", fn := fun _ => fun
  | [d1, d2, d3] => { results := [.lit (.bool true)], args := [d1, d2, d3] }
  | _ => none }
def mmuMappedRow : OpenClaim := { program := "ytocjgcccbfmoeaa", sum := "9344e5713e362549176a6d77a7e28120750b83752f25f6e5e42160171d4381ab", func := "emulator/emulatorlaw09.MmuMapped", spec := "mmuMapped", apart := false }
def MmuMappedSaid : Prop := mmuMappedRow.holds Try.pinned (OpenSpec.ofChange mmuMappedSpec)

/-- ITS FALSE NEIGHBOUR: 'it returns false'. Refute it at one input. -/
def mmuMappedWrong : ChangeSpec := { name := "mmuMapped", fn := fun _ => fun
  | [d1, d2, d3] => { results := [.lit (.bool false)], args := [d1, d2, d3] }
  | _ => none }
def MmuMappedWrongFalsely : Prop := mmuMappedRow.holds Try.pinned (OpenSpec.ofChange mmuMappedWrong)

/- THE SECOND FORM. 'bulk': how many values and letters a reading holds, each counted each time it is reached (what is shared counts as often as it is met; a slice's spare places count too). A statement '..UptoSaid' is the law's where the arguments, and the package variables that the reading takes, are together of bulk at most 1048576: NARROWER than '..Said'. Prove '..Said' where nothing that the law and all that it calls make is longer than what came in: it says more and counts as full. Else prove '..UptoSaid'. A law counts once. -/
mutual
def uptoBulk {H : Type} : DataW H → Nat
  | .lit (.string bytes) => bytes.length + 1
  | .lit _ => 1
  | .nil => 1
  | .ptr d => uptoBulk d + 1
  | .slice elems spare => uptoBulkAll elems + uptoBulkAll spare + 1
  | .agg parts => uptoBulkAll parts + 1
  | .iface _ d => uptoBulk d + 1
  | .map entries => uptoBulkEntries entries + 1
  | .held _ => 1
def uptoBulkAll {H : Type} : List (DataW H) → Nat
  | [] => 0
  | d :: r => uptoBulk d + uptoBulkAll r
def uptoBulkEntries {H : Type} : List (Lit × DataW H) → Nat
  | [] => 0
  | x :: r => uptoBulkEntry x + uptoBulkEntries r
def uptoBulkEntry {H : Type} : Lit × DataW H → Nat
  | (.string bytes, d) => bytes.length + uptoBulk d + 1
  | (_, d) => uptoBulk d + 1
 end
def uptoSmall : (H : Type) → List (DataW H) → Bool := fun _ ds => decide (uptoBulkAll ds ≤ 1048576)
def OpenSpec.upto (s : _root_.Go.ChangeSpec) : _root_.Go.OpenSpec := { _root_.Go.OpenSpec.ofChange s with cond := some uptoSmall }

/-- 'emulatorlaw09.MmuTranslates', WHERE WHAT IT READS IS OF BULK AT MOST 1048576: true; the input reads as it did. -/
def mmuTranslatesUptoRow : OpenClaim := { program := "ytocjgcccbfmoeaa", sum := "9344e5713e362549176a6d77a7e28120750b83752f25f6e5e42160171d4381ab", func := "emulator/emulatorlaw09.MmuTranslates", spec := "mmuTranslates", apart := false, narrowed := true }
def MmuTranslatesUptoSaid : Prop := mmuTranslatesUptoRow.holds Try.pinned (OpenSpec.upto mmuTranslatesSpec)

/-- 'emulatorlaw09.MmuMaps', WHERE WHAT IT READS IS OF BULK AT MOST 1048576: true; the input reads as it did. -/
def mmuMapsUptoRow : OpenClaim := { program := "ytocjgcccbfmoeaa", sum := "9344e5713e362549176a6d77a7e28120750b83752f25f6e5e42160171d4381ab", func := "emulator/emulatorlaw09.MmuMaps", spec := "mmuMaps", apart := false, narrowed := true }
def MmuMapsUptoSaid : Prop := mmuMapsUptoRow.holds Try.pinned (OpenSpec.upto mmuMapsSpec)

/-- 'emulatorlaw09.MmuRights', WHERE WHAT IT READS IS OF BULK AT MOST 1048576: true; the input reads as it did. -/
def mmuRightsUptoRow : OpenClaim := { program := "ytocjgcccbfmoeaa", sum := "9344e5713e362549176a6d77a7e28120750b83752f25f6e5e42160171d4381ab", func := "emulator/emulatorlaw09.MmuRights", spec := "mmuRights", apart := false, narrowed := true }
def MmuRightsUptoSaid : Prop := mmuRightsUptoRow.holds Try.pinned (OpenSpec.upto mmuRightsSpec)

/-- 'emulatorlaw09.MmuRegisters', WHERE WHAT IT READS IS OF BULK AT MOST 1048576: true; the input reads as it did. -/
def mmuRegistersUptoRow : OpenClaim := { program := "ytocjgcccbfmoeaa", sum := "9344e5713e362549176a6d77a7e28120750b83752f25f6e5e42160171d4381ab", func := "emulator/emulatorlaw09.MmuRegisters", spec := "mmuRegisters", apart := false, narrowed := true }
def MmuRegistersUptoSaid : Prop := mmuRegistersUptoRow.holds Try.pinned (OpenSpec.upto mmuRegistersSpec)

/-- 'emulatorlaw09.MmuQuiet', WHERE WHAT IT READS IS OF BULK AT MOST 1048576: true; the input reads as it did. -/
def mmuQuietUptoRow : OpenClaim := { program := "ytocjgcccbfmoeaa", sum := "9344e5713e362549176a6d77a7e28120750b83752f25f6e5e42160171d4381ab", func := "emulator/emulatorlaw09.MmuQuiet", spec := "mmuQuiet", apart := false, narrowed := true }
def MmuQuietUptoSaid : Prop := mmuQuietUptoRow.holds Try.pinned (OpenSpec.upto mmuQuietSpec)

/-- 'emulatorlaw09.MmuCopies', WHERE WHAT IT READS IS OF BULK AT MOST 1048576: true; the input reads as it did. -/
def mmuCopiesUptoRow : OpenClaim := { program := "ytocjgcccbfmoeaa", sum := "9344e5713e362549176a6d77a7e28120750b83752f25f6e5e42160171d4381ab", func := "emulator/emulatorlaw09.MmuCopies", spec := "mmuCopies", apart := false, narrowed := true }
def MmuCopiesUptoSaid : Prop := mmuCopiesUptoRow.holds Try.pinned (OpenSpec.upto mmuCopiesSpec)

/-- 'emulatorlaw09.MmuMapped', WHERE WHAT IT READS IS OF BULK AT MOST 1048576: true; the input reads as it did. -/
def mmuMappedUptoRow : OpenClaim := { program := "ytocjgcccbfmoeaa", sum := "9344e5713e362549176a6d77a7e28120750b83752f25f6e5e42160171d4381ab", func := "emulator/emulatorlaw09.MmuMapped", spec := "mmuMapped", apart := false, narrowed := true }
def MmuMappedUptoSaid : Prop := mmuMappedUptoRow.holds Try.pinned (OpenSpec.upto mmuMappedSpec)

end Rows
end Go.Proofs.Ytocjgcccbfmoeaa
