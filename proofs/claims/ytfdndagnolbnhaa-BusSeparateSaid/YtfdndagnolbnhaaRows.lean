/-
  No cell of these rows narrows 'for every input' (looked for: loops, veiled, ifaces, maps, wideKeys, modest, calm, conditions, laid).
  DERIVED. THE GIVEN ROWS OF THIS SEAT. 4 by the template 'for every input the law returns true; each argument reads behind the call as it read before'; 0 by the template 'total and deterministic' (their statements: YtfdndagnolbnhaaTotals.lean).
  GIVEN WITH THE SEED: the statements are not yours to turn. If you find one false, say at which input.
  Laid BY PROGRAM, IN A SANDBOX (cutbox-rows.mjs): the forced cells as the released guide's own fill.sh prints them over the translation 4472eaaeb35a76fc… (all of the seat's roots in one cut). By AI agents, Wed Nov 11 2026. No macro, syntax, notation, axiom, sorry.
-/
import Derived.Test.YtfdndagnolbnhaaChecked
import GoSem.Claim
import GoSem.ClaimJoined
import GoSem.ClaimMapViews
import Derived.JoinedTies
import Derived.KernelRfl
namespace Go.Proofs.Ytfdndagnolbnhaa
/- THE CELL 'sum', in the pinned program and in every row, IS THE sha256 OF THE DUMP (.gsa) THAT YtfdndagnolbnhaaProg.lean LOADS. Nothing in Lean hashes anything: it is a label: what it is worth is what the hold of that sum in a sandbox is worth. -/
noncomputable def Try.pinned : Pinned := { name := "ytfdndagnolbnhaa", sum := "4472eaaeb35a76fceb0123877410293a3e61c8556a2bb96d410f1fca2c194a71", checked := Try.checked }
namespace Rows
def none {H : Type} : Left H := { results := [], args := [] }

/-- 'emulatorlaw18.BusReads': WHATEVER THE INPUT: true; the input reads as it did. -/
def busReadsSpec : ChangeSpec := { name := "busReads", fn := fun _ => fun
  | [d1, d2, d3] => { results := [.lit (.bool true)], args := [d1, d2, d3] }
  | _ => none }
def busReadsRow : OpenClaim := { program := "ytfdndagnolbnhaa", sum := "4472eaaeb35a76fceb0123877410293a3e61c8556a2bb96d410f1fca2c194a71", func := "emulator/emulatorlaw18.BusReads", spec := "busReads", unfollowed := true, recurses := true, apart := false }
def BusReadsSaid : Prop := busReadsRow.holds Try.pinned (OpenSpec.ofChange busReadsSpec)

/-- ITS FALSE NEIGHBOUR: 'it returns false'. Refute it at one input. -/
def busReadsWrong : ChangeSpec := { name := "busReads", fn := fun _ => fun
  | [d1, d2, d3] => { results := [.lit (.bool false)], args := [d1, d2, d3] }
  | _ => none }
def BusReadsWrongFalsely : Prop := busReadsRow.holds Try.pinned (OpenSpec.ofChange busReadsWrong)

/-- 'emulatorlaw18.BusSeparate': WHATEVER THE INPUT: true; the input reads as it did. -/
def busSeparateSpec : ChangeSpec := { name := "busSeparate", fn := fun _ => fun
  | [d1, d2, d3] => { results := [.lit (.bool true)], args := [d1, d2, d3] }
  | _ => none }
def busSeparateRow : OpenClaim := { program := "ytfdndagnolbnhaa", sum := "4472eaaeb35a76fceb0123877410293a3e61c8556a2bb96d410f1fca2c194a71", func := "emulator/emulatorlaw18.BusSeparate", spec := "busSeparate", unfollowed := true, recurses := true, apart := false }
def BusSeparateSaid : Prop := busSeparateRow.holds Try.pinned (OpenSpec.ofChange busSeparateSpec)

/-- ITS FALSE NEIGHBOUR: 'it returns false'. Refute it at one input. -/
def busSeparateWrong : ChangeSpec := { name := "busSeparate", fn := fun _ => fun
  | [d1, d2, d3] => { results := [.lit (.bool false)], args := [d1, d2, d3] }
  | _ => none }
def BusSeparateWrongFalsely : Prop := busSeparateRow.holds Try.pinned (OpenSpec.ofChange busSeparateWrong)

/-- 'emulatorlaw18.BusRight': WHATEVER THE INPUT: true; the input reads as it did. -/
def busRightSpec : ChangeSpec := { name := "busRight", fn := fun _ => fun
  | [d] => { results := [.lit (.bool true)], args := [d] }
  | _ => none }
def busRightRow : OpenClaim := { program := "ytfdndagnolbnhaa", sum := "4472eaaeb35a76fceb0123877410293a3e61c8556a2bb96d410f1fca2c194a71", func := "emulator/emulatorlaw18.BusRight", spec := "busRight", unfollowed := true, recurses := true, apart := false }
def BusRightSaid : Prop := busRightRow.holds Try.pinned (OpenSpec.ofChange busRightSpec)

/-- ITS FALSE NEIGHBOUR: 'it returns false'. Refute it at one input. -/
def busRightWrong : ChangeSpec := { name := "busRight", fn := fun _ => fun
  | [d] => { results := [.lit (.bool false)], args := [d] }
  | _ => none }
def BusRightWrongFalsely : Prop := busRightRow.holds Try.pinned (OpenSpec.ofChange busRightWrong)

/-- 'emulatorlaw18.BusWrites': WHATEVER THE INPUT: true; the input reads as it did. -/
def busWritesSpec : ChangeSpec := { name := "busWrites", fn := fun _ => fun
  | [d1, d2] => { results := [.lit (.bool true)], args := [d1, d2] }
  | _ => none }
def busWritesRow : OpenClaim := { program := "ytfdndagnolbnhaa", sum := "4472eaaeb35a76fceb0123877410293a3e61c8556a2bb96d410f1fca2c194a71", func := "emulator/emulatorlaw18.BusWrites", spec := "busWrites", unfollowed := true, recurses := true, apart := false }
def BusWritesSaid : Prop := busWritesRow.holds Try.pinned (OpenSpec.ofChange busWritesSpec)

/-- ITS FALSE NEIGHBOUR: 'it returns false'. Refute it at one input. -/
def busWritesWrong : ChangeSpec := { name := "busWrites", fn := fun _ => fun
  | [d1, d2] => { results := [.lit (.bool false)], args := [d1, d2] }
  | _ => none }
def BusWritesWrongFalsely : Prop := busWritesRow.holds Try.pinned (OpenSpec.ofChange busWritesWrong)

/- THE SECOND FORM. 'bulk': how many values and letters a reading holds, each counted each time it is reached (what is shared counts as often as it is met; a slice's spare places count too). A statement '..UptoSaid' is the law's where the arguments, and the package variables that the reading takes, are together of bulk at most 1048576: NARROWER than '..Said'. Prove '..Said' where nothing that the law and all that it calls make is longer than what came in: it says more and counts as full. Else prove '..UptoSaid'. A law counts once. -/
mutual
def uptoBulk {H : Type} : DataW H → Nat
  | .lit (.string bytes) => bytes.length + 1
  | .lit _ => 1
  | .nil => 1
  | .ptr d => uptoBulk d + 1
  | .slice elems spare => uptoBulkAll elems + uptoBulkAll spare + 1
  | .agg parts => uptoBulkAll parts + 1
  | .iface _ d => uptoBulk d + 1
  | .map entries => uptoBulkEntries entries + 1
  | .held _ => 1
def uptoBulkAll {H : Type} : List (DataW H) → Nat
  | [] => 0
  | d :: r => uptoBulk d + uptoBulkAll r
def uptoBulkEntries {H : Type} : List (Lit × DataW H) → Nat
  | [] => 0
  | x :: r => uptoBulkEntry x + uptoBulkEntries r
def uptoBulkEntry {H : Type} : Lit × DataW H → Nat
  | (.string bytes, d) => bytes.length + uptoBulk d + 1
  | (_, d) => uptoBulk d + 1
 end
def uptoSmall : (H : Type) → List (DataW H) → Bool := fun _ ds => decide (uptoBulkAll ds ≤ 1048576)
def OpenSpec.upto (s : _root_.Go.ChangeSpec) : _root_.Go.OpenSpec := { _root_.Go.OpenSpec.ofChange s with cond := some uptoSmall }

/-- 'emulatorlaw18.BusReads', WHERE WHAT IT READS IS OF BULK AT MOST 1048576: true; the input reads as it did. -/
def busReadsUptoRow : OpenClaim := { program := "ytfdndagnolbnhaa", sum := "4472eaaeb35a76fceb0123877410293a3e61c8556a2bb96d410f1fca2c194a71", func := "emulator/emulatorlaw18.BusReads", spec := "busReads", unfollowed := true, recurses := true, apart := false, narrowed := true }
def BusReadsUptoSaid : Prop := busReadsUptoRow.holds Try.pinned (OpenSpec.upto busReadsSpec)

/-- 'emulatorlaw18.BusSeparate', WHERE WHAT IT READS IS OF BULK AT MOST 1048576: true; the input reads as it did. -/
def busSeparateUptoRow : OpenClaim := { program := "ytfdndagnolbnhaa", sum := "4472eaaeb35a76fceb0123877410293a3e61c8556a2bb96d410f1fca2c194a71", func := "emulator/emulatorlaw18.BusSeparate", spec := "busSeparate", unfollowed := true, recurses := true, apart := false, narrowed := true }
def BusSeparateUptoSaid : Prop := busSeparateUptoRow.holds Try.pinned (OpenSpec.upto busSeparateSpec)

/-- 'emulatorlaw18.BusRight', WHERE WHAT IT READS IS OF BULK AT MOST 1048576: true; the input reads as it did. -/
def busRightUptoRow : OpenClaim := { program := "ytfdndagnolbnhaa", sum := "4472eaaeb35a76fceb0123877410293a3e61c8556a2bb96d410f1fca2c194a71", func := "emulator/emulatorlaw18.BusRight", spec := "busRight", unfollowed := true, recurses := true, apart := false, narrowed := true }
def BusRightUptoSaid : Prop := busRightUptoRow.holds Try.pinned (OpenSpec.upto busRightSpec)

/-- 'emulatorlaw18.BusWrites', WHERE WHAT IT READS IS OF BULK AT MOST 1048576: true; the input reads as it did. -/
def busWritesUptoRow : OpenClaim := { program := "ytfdndagnolbnhaa", sum := "4472eaaeb35a76fceb0123877410293a3e61c8556a2bb96d410f1fca2c194a71", func := "emulator/emulatorlaw18.BusWrites", spec := "busWrites", unfollowed := true, recurses := true, apart := false, narrowed := true }
def BusWritesUptoSaid : Prop := busWritesUptoRow.holds Try.pinned (OpenSpec.upto busWritesSpec)

end Rows
end Go.Proofs.Ytfdndagnolbnhaa
