/-
  No cell of these rows narrows 'for every input' (looked for: loops, veiled, ifaces, maps, wideKeys, modest, calm, conditions, laid).
  DERIVED. THE GIVEN ROWS OF THIS SEAT. 5 by the template 'for every input the law returns true; each argument reads behind the call as it read before'; 0 by the template 'total and deterministic' (their statements: YtenckckimagkkaaTotals.lean).
  GIVEN WITH THE SEED: the statements are not yours to turn. If you find one false, say at which input.
  Laid BY PROGRAM, IN A SANDBOX (cutbox-rows.mjs): the forced cells as the released guide's own fill.sh prints them over the translation 0ab33149e3c9e63a… (all of the seat's roots in one cut). By AI agents, Wed Nov 11 2026. No macro, syntax, notation, axiom, sorry.
-/
import Derived.Test.YtenckckimagkkaaChecked
import GoSem.Claim
import GoSem.ClaimJoined
import GoSem.ClaimMapViews
import Derived.JoinedTies
import Derived.KernelRfl
namespace Go.Proofs.Ytenckckimagkkaa
/- THE CELL 'sum', in the pinned program and in every row, IS THE sha256 OF THE DUMP (.gsa) THAT YtenckckimagkkaaProg.lean LOADS. Nothing in Lean hashes anything: it is a label: what it is worth is what the hold of that sum in a sandbox is worth. -/
noncomputable def Try.pinned : Pinned := { name := "ytenckckimagkkaa", sum := "0ab33149e3c9e63ae18a68da2dbeecdfc3ae30af8c429b3705804dc629bd2701", checked := Try.checked }
namespace Rows
def none {H : Type} : Left H := { results := [], args := [] }

/-- 'emulatorlaw16.DiskctlCopies': WHATEVER THE INPUT: true; the input reads as it did. -/
def diskctlCopiesSpec : ChangeSpec := { name := "diskctlCopies", fn := fun _ => fun
  | [d1, d2, d3, d4] => { results := [.lit (.bool true)], args := [d1, d2, d3, d4] }
  | _ => none }
def diskctlCopiesRow : OpenClaim := { program := "ytenckckimagkkaa", sum := "0ab33149e3c9e63ae18a68da2dbeecdfc3ae30af8c429b3705804dc629bd2701", func := "emulator/emulatorlaw16.DiskctlCopies", spec := "diskctlCopies", inPlace := ["internal/abi.NoEscape", "internal/bytealg.MakeNoZero"], unfollowed := true, recurses := true, apart := false }
def DiskctlCopiesSaid : Prop := diskctlCopiesRow.holds Try.pinned (OpenSpec.ofChange diskctlCopiesSpec)

/-- ITS FALSE NEIGHBOUR: 'it returns false'. Refute it at one input. -/
def diskctlCopiesWrong : ChangeSpec := { name := "diskctlCopies", fn := fun _ => fun
  | [d1, d2, d3, d4] => { results := [.lit (.bool false)], args := [d1, d2, d3, d4] }
  | _ => none }
def DiskctlCopiesWrongFalsely : Prop := diskctlCopiesRow.holds Try.pinned (OpenSpec.ofChange diskctlCopiesWrong)

/-- 'emulatorlaw16.DiskctlIdle': WHATEVER THE INPUT: true; the input reads as it did. -/
def diskctlIdleSpec : ChangeSpec := { name := "diskctlIdle", fn := fun _ => fun
  | [d1, d2, d3, d4] => { results := [.lit (.bool true)], args := [d1, d2, d3, d4] }
  | _ => none }
def diskctlIdleRow : OpenClaim := { program := "ytenckckimagkkaa", sum := "0ab33149e3c9e63ae18a68da2dbeecdfc3ae30af8c429b3705804dc629bd2701", func := "emulator/emulatorlaw16.DiskctlIdle", spec := "diskctlIdle", inPlace := ["internal/abi.NoEscape", "internal/bytealg.MakeNoZero"], unfollowed := true, recurses := true, apart := false }
def DiskctlIdleSaid : Prop := diskctlIdleRow.holds Try.pinned (OpenSpec.ofChange diskctlIdleSpec)

/-- ITS FALSE NEIGHBOUR: 'it returns false'. Refute it at one input. -/
def diskctlIdleWrong : ChangeSpec := { name := "diskctlIdle", fn := fun _ => fun
  | [d1, d2, d3, d4] => { results := [.lit (.bool false)], args := [d1, d2, d3, d4] }
  | _ => none }
def DiskctlIdleWrongFalsely : Prop := diskctlIdleRow.holds Try.pinned (OpenSpec.ofChange diskctlIdleWrong)

/-- 'emulatorlaw16.DiskctlRuns': WHATEVER THE INPUT: true; the input reads as it did. -/
def diskctlRunsSpec : ChangeSpec := { name := "diskctlRuns", fn := fun _ => fun
  | [d1, d2, d3, d4] => { results := [.lit (.bool true)], args := [d1, d2, d3, d4] }
  | _ => none }
def diskctlRunsRow : OpenClaim := { program := "ytenckckimagkkaa", sum := "0ab33149e3c9e63ae18a68da2dbeecdfc3ae30af8c429b3705804dc629bd2701", func := "emulator/emulatorlaw16.DiskctlRuns", spec := "diskctlRuns", inPlace := ["internal/abi.NoEscape", "internal/bytealg.MakeNoZero"], unfollowed := true, recurses := true, apart := false }
def DiskctlRunsSaid : Prop := diskctlRunsRow.holds Try.pinned (OpenSpec.ofChange diskctlRunsSpec)

/-- ITS FALSE NEIGHBOUR: 'it returns false'. Refute it at one input. -/
def diskctlRunsWrong : ChangeSpec := { name := "diskctlRuns", fn := fun _ => fun
  | [d1, d2, d3, d4] => { results := [.lit (.bool false)], args := [d1, d2, d3, d4] }
  | _ => none }
def DiskctlRunsWrongFalsely : Prop := diskctlRunsRow.holds Try.pinned (OpenSpec.ofChange diskctlRunsWrong)

/-- 'emulatorlaw16.DiskctlTicks': WHATEVER THE INPUT: true; the input reads as it did. -/
def diskctlTicksSpec : ChangeSpec := { name := "diskctlTicks", fn := fun _ => fun
  | [d1, d2, d3] => { results := [.lit (.bool true)], args := [d1, d2, d3] }
  | _ => none }
def diskctlTicksRow : OpenClaim := { program := "ytenckckimagkkaa", sum := "0ab33149e3c9e63ae18a68da2dbeecdfc3ae30af8c429b3705804dc629bd2701", func := "emulator/emulatorlaw16.DiskctlTicks", spec := "diskctlTicks", inPlace := ["internal/abi.NoEscape", "internal/bytealg.MakeNoZero"], unfollowed := true, recurses := true, apart := false }
def DiskctlTicksSaid : Prop := diskctlTicksRow.holds Try.pinned (OpenSpec.ofChange diskctlTicksSpec)

/-- ITS FALSE NEIGHBOUR: 'it returns false'. Refute it at one input. -/
def diskctlTicksWrong : ChangeSpec := { name := "diskctlTicks", fn := fun _ => fun
  | [d1, d2, d3] => { results := [.lit (.bool false)], args := [d1, d2, d3] }
  | _ => none }
def DiskctlTicksWrongFalsely : Prop := diskctlTicksRow.holds Try.pinned (OpenSpec.ofChange diskctlTicksWrong)

/-- 'emulatorlaw16.DiskctlRegisters': WHATEVER THE INPUT: true; the input reads as it did. -/
def diskctlRegistersSpec : ChangeSpec := { name := "diskctlRegisters", fn := fun _ => fun
  | [d1, d2, d3] => { results := [.lit (.bool true)], args := [d1, d2, d3] }
  | _ => none }
def diskctlRegistersRow : OpenClaim := { program := "ytenckckimagkkaa", sum := "0ab33149e3c9e63ae18a68da2dbeecdfc3ae30af8c429b3705804dc629bd2701", func := "emulator/emulatorlaw16.DiskctlRegisters", spec := "diskctlRegisters", inPlace := ["internal/abi.NoEscape", "internal/bytealg.MakeNoZero"], unfollowed := true, recurses := true, apart := false }
def DiskctlRegistersSaid : Prop := diskctlRegistersRow.holds Try.pinned (OpenSpec.ofChange diskctlRegistersSpec)

/-- ITS FALSE NEIGHBOUR: 'it returns false'. Refute it at one input. -/
def diskctlRegistersWrong : ChangeSpec := { name := "diskctlRegisters", fn := fun _ => fun
  | [d1, d2, d3] => { results := [.lit (.bool false)], args := [d1, d2, d3] }
  | _ => none }
def DiskctlRegistersWrongFalsely : Prop := diskctlRegistersRow.holds Try.pinned (OpenSpec.ofChange diskctlRegistersWrong)

/- THE SECOND FORM. 'bulk': how many values and letters a reading holds, each counted each time it is reached (what is shared counts as often as it is met; a slice's spare places count too). A statement '..UptoSaid' is the law's where the arguments, and the package variables that the reading takes, are together of bulk at most 1048576: NARROWER than '..Said'. Prove '..Said' where nothing that the law and all that it calls make is longer than what came in: it says more and counts as full. Else prove '..UptoSaid'. A law counts once. -/
mutual
def uptoBulk {H : Type} : DataW H → Nat
  | .lit (.string bytes) => bytes.length + 1
  | .lit _ => 1
  | .nil => 1
  | .ptr d => uptoBulk d + 1
  | .slice elems spare => uptoBulkAll elems + uptoBulkAll spare + 1
  | .agg parts => uptoBulkAll parts + 1
  | .iface _ d => uptoBulk d + 1
  | .map entries => uptoBulkEntries entries + 1
  | .held _ => 1
def uptoBulkAll {H : Type} : List (DataW H) → Nat
  | [] => 0
  | d :: r => uptoBulk d + uptoBulkAll r
def uptoBulkEntries {H : Type} : List (Lit × DataW H) → Nat
  | [] => 0
  | x :: r => uptoBulkEntry x + uptoBulkEntries r
def uptoBulkEntry {H : Type} : Lit × DataW H → Nat
  | (.string bytes, d) => bytes.length + uptoBulk d + 1
  | (_, d) => uptoBulk d + 1
 end
def uptoSmall : (H : Type) → List (DataW H) → Bool := fun _ ds => decide (uptoBulkAll ds ≤ 1048576)
def OpenSpec.upto (s : _root_.Go.ChangeSpec) : _root_.Go.OpenSpec := { _root_.Go.OpenSpec.ofChange s with cond := some uptoSmall }

/-- 'emulatorlaw16.DiskctlCopies', WHERE WHAT IT READS IS OF BULK AT MOST 1048576: true; the input reads as it did. -/
def diskctlCopiesUptoRow : OpenClaim := { program := "ytenckckimagkkaa", sum := "0ab33149e3c9e63ae18a68da2dbeecdfc3ae30af8c429b3705804dc629bd2701", func := "emulator/emulatorlaw16.DiskctlCopies", spec := "diskctlCopies", inPlace := ["internal/abi.NoEscape", "internal/bytealg.MakeNoZero"], unfollowed := true, recurses := true, apart := false, narrowed := true }
def DiskctlCopiesUptoSaid : Prop := diskctlCopiesUptoRow.holds Try.pinned (OpenSpec.upto diskctlCopiesSpec)

/-- 'emulatorlaw16.DiskctlIdle', WHERE WHAT IT READS IS OF BULK AT MOST 1048576: true; the input reads as it did. -/
def diskctlIdleUptoRow : OpenClaim := { program := "ytenckckimagkkaa", sum := "0ab33149e3c9e63ae18a68da2dbeecdfc3ae30af8c429b3705804dc629bd2701", func := "emulator/emulatorlaw16.DiskctlIdle", spec := "diskctlIdle", inPlace := ["internal/abi.NoEscape", "internal/bytealg.MakeNoZero"], unfollowed := true, recurses := true, apart := false, narrowed := true }
def DiskctlIdleUptoSaid : Prop := diskctlIdleUptoRow.holds Try.pinned (OpenSpec.upto diskctlIdleSpec)

/-- 'emulatorlaw16.DiskctlRuns', WHERE WHAT IT READS IS OF BULK AT MOST 1048576: true; the input reads as it did. -/
def diskctlRunsUptoRow : OpenClaim := { program := "ytenckckimagkkaa", sum := "0ab33149e3c9e63ae18a68da2dbeecdfc3ae30af8c429b3705804dc629bd2701", func := "emulator/emulatorlaw16.DiskctlRuns", spec := "diskctlRuns", inPlace := ["internal/abi.NoEscape", "internal/bytealg.MakeNoZero"], unfollowed := true, recurses := true, apart := false, narrowed := true }
def DiskctlRunsUptoSaid : Prop := diskctlRunsUptoRow.holds Try.pinned (OpenSpec.upto diskctlRunsSpec)

/-- 'emulatorlaw16.DiskctlTicks', WHERE WHAT IT READS IS OF BULK AT MOST 1048576: true; the input reads as it did. -/
def diskctlTicksUptoRow : OpenClaim := { program := "ytenckckimagkkaa", sum := "0ab33149e3c9e63ae18a68da2dbeecdfc3ae30af8c429b3705804dc629bd2701", func := "emulator/emulatorlaw16.DiskctlTicks", spec := "diskctlTicks", inPlace := ["internal/abi.NoEscape", "internal/bytealg.MakeNoZero"], unfollowed := true, recurses := true, apart := false, narrowed := true }
def DiskctlTicksUptoSaid : Prop := diskctlTicksUptoRow.holds Try.pinned (OpenSpec.upto diskctlTicksSpec)

/-- 'emulatorlaw16.DiskctlRegisters', WHERE WHAT IT READS IS OF BULK AT MOST 1048576: true; the input reads as it did. -/
def diskctlRegistersUptoRow : OpenClaim := { program := "ytenckckimagkkaa", sum := "0ab33149e3c9e63ae18a68da2dbeecdfc3ae30af8c429b3705804dc629bd2701", func := "emulator/emulatorlaw16.DiskctlRegisters", spec := "diskctlRegisters", inPlace := ["internal/abi.NoEscape", "internal/bytealg.MakeNoZero"], unfollowed := true, recurses := true, apart := false, narrowed := true }
def DiskctlRegistersUptoSaid : Prop := diskctlRegistersUptoRow.holds Try.pinned (OpenSpec.upto diskctlRegistersSpec)

end Rows
end Go.Proofs.Ytenckckimagkkaa
