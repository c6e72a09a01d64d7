/-
  No cell of these rows narrows 'for every input' (looked for: loops, veiled, ifaces, maps, wideKeys, modest, calm, conditions, laid).
  DERIVED. THE GIVEN ROWS OF THIS SEAT. 6 by the template 'for every input the law returns true; each argument reads behind the call as it read before'; 0 by the template 'total and deterministic' (their statements: YtnhhimlienefkaaTotals.lean).
  GIVEN WITH THE SEED: the statements are not yours to turn. If you find one false, say at which input.
  Laid BY PROGRAM, IN A SANDBOX (cutbox-rows.mjs): the forced cells as the released guide's own fill.sh prints them over the translation c160360d92a6a294… (all of the seat's roots in one cut). By AI agents, Wed Nov 11 2026. No macro, syntax, notation, axiom, sorry.
-/
import Derived.Test.YtnhhimlienefkaaChecked
import GoSem.Claim
import GoSem.ClaimJoined
import GoSem.ClaimMapViews
import Derived.JoinedTies
import Derived.KernelRfl
namespace Go.Proofs.Ytnhhimlienefkaa
/- THE CELL 'sum', in the pinned program and in every row, IS THE sha256 OF THE DUMP (.gsa) THAT YtnhhimlienefkaaProg.lean LOADS. Nothing in Lean hashes anything: it is a label: what it is worth is what the hold of that sum in a sandbox is worth. -/
noncomputable def Try.pinned : Pinned := { name := "ytnhhimlienefkaa", sum := "c160360d92a6a2947dfe01648bfc5544442f0d61c178a9e2ebfbd86fd0c1509e", checked := Try.checked }
namespace Rows
def none {H : Type} : Left H := { results := [], args := [] }

/-- 'emulatorlaw08.MemoryAccess': WHATEVER THE INPUT: true; the input reads as it did. -/
def memoryAccessSpec : ChangeSpec := { name := "memoryAccess", fn := fun _ => fun
  | [d1, d2, d3] => { results := [.lit (.bool true)], args := [d1, d2, d3] }
  | _ => none }
def memoryAccessRow : OpenClaim := { program := "ytnhhimlienefkaa", sum := "c160360d92a6a2947dfe01648bfc5544442f0d61c178a9e2ebfbd86fd0c1509e", func := "emulator/emulatorlaw08.MemoryAccess", spec := "memoryAccess", inPlace := ["slices.overlaps[int]"], unfollowed := true, recurses := true, apart := false }
def MemoryAccessSaid : Prop := memoryAccessRow.holds Try.pinned (OpenSpec.ofChange memoryAccessSpec)

/-- ITS FALSE NEIGHBOUR: 'it returns false'. Refute it at one input. -/
def memoryAccessWrong : ChangeSpec := { name := "memoryAccess", fn := fun _ => fun
  | [d1, d2, d3] => { results := [.lit (.bool false)], args := [d1, d2, d3] }
  | _ => none }
def MemoryAccessWrongFalsely : Prop := memoryAccessRow.holds Try.pinned (OpenSpec.ofChange memoryAccessWrong)

/-- 'emulatorlaw08.MemoryRanges': WHATEVER THE INPUT: true; the input reads as it did. -/
def memoryRangesSpec : ChangeSpec := { name := "memoryRanges", fn := fun _ => fun
  | [d1, d2, d3] => { results := [.lit (.bool true)], args := [d1, d2, d3] }
  | _ => none }
def memoryRangesRow : OpenClaim := { program := "ytnhhimlienefkaa", sum := "c160360d92a6a2947dfe01648bfc5544442f0d61c178a9e2ebfbd86fd0c1509e", func := "emulator/emulatorlaw08.MemoryRanges", spec := "memoryRanges", inPlace := ["slices.overlaps[int]"], unfollowed := true, recurses := true, apart := false }
def MemoryRangesSaid : Prop := memoryRangesRow.holds Try.pinned (OpenSpec.ofChange memoryRangesSpec)

/-- ITS FALSE NEIGHBOUR: 'it returns false'. Refute it at one input. -/
def memoryRangesWrong : ChangeSpec := { name := "memoryRanges", fn := fun _ => fun
  | [d1, d2, d3] => { results := [.lit (.bool false)], args := [d1, d2, d3] }
  | _ => none }
def MemoryRangesWrongFalsely : Prop := memoryRangesRow.holds Try.pinned (OpenSpec.ofChange memoryRangesWrong)

/-- 'emulatorlaw08.MemoryMoves': WHATEVER THE INPUT: true; the input reads as it did. -/
def memoryMovesSpec : ChangeSpec := { name := "memoryMoves", fn := fun _ => fun
  | [d1, d2, d3] => { results := [.lit (.bool true)], args := [d1, d2, d3] }
  | _ => none }
def memoryMovesRow : OpenClaim := { program := "ytnhhimlienefkaa", sum := "c160360d92a6a2947dfe01648bfc5544442f0d61c178a9e2ebfbd86fd0c1509e", func := "emulator/emulatorlaw08.MemoryMoves", spec := "memoryMoves", inPlace := ["slices.overlaps[int]"], unfollowed := true, recurses := true, apart := false }
def MemoryMovesSaid : Prop := memoryMovesRow.holds Try.pinned (OpenSpec.ofChange memoryMovesSpec)

/-- ITS FALSE NEIGHBOUR: 'it returns false'. Refute it at one input. -/
def memoryMovesWrong : ChangeSpec := { name := "memoryMoves", fn := fun _ => fun
  | [d1, d2, d3] => { results := [.lit (.bool false)], args := [d1, d2, d3] }
  | _ => none }
def MemoryMovesWrongFalsely : Prop := memoryMovesRow.holds Try.pinned (OpenSpec.ofChange memoryMovesWrong)

/-- 'emulatorlaw08.MemoryRight': WHATEVER THE INPUT: true; the input reads as it did. -/
def memoryRightSpec : ChangeSpec := { name := "memoryRight", fn := fun _ => fun
  | [d1, d2, d3] => { results := [.lit (.bool true)], args := [d1, d2, d3] }
  | _ => none }
def memoryRightRow : OpenClaim := { program := "ytnhhimlienefkaa", sum := "c160360d92a6a2947dfe01648bfc5544442f0d61c178a9e2ebfbd86fd0c1509e", func := "emulator/emulatorlaw08.MemoryRight", spec := "memoryRight", inPlace := ["slices.overlaps[int]"], unfollowed := true, recurses := true, apart := false }
def MemoryRightSaid : Prop := memoryRightRow.holds Try.pinned (OpenSpec.ofChange memoryRightSpec)

/-- ITS FALSE NEIGHBOUR: 'it returns false'. Refute it at one input. -/
def memoryRightWrong : ChangeSpec := { name := "memoryRight", fn := fun _ => fun
  | [d1, d2, d3] => { results := [.lit (.bool false)], args := [d1, d2, d3] }
  | _ => none }
def MemoryRightWrongFalsely : Prop := memoryRightRow.holds Try.pinned (OpenSpec.ofChange memoryRightWrong)

/-- 'emulatorlaw08.MemorySpoils': WHATEVER THE INPUT: true; the input reads as it did. -/
def memorySpoilsSpec : ChangeSpec := { name := "memorySpoils", fn := fun _ => fun
  | [d1, d2, d3] => { results := [.lit (.bool true)], args := [d1, d2, d3] }
  | _ => none }
def memorySpoilsRow : OpenClaim := { program := "ytnhhimlienefkaa", sum := "c160360d92a6a2947dfe01648bfc5544442f0d61c178a9e2ebfbd86fd0c1509e", func := "emulator/emulatorlaw08.MemorySpoils", spec := "memorySpoils", inPlace := ["slices.overlaps[int]"], unfollowed := true, recurses := true, apart := false }
def MemorySpoilsSaid : Prop := memorySpoilsRow.holds Try.pinned (OpenSpec.ofChange memorySpoilsSpec)

/-- ITS FALSE NEIGHBOUR: 'it returns false'. Refute it at one input. -/
def memorySpoilsWrong : ChangeSpec := { name := "memorySpoils", fn := fun _ => fun
  | [d1, d2, d3] => { results := [.lit (.bool false)], args := [d1, d2, d3] }
  | _ => none }
def MemorySpoilsWrongFalsely : Prop := memorySpoilsRow.holds Try.pinned (OpenSpec.ofChange memorySpoilsWrong)

/-- 'emulatorlaw08.MemoryKeeps': WHATEVER THE INPUT: true; the input reads as it did. -/
def memoryKeepsSpec : ChangeSpec := { name := "memoryKeeps", fn := fun _ => fun
  | [d1, d2, d3] => { results := [.lit (.bool true)], args := [d1, d2, d3] }
  | _ => none }
def memoryKeepsRow : OpenClaim := { program := "ytnhhimlienefkaa", sum := "c160360d92a6a2947dfe01648bfc5544442f0d61c178a9e2ebfbd86fd0c1509e", func := "emulator/emulatorlaw08.MemoryKeeps", spec := "memoryKeeps", inPlace := ["slices.overlaps[int]"], unfollowed := true, recurses := true, apart := false }
def MemoryKeepsSaid : Prop := memoryKeepsRow.holds Try.pinned (OpenSpec.ofChange memoryKeepsSpec)

/-- ITS FALSE NEIGHBOUR: 'it returns false'. Refute it at one input. -/
def memoryKeepsWrong : ChangeSpec := { name := "memoryKeeps", fn := fun _ => fun
  | [d1, d2, d3] => { results := [.lit (.bool false)], args := [d1, d2, d3] }
  | _ => none }
def MemoryKeepsWrongFalsely : Prop := memoryKeepsRow.holds Try.pinned (OpenSpec.ofChange memoryKeepsWrong)

/- THE SECOND FORM. 'bulk': how many values and letters a reading holds, each counted each time it is reached (what is shared counts as often as it is met; a slice's spare places count too). A statement '..UptoSaid' is the law's where the arguments, and the package variables that the reading takes, are together of bulk at most 1048576: NARROWER than '..Said'. Prove '..Said' where nothing that the law and all that it calls make is longer than what came in: it says more and counts as full. Else prove '..UptoSaid'. A law counts once. -/
mutual
def uptoBulk {H : Type} : DataW H → Nat
  | .lit (.string bytes) => bytes.length + 1
  | .lit _ => 1
  | .nil => 1
  | .ptr d => uptoBulk d + 1
  | .slice elems spare => uptoBulkAll elems + uptoBulkAll spare + 1
  | .agg parts => uptoBulkAll parts + 1
  | .iface _ d => uptoBulk d + 1
  | .map entries => uptoBulkEntries entries + 1
  | .held _ => 1
def uptoBulkAll {H : Type} : List (DataW H) → Nat
  | [] => 0
  | d :: r => uptoBulk d + uptoBulkAll r
def uptoBulkEntries {H : Type} : List (Lit × DataW H) → Nat
  | [] => 0
  | x :: r => uptoBulkEntry x + uptoBulkEntries r
def uptoBulkEntry {H : Type} : Lit × DataW H → Nat
  | (.string bytes, d) => bytes.length + uptoBulk d + 1
  | (_, d) => uptoBulk d + 1
 end
def uptoSmall : (H : Type) → List (DataW H) → Bool := fun _ ds => decide (uptoBulkAll ds ≤ 1048576)
def OpenSpec.upto (s : _root_.Go.ChangeSpec) : _root_.Go.OpenSpec := { _root_.Go.OpenSpec.ofChange s with cond := some uptoSmall }

/-- 'emulatorlaw08.MemoryAccess', WHERE WHAT IT READS IS OF BULK AT MOST 1048576: true; the input reads as it did. -/
def memoryAccessUptoRow : OpenClaim := { program := "ytnhhimlienefkaa", sum := "c160360d92a6a2947dfe01648bfc5544442f0d61c178a9e2ebfbd86fd0c1509e", func := "emulator/emulatorlaw08.MemoryAccess", spec := "memoryAccess", inPlace := ["slices.overlaps[int]"], unfollowed := true, recurses := true, apart := false, narrowed := true }
def MemoryAccessUptoSaid : Prop := memoryAccessUptoRow.holds Try.pinned (OpenSpec.upto memoryAccessSpec)

/-- 'emulatorlaw08.MemoryRanges', WHERE WHAT IT READS IS OF BULK AT MOST 1048576: true; the input reads as it did. -/
def memoryRangesUptoRow : OpenClaim := { program := "ytnhhimlienefkaa", sum := "c160360d92a6a2947dfe01648bfc5544442f0d61c178a9e2ebfbd86fd0c1509e", func := "emulator/emulatorlaw08.MemoryRanges", spec := "memoryRanges", inPlace := ["slices.overlaps[int]"], unfollowed := true, recurses := true, apart := false, narrowed := true }
def MemoryRangesUptoSaid : Prop := memoryRangesUptoRow.holds Try.pinned (OpenSpec.upto memoryRangesSpec)

/-- 'emulatorlaw08.MemoryMoves', WHERE WHAT IT READS IS OF BULK AT MOST 1048576: true; the input reads as it did. -/
def memoryMovesUptoRow : OpenClaim := { program := "ytnhhimlienefkaa", sum := "c160360d92a6a2947dfe01648bfc5544442f0d61c178a9e2ebfbd86fd0c1509e", func := "emulator/emulatorlaw08.MemoryMoves", spec := "memoryMoves", inPlace := ["slices.overlaps[int]"], unfollowed := true, recurses := true, apart := false, narrowed := true }
def MemoryMovesUptoSaid : Prop := memoryMovesUptoRow.holds Try.pinned (OpenSpec.upto memoryMovesSpec)

/-- 'emulatorlaw08.MemoryRight', WHERE WHAT IT READS IS OF BULK AT MOST 1048576: true; the input reads as it did. -/
def memoryRightUptoRow : OpenClaim := { program := "ytnhhimlienefkaa", sum := "c160360d92a6a2947dfe01648bfc5544442f0d61c178a9e2ebfbd86fd0c1509e", func := "emulator/emulatorlaw08.MemoryRight", spec := "memoryRight", inPlace := ["slices.overlaps[int]"], unfollowed := true, recurses := true, apart := false, narrowed := true }
def MemoryRightUptoSaid : Prop := memoryRightUptoRow.holds Try.pinned (OpenSpec.upto memoryRightSpec)

/-- 'emulatorlaw08.MemorySpoils', WHERE WHAT IT READS IS OF BULK AT MOST 1048576: true; the input reads as it did. -/
def memorySpoilsUptoRow : OpenClaim := { program := "ytnhhimlienefkaa", sum := "c160360d92a6a2947dfe01648bfc5544442f0d61c178a9e2ebfbd86fd0c1509e", func := "emulator/emulatorlaw08.MemorySpoils", spec := "memorySpoils", inPlace := ["slices.overlaps[int]"], unfollowed := true, recurses := true, apart := false, narrowed := true }
def MemorySpoilsUptoSaid : Prop := memorySpoilsUptoRow.holds Try.pinned (OpenSpec.upto memorySpoilsSpec)

/-- 'emulatorlaw08.MemoryKeeps', WHERE WHAT IT READS IS OF BULK AT MOST 1048576: true; the input reads as it did. -/
def memoryKeepsUptoRow : OpenClaim := { program := "ytnhhimlienefkaa", sum := "c160360d92a6a2947dfe01648bfc5544442f0d61c178a9e2ebfbd86fd0c1509e", func := "emulator/emulatorlaw08.MemoryKeeps", spec := "memoryKeeps", inPlace := ["slices.overlaps[int]"], unfollowed := true, recurses := true, apart := false, narrowed := true }
def MemoryKeepsUptoSaid : Prop := memoryKeepsUptoRow.holds Try.pinned (OpenSpec.upto memoryKeepsSpec)

end Rows
end Go.Proofs.Ytnhhimlienefkaa
