/-
  No cell of these rows narrows 'for every input' (looked for: loops, veiled, ifaces, maps, wideKeys, modest, calm, conditions, laid).
  DERIVED. THE GIVEN ROWS OF THIS SEAT. 6 by the template 'for every input the law returns true; each argument reads behind the call as it read before'; 0 by the template 'total and deterministic' (their statements: YtjhibcebipjbcaaTotals.lean).
  GIVEN WITH THE SEED: the statements are not yours to turn. If you find one false, say at which input.
  Laid BY PROGRAM, IN A SANDBOX (cutbox-rows.mjs): the forced cells as the released guide's own fill.sh prints them over the translation 21f2724002db7c8b… (all of the seat's roots in one cut). By AI agents, Wed Nov 11 2026. No macro, syntax, notation, axiom, sorry.
-/
import Derived.Test.YtjhibcebipjbcaaChecked
import GoSem.Claim
import GoSem.ClaimJoined
import GoSem.ClaimMapViews
import Derived.JoinedTies
import Derived.KernelRfl
namespace Go.Proofs.Ytjhibcebipjbcaa
/- THE CELL 'sum', in the pinned program and in every row, IS THE sha256 OF THE DUMP (.gsa) THAT YtjhibcebipjbcaaProg.lean LOADS. Nothing in Lean hashes anything: it is a label: what it is worth is what the hold of that sum in a sandbox is worth. -/
noncomputable def Try.pinned : Pinned := { name := "ytjhibcebipjbcaa", sum := "21f2724002db7c8ba3b066d05e5d22b077ee3cf35e3d8fb057fc10347abb8c65", checked := Try.checked }
namespace Rows
def none {H : Type} : Left H := { results := [], args := [] }

/-- 'emulatorlaw17.TapeTicks': WHATEVER THE INPUT: true; the input reads as it did. -/
def tapeTicksSpec : ChangeSpec := { name := "tapeTicks", fn := fun _ => fun
  | [d1, d2] => { results := [.lit (.bool true)], args := [d1, d2] }
  | _ => none }
def tapeTicksRow : OpenClaim := { program := "ytjhibcebipjbcaa", sum := "21f2724002db7c8ba3b066d05e5d22b077ee3cf35e3d8fb057fc10347abb8c65", func := "emulator/emulatorlaw17.TapeTicks", spec := "tapeTicks", unfollowed := true, recurses := true, apart := false }
def TapeTicksSaid : Prop := tapeTicksRow.holds Try.pinned (OpenSpec.ofChange tapeTicksSpec)

/-- ITS FALSE NEIGHBOUR: 'it returns false'. Refute it at one input. -/
def tapeTicksWrong : ChangeSpec := { name := "tapeTicks", fn := fun _ => fun
  | [d1, d2] => { results := [.lit (.bool false)], args := [d1, d2] }
  | _ => none }
def TapeTicksWrongFalsely : Prop := tapeTicksRow.holds Try.pinned (OpenSpec.ofChange tapeTicksWrong)

/-- 'emulatorlaw17.TapeReturns': WHATEVER THE INPUT: true; the input reads as it did. -/
def tapeReturnsSpec : ChangeSpec := { name := "tapeReturns", fn := fun _ => fun
  | [d1, d2, d3] => { results := [.lit (.bool true)], args := [d1, d2, d3] }
  | _ => none }
def tapeReturnsRow : OpenClaim := { program := "ytjhibcebipjbcaa", sum := "21f2724002db7c8ba3b066d05e5d22b077ee3cf35e3d8fb057fc10347abb8c65", func := "emulator/emulatorlaw17.TapeReturns", spec := "tapeReturns", unfollowed := true, recurses := true, apart := false }
def TapeReturnsSaid : Prop := tapeReturnsRow.holds Try.pinned (OpenSpec.ofChange tapeReturnsSpec)

/-- ITS FALSE NEIGHBOUR: 'it returns false'. Refute it at one input. -/
def tapeReturnsWrong : ChangeSpec := { name := "tapeReturns", fn := fun _ => fun
  | [d1, d2, d3] => { results := [.lit (.bool false)], args := [d1, d2, d3] }
  | _ => none }
def TapeReturnsWrongFalsely : Prop := tapeReturnsRow.holds Try.pinned (OpenSpec.ofChange tapeReturnsWrong)

/-- 'emulatorlaw17.TapePasses': WHATEVER THE INPUT: true; the input reads as it did. -/
def tapePassesSpec : ChangeSpec := { name := "tapePasses", fn := fun _ => fun
  | [d] => { results := [.lit (.bool true)], args := [d] }
  | _ => none }
def tapePassesRow : OpenClaim := { program := "ytjhibcebipjbcaa", sum := "21f2724002db7c8ba3b066d05e5d22b077ee3cf35e3d8fb057fc10347abb8c65", func := "emulator/emulatorlaw17.TapePasses", spec := "tapePasses", unfollowed := true, recurses := true, apart := false }
def TapePassesSaid : Prop := tapePassesRow.holds Try.pinned (OpenSpec.ofChange tapePassesSpec)

/-- ITS FALSE NEIGHBOUR: 'it returns false'. Refute it at one input. -/
def tapePassesWrong : ChangeSpec := { name := "tapePasses", fn := fun _ => fun
  | [d] => { results := [.lit (.bool false)], args := [d] }
  | _ => none }
def TapePassesWrongFalsely : Prop := tapePassesRow.holds Try.pinned (OpenSpec.ofChange tapePassesWrong)

/-- 'emulatorlaw17.TapeRight': WHATEVER THE INPUT: true; the input reads as it did. -/
def tapeRightSpec : ChangeSpec := { name := "tapeRight", fn := fun _ => fun
  | [d1, d2] => { results := [.lit (.bool true)], args := [d1, d2] }
  | _ => none }
def tapeRightRow : OpenClaim := { program := "ytjhibcebipjbcaa", sum := "21f2724002db7c8ba3b066d05e5d22b077ee3cf35e3d8fb057fc10347abb8c65", func := "emulator/emulatorlaw17.TapeRight", spec := "tapeRight", unfollowed := true, recurses := true, apart := false }
def TapeRightSaid : Prop := tapeRightRow.holds Try.pinned (OpenSpec.ofChange tapeRightSpec)

/-- ITS FALSE NEIGHBOUR: 'it returns false'. Refute it at one input. -/
def tapeRightWrong : ChangeSpec := { name := "tapeRight", fn := fun _ => fun
  | [d1, d2] => { results := [.lit (.bool false)], args := [d1, d2] }
  | _ => none }
def TapeRightWrongFalsely : Prop := tapeRightRow.holds Try.pinned (OpenSpec.ofChange tapeRightWrong)

/-- 'emulatorlaw17.TapeRegisters': WHATEVER THE INPUT: true; the input reads as it did. -/
def tapeRegistersSpec : ChangeSpec := { name := "tapeRegisters", fn := fun _ => fun
  | [d1, d2, d3] => { results := [.lit (.bool true)], args := [d1, d2, d3] }
  | _ => none }
def tapeRegistersRow : OpenClaim := { program := "ytjhibcebipjbcaa", sum := "21f2724002db7c8ba3b066d05e5d22b077ee3cf35e3d8fb057fc10347abb8c65", func := "emulator/emulatorlaw17.TapeRegisters", spec := "tapeRegisters", unfollowed := true, recurses := true, apart := false }
def TapeRegistersSaid : Prop := tapeRegistersRow.holds Try.pinned (OpenSpec.ofChange tapeRegistersSpec)

/-- ITS FALSE NEIGHBOUR: 'it returns false'. Refute it at one input. -/
def tapeRegistersWrong : ChangeSpec := { name := "tapeRegisters", fn := fun _ => fun
  | [d1, d2, d3] => { results := [.lit (.bool false)], args := [d1, d2, d3] }
  | _ => none }
def TapeRegistersWrongFalsely : Prop := tapeRegistersRow.holds Try.pinned (OpenSpec.ofChange tapeRegistersWrong)

/-- 'emulatorlaw17.TapeStays': WHATEVER THE INPUT: true; the input reads as it did. -/
def tapeStaysSpec : ChangeSpec := { name := "tapeStays", fn := fun _ => fun
  | [d1, d2, d3] => { results := [.lit (.bool true)], args := [d1, d2, d3] }
  | _ => none }
def tapeStaysRow : OpenClaim := { program := "ytjhibcebipjbcaa", sum := "21f2724002db7c8ba3b066d05e5d22b077ee3cf35e3d8fb057fc10347abb8c65", func := "emulator/emulatorlaw17.TapeStays", spec := "tapeStays", unfollowed := true, recurses := true, apart := false }
def TapeStaysSaid : Prop := tapeStaysRow.holds Try.pinned (OpenSpec.ofChange tapeStaysSpec)

/-- ITS FALSE NEIGHBOUR: 'it returns false'. Refute it at one input. -/
def tapeStaysWrong : ChangeSpec := { name := "tapeStays", fn := fun _ => fun
  | [d1, d2, d3] => { results := [.lit (.bool false)], args := [d1, d2, d3] }
  | _ => none }
def TapeStaysWrongFalsely : Prop := tapeStaysRow.holds Try.pinned (OpenSpec.ofChange tapeStaysWrong)

/- THE SECOND FORM. 'bulk': how many values and letters a reading holds, each counted each time it is reached (what is shared counts as often as it is met; a slice's spare places count too). A statement '..UptoSaid' is the law's where the arguments, and the package variables that the reading takes, are together of bulk at most 1048576: NARROWER than '..Said'. Prove '..Said' where nothing that the law and all that it calls make is longer than what came in: it says more and counts as full. Else prove '..UptoSaid'. A law counts once. -/
mutual
def uptoBulk {H : Type} : DataW H → Nat
  | .lit (.string bytes) => bytes.length + 1
  | .lit _ => 1
  | .nil => 1
  | .ptr d => uptoBulk d + 1
  | .slice elems spare => uptoBulkAll elems + uptoBulkAll spare + 1
  | .agg parts => uptoBulkAll parts + 1
  | .iface _ d => uptoBulk d + 1
  | .map entries => uptoBulkEntries entries + 1
  | .held _ => 1
def uptoBulkAll {H : Type} : List (DataW H) → Nat
  | [] => 0
  | d :: r => uptoBulk d + uptoBulkAll r
def uptoBulkEntries {H : Type} : List (Lit × DataW H) → Nat
  | [] => 0
  | x :: r => uptoBulkEntry x + uptoBulkEntries r
def uptoBulkEntry {H : Type} : Lit × DataW H → Nat
  | (.string bytes, d) => bytes.length + uptoBulk d + 1
  | (_, d) => uptoBulk d + 1
 end
def uptoSmall : (H : Type) → List (DataW H) → Bool := fun _ ds => decide (uptoBulkAll ds ≤ 1048576)
def OpenSpec.upto (s : _root_.Go.ChangeSpec) : _root_.Go.OpenSpec := { _root_.Go.OpenSpec.ofChange s with cond := some uptoSmall }

/-- 'emulatorlaw17.TapeTicks', WHERE WHAT IT READS IS OF BULK AT MOST 1048576: true; the input reads as it did. -/
def tapeTicksUptoRow : OpenClaim := { program := "ytjhibcebipjbcaa", sum := "21f2724002db7c8ba3b066d05e5d22b077ee3cf35e3d8fb057fc10347abb8c65", func := "emulator/emulatorlaw17.TapeTicks", spec := "tapeTicks", unfollowed := true, recurses := true, apart := false, narrowed := true }
def TapeTicksUptoSaid : Prop := tapeTicksUptoRow.holds Try.pinned (OpenSpec.upto tapeTicksSpec)

/-- 'emulatorlaw17.TapeReturns', WHERE WHAT IT READS IS OF BULK AT MOST 1048576: true; the input reads as it did. -/
def tapeReturnsUptoRow : OpenClaim := { program := "ytjhibcebipjbcaa", sum := "21f2724002db7c8ba3b066d05e5d22b077ee3cf35e3d8fb057fc10347abb8c65", func := "emulator/emulatorlaw17.TapeReturns", spec := "tapeReturns", unfollowed := true, recurses := true, apart := false, narrowed := true }
def TapeReturnsUptoSaid : Prop := tapeReturnsUptoRow.holds Try.pinned (OpenSpec.upto tapeReturnsSpec)

/-- 'emulatorlaw17.TapePasses', WHERE WHAT IT READS IS OF BULK AT MOST 1048576: true; the input reads as it did. -/
def tapePassesUptoRow : OpenClaim := { program := "ytjhibcebipjbcaa", sum := "21f2724002db7c8ba3b066d05e5d22b077ee3cf35e3d8fb057fc10347abb8c65", func := "emulator/emulatorlaw17.TapePasses", spec := "tapePasses", unfollowed := true, recurses := true, apart := false, narrowed := true }
def TapePassesUptoSaid : Prop := tapePassesUptoRow.holds Try.pinned (OpenSpec.upto tapePassesSpec)

/-- 'emulatorlaw17.TapeRight', WHERE WHAT IT READS IS OF BULK AT MOST 1048576: true; the input reads as it did. -/
def tapeRightUptoRow : OpenClaim := { program := "ytjhibcebipjbcaa", sum := "21f2724002db7c8ba3b066d05e5d22b077ee3cf35e3d8fb057fc10347abb8c65", func := "emulator/emulatorlaw17.TapeRight", spec := "tapeRight", unfollowed := true, recurses := true, apart := false, narrowed := true }
def TapeRightUptoSaid : Prop := tapeRightUptoRow.holds Try.pinned (OpenSpec.upto tapeRightSpec)

/-- 'emulatorlaw17.TapeRegisters', WHERE WHAT IT READS IS OF BULK AT MOST 1048576: true; the input reads as it did. -/
def tapeRegistersUptoRow : OpenClaim := { program := "ytjhibcebipjbcaa", sum := "21f2724002db7c8ba3b066d05e5d22b077ee3cf35e3d8fb057fc10347abb8c65", func := "emulator/emulatorlaw17.TapeRegisters", spec := "tapeRegisters", unfollowed := true, recurses := true, apart := false, narrowed := true }
def TapeRegistersUptoSaid : Prop := tapeRegistersUptoRow.holds Try.pinned (OpenSpec.upto tapeRegistersSpec)

/-- 'emulatorlaw17.TapeStays', WHERE WHAT IT READS IS OF BULK AT MOST 1048576: true; the input reads as it did. -/
def tapeStaysUptoRow : OpenClaim := { program := "ytjhibcebipjbcaa", sum := "21f2724002db7c8ba3b066d05e5d22b077ee3cf35e3d8fb057fc10347abb8c65", func := "emulator/emulatorlaw17.TapeStays", spec := "tapeStays", unfollowed := true, recurses := true, apart := false, narrowed := true }
def TapeStaysUptoSaid : Prop := tapeStaysUptoRow.holds Try.pinned (OpenSpec.upto tapeStaysSpec)

end Rows
end Go.Proofs.Ytjhibcebipjbcaa
