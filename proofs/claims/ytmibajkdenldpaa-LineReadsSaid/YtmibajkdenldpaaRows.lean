/-
  No cell of these rows narrows 'for every input' (looked for: loops, veiled, ifaces, maps, wideKeys, modest, calm, conditions, laid).
  DERIVED. THE GIVEN ROWS OF THIS SEAT. 6 by the template 'for every input the law returns true; each argument reads behind the call as it read before'; 0 by the template 'total and deterministic' (their statements: YtmibajkdenldpaaTotals.lean).
  GIVEN WITH THE SEED: the statements are not yours to turn. If you find one false, say at which input.
  Laid BY PROGRAM, IN A SANDBOX (cutbox-rows.mjs): the forced cells as the released guide's own fill.sh prints them over the translation fece1184d1c9bd5c… (all of the seat's roots in one cut). By AI agents, Wed Nov 11 2026. No macro, syntax, notation, axiom, sorry.
-/
import Derived.Test.YtmibajkdenldpaaChecked
import GoSem.Claim
import GoSem.ClaimJoined
import GoSem.ClaimMapViews
import Derived.JoinedTies
import Derived.KernelRfl
namespace Go.Proofs.Ytmibajkdenldpaa
/- THE CELL 'sum', in the pinned program and in every row, IS THE sha256 OF THE DUMP (.gsa) THAT YtmibajkdenldpaaProg.lean LOADS. Nothing in Lean hashes anything: it is a label: what it is worth is what the hold of that sum in a sandbox is worth. -/
noncomputable def Try.pinned : Pinned := { name := "ytmibajkdenldpaa", sum := "fece1184d1c9bd5c156b98665ee519108cabc0b491bd50da86bcce4270b88b71", checked := Try.checked }
namespace Rows
def none {H : Type} : Left H := { results := [], args := [] }

/-- 'emulatorlaw14.LineRight': WHATEVER THE INPUT: true; the input reads as it did. -/
def lineRightSpec : ChangeSpec := { name := "lineRight", fn := fun _ => fun
  | [d] => { results := [.lit (.bool true)], args := [d] }
  | _ => none }
def lineRightRow : OpenClaim := { program := "ytmibajkdenldpaa", sum := "fece1184d1c9bd5c156b98665ee519108cabc0b491bd50da86bcce4270b88b71", func := "emulator/emulatorlaw14.LineRight", spec := "lineRight", apart := false }
def LineRightSaid : Prop := lineRightRow.holds Try.pinned (OpenSpec.ofChange lineRightSpec)

/-- ITS FALSE NEIGHBOUR: 'it returns false'. Refute it at one input. -/
def lineRightWrong : ChangeSpec := { name := "lineRight", fn := fun _ => fun
  | [d] => { results := [.lit (.bool false)], args := [d] }
  | _ => none }
def LineRightWrongFalsely : Prop := lineRightRow.holds Try.pinned (OpenSpec.ofChange lineRightWrong)

/-- 'emulatorlaw14.LineRequests': WHATEVER THE INPUT: true; the input reads as it did. -/
def lineRequestsSpec : ChangeSpec := { name := "lineRequests", fn := fun _ => fun
  | [d1, d2] => { results := [.lit (.bool true)], args := [d1, d2] }
  | _ => none }
def lineRequestsRow : OpenClaim := { program := "ytmibajkdenldpaa", sum := "fece1184d1c9bd5c156b98665ee519108cabc0b491bd50da86bcce4270b88b71", func := "emulator/emulatorlaw14.LineRequests", spec := "lineRequests", apart := false }
def LineRequestsSaid : Prop := lineRequestsRow.holds Try.pinned (OpenSpec.ofChange lineRequestsSpec)

/-- ITS FALSE NEIGHBOUR: 'it returns false'. Refute it at one input. -/
def lineRequestsWrong : ChangeSpec := { name := "lineRequests", fn := fun _ => fun
  | [d1, d2] => { results := [.lit (.bool false)], args := [d1, d2] }
  | _ => none }
def LineRequestsWrongFalsely : Prop := lineRequestsRow.holds Try.pinned (OpenSpec.ofChange lineRequestsWrong)

/-- 'emulatorlaw14.LineReads': WHATEVER THE INPUT: true; the input reads as it did. -/
def lineReadsSpec : ChangeSpec := { name := "lineReads", fn := fun _ => fun
  | [d1, d2] => { results := [.lit (.bool true)], args := [d1, d2] }
  | _ => none }
def lineReadsRow : OpenClaim := { program := "ytmibajkdenldpaa", sum := "fece1184d1c9bd5c156b98665ee519108cabc0b491bd50da86bcce4270b88b71", func := "emulator/emulatorlaw14.LineReads", spec := "lineReads", apart := false }
def LineReadsSaid : Prop := lineReadsRow.holds Try.pinned (OpenSpec.ofChange lineReadsSpec)

/-- ITS FALSE NEIGHBOUR: 'it returns false'. Refute it at one input. -/
def lineReadsWrong : ChangeSpec := { name := "lineReads", fn := fun _ => fun
  | [d1, d2] => { results := [.lit (.bool false)], args := [d1, d2] }
  | _ => none }
def LineReadsWrongFalsely : Prop := lineReadsRow.holds Try.pinned (OpenSpec.ofChange lineReadsWrong)

/-- 'emulatorlaw14.LineDoes': WHATEVER THE INPUT: true; the input reads as it did. -/
def lineDoesSpec : ChangeSpec := { name := "lineDoes", fn := fun _ => fun
  | [d1, d2] => { results := [.lit (.bool true)], args := [d1, d2] }
  | _ => none }
def lineDoesRow : OpenClaim := { program := "ytmibajkdenldpaa", sum := "fece1184d1c9bd5c156b98665ee519108cabc0b491bd50da86bcce4270b88b71", func := "emulator/emulatorlaw14.LineDoes", spec := "lineDoes", apart := false }
def LineDoesSaid : Prop := lineDoesRow.holds Try.pinned (OpenSpec.ofChange lineDoesSpec)

/-- ITS FALSE NEIGHBOUR: 'it returns false'. Refute it at one input. -/
def lineDoesWrong : ChangeSpec := { name := "lineDoes", fn := fun _ => fun
  | [d1, d2] => { results := [.lit (.bool false)], args := [d1, d2] }
  | _ => none }
def LineDoesWrongFalsely : Prop := lineDoesRow.holds Try.pinned (OpenSpec.ofChange lineDoesWrong)

/-- 'emulatorlaw14.LineStays': WHATEVER THE INPUT: true; the input reads as it did. -/
def lineStaysSpec : ChangeSpec := { name := "lineStays", fn := fun _ => fun
  | [d1, d2] => { results := [.lit (.bool true)], args := [d1, d2] }
  | _ => none }
def lineStaysRow : OpenClaim := { program := "ytmibajkdenldpaa", sum := "fece1184d1c9bd5c156b98665ee519108cabc0b491bd50da86bcce4270b88b71", func := "emulator/emulatorlaw14.LineStays", spec := "lineStays", apart := false }
def LineStaysSaid : Prop := lineStaysRow.holds Try.pinned (OpenSpec.ofChange lineStaysSpec)

/-- ITS FALSE NEIGHBOUR: 'it returns false'. Refute it at one input. -/
def lineStaysWrong : ChangeSpec := { name := "lineStays", fn := fun _ => fun
  | [d1, d2] => { results := [.lit (.bool false)], args := [d1, d2] }
  | _ => none }
def LineStaysWrongFalsely : Prop := lineStaysRow.holds Try.pinned (OpenSpec.ofChange lineStaysWrong)

/-- 'emulatorlaw14.LineSends': WHATEVER THE INPUT: true; the input reads as it did. -/
def lineSendsSpec : ChangeSpec := { name := "lineSends", fn := fun _ => fun
  | [d1, d2, d3] => { results := [.lit (.bool true)], args := [d1, d2, d3] }
  | _ => none }
def lineSendsRow : OpenClaim := { program := "ytmibajkdenldpaa", sum := "fece1184d1c9bd5c156b98665ee519108cabc0b491bd50da86bcce4270b88b71", func := "emulator/emulatorlaw14.LineSends", spec := "lineSends", apart := false }
def LineSendsSaid : Prop := lineSendsRow.holds Try.pinned (OpenSpec.ofChange lineSendsSpec)

/-- ITS FALSE NEIGHBOUR: 'it returns false'. Refute it at one input. -/
def lineSendsWrong : ChangeSpec := { name := "lineSends", fn := fun _ => fun
  | [d1, d2, d3] => { results := [.lit (.bool false)], args := [d1, d2, d3] }
  | _ => none }
def LineSendsWrongFalsely : Prop := lineSendsRow.holds Try.pinned (OpenSpec.ofChange lineSendsWrong)

/- THE SECOND FORM. 'bulk': how many values and letters a reading holds, each counted each time it is reached (what is shared counts as often as it is met; a slice's spare places count too). A statement '..UptoSaid' is the law's where the arguments, and the package variables that the reading takes, are together of bulk at most 1048576: NARROWER than '..Said'. Prove '..Said' where nothing that the law and all that it calls make is longer than what came in: it says more and counts as full. Else prove '..UptoSaid'. A law counts once. -/
mutual
def uptoBulk {H : Type} : DataW H → Nat
  | .lit (.string bytes) => bytes.length + 1
  | .lit _ => 1
  | .nil => 1
  | .ptr d => uptoBulk d + 1
  | .slice elems spare => uptoBulkAll elems + uptoBulkAll spare + 1
  | .agg parts => uptoBulkAll parts + 1
  | .iface _ d => uptoBulk d + 1
  | .map entries => uptoBulkEntries entries + 1
  | .held _ => 1
def uptoBulkAll {H : Type} : List (DataW H) → Nat
  | [] => 0
  | d :: r => uptoBulk d + uptoBulkAll r
def uptoBulkEntries {H : Type} : List (Lit × DataW H) → Nat
  | [] => 0
  | x :: r => uptoBulkEntry x + uptoBulkEntries r
def uptoBulkEntry {H : Type} : Lit × DataW H → Nat
  | (.string bytes, d) => bytes.length + uptoBulk d + 1
  | (_, d) => uptoBulk d + 1
 end
def uptoSmall : (H : Type) → List (DataW H) → Bool := fun _ ds => decide (uptoBulkAll ds ≤ 1048576)
def OpenSpec.upto (s : _root_.Go.ChangeSpec) : _root_.Go.OpenSpec := { _root_.Go.OpenSpec.ofChange s with cond := some uptoSmall }

/-- 'emulatorlaw14.LineRight', WHERE WHAT IT READS IS OF BULK AT MOST 1048576: true; the input reads as it did. -/
def lineRightUptoRow : OpenClaim := { program := "ytmibajkdenldpaa", sum := "fece1184d1c9bd5c156b98665ee519108cabc0b491bd50da86bcce4270b88b71", func := "emulator/emulatorlaw14.LineRight", spec := "lineRight", apart := false, narrowed := true }
def LineRightUptoSaid : Prop := lineRightUptoRow.holds Try.pinned (OpenSpec.upto lineRightSpec)

/-- 'emulatorlaw14.LineRequests', WHERE WHAT IT READS IS OF BULK AT MOST 1048576: true; the input reads as it did. -/
def lineRequestsUptoRow : OpenClaim := { program := "ytmibajkdenldpaa", sum := "fece1184d1c9bd5c156b98665ee519108cabc0b491bd50da86bcce4270b88b71", func := "emulator/emulatorlaw14.LineRequests", spec := "lineRequests", apart := false, narrowed := true }
def LineRequestsUptoSaid : Prop := lineRequestsUptoRow.holds Try.pinned (OpenSpec.upto lineRequestsSpec)

/-- 'emulatorlaw14.LineReads', WHERE WHAT IT READS IS OF BULK AT MOST 1048576: true; the input reads as it did. -/
def lineReadsUptoRow : OpenClaim := { program := "ytmibajkdenldpaa", sum := "fece1184d1c9bd5c156b98665ee519108cabc0b491bd50da86bcce4270b88b71", func := "emulator/emulatorlaw14.LineReads", spec := "lineReads", apart := false, narrowed := true }
def LineReadsUptoSaid : Prop := lineReadsUptoRow.holds Try.pinned (OpenSpec.upto lineReadsSpec)

/-- 'emulatorlaw14.LineDoes', WHERE WHAT IT READS IS OF BULK AT MOST 1048576: true; the input reads as it did. -/
def lineDoesUptoRow : OpenClaim := { program := "ytmibajkdenldpaa", sum := "fece1184d1c9bd5c156b98665ee519108cabc0b491bd50da86bcce4270b88b71", func := "emulator/emulatorlaw14.LineDoes", spec := "lineDoes", apart := false, narrowed := true }
def LineDoesUptoSaid : Prop := lineDoesUptoRow.holds Try.pinned (OpenSpec.upto lineDoesSpec)

/-- 'emulatorlaw14.LineStays', WHERE WHAT IT READS IS OF BULK AT MOST 1048576: true; the input reads as it did. -/
def lineStaysUptoRow : OpenClaim := { program := "ytmibajkdenldpaa", sum := "fece1184d1c9bd5c156b98665ee519108cabc0b491bd50da86bcce4270b88b71", func := "emulator/emulatorlaw14.LineStays", spec := "lineStays", apart := false, narrowed := true }
def LineStaysUptoSaid : Prop := lineStaysUptoRow.holds Try.pinned (OpenSpec.upto lineStaysSpec)

/-- 'emulatorlaw14.LineSends', WHERE WHAT IT READS IS OF BULK AT MOST 1048576: true; the input reads as it did. -/
def lineSendsUptoRow : OpenClaim := { program := "ytmibajkdenldpaa", sum := "fece1184d1c9bd5c156b98665ee519108cabc0b491bd50da86bcce4270b88b71", func := "emulator/emulatorlaw14.LineSends", spec := "lineSends", apart := false, narrowed := true }
def LineSendsUptoSaid : Prop := lineSendsUptoRow.holds Try.pinned (OpenSpec.upto lineSendsSpec)

end Rows
end Go.Proofs.Ytmibajkdenldpaa
