/-
  No cell of these rows narrows 'for every input' (looked for: loops, veiled, ifaces, maps, wideKeys, modest, calm, conditions, laid).
  DERIVED. THE GIVEN ROWS OF THIS SEAT. 3 by the template 'for every input the law returns true; each argument reads behind the call as it read before'; 0 by the template 'total and deterministic' (their statements: YtlaabdpccdnalaaTotals.lean).
  GIVEN WITH THE SEED: the statements are not yours to turn. If you find one false, say at which input.
  Laid BY PROGRAM, IN A SANDBOX (cutbox-rows.mjs): the forced cells as the released guide's own fill.sh prints them over the translation c84c1ec739ced5f9… (all of the seat's roots in one cut). By AI agents, Wed Nov 11 2026. No macro, syntax, notation, axiom, sorry.
-/
import Derived.Test.YtlaabdpccdnalaaChecked
import GoSem.Claim
import GoSem.ClaimJoined
import GoSem.ClaimMapViews
import Derived.JoinedTies
import Derived.KernelRfl
namespace Go.Proofs.Ytlaabdpccdnalaa
/- THE CELL 'sum', in the pinned program and in every row, IS THE sha256 OF THE DUMP (.gsa) THAT YtlaabdpccdnalaaProg.lean LOADS. Nothing in Lean hashes anything: it is a label: what it is worth is what the hold of that sum in a sandbox is worth. -/
noncomputable def Try.pinned : Pinned := { name := "ytlaabdpccdnalaa", sum := "c84c1ec739ced5f98c1360c0a34d59eca979e165f26903693c4f421fd0dadf8d", checked := Try.checked }
namespace Rows
def none {H : Type} : Left H := { results := [], args := [] }

/-- 'emulatortop.PartsImages': WHATEVER THE INPUT: true; the input reads as it did. -/
def partsImagesSpec : ChangeSpec := { name := "partsImages", fn := fun _ => fun
  | [d1, d2, d3] => { results := [.lit (.bool true)], args := [d1, d2, d3] }
  | _ => none }
def partsImagesRow : OpenClaim := { program := "ytlaabdpccdnalaa", sum := "c84c1ec739ced5f98c1360c0a34d59eca979e165f26903693c4f421fd0dadf8d", func := "emulator/emulatortop.PartsImages", spec := "partsImages", inPlace := ["internal/bytealg.IndexByteString", "internal/abi.NoEscape", "internal/bytealg.MakeNoZero"], unfollowed := true, recurses := true, apart := false }
def PartsImagesSaid : Prop := partsImagesRow.holds Try.pinned (OpenSpec.ofChange partsImagesSpec)

/-- ITS FALSE NEIGHBOUR: 'it returns false'. Refute it at one input. -/
def partsImagesWrong : ChangeSpec := { name := "partsImages", fn := fun _ => fun
  | [d1, d2, d3] => { results := [.lit (.bool false)], args := [d1, d2, d3] }
  | _ => none }
def PartsImagesWrongFalsely : Prop := partsImagesRow.holds Try.pinned (OpenSpec.ofChange partsImagesWrong)

/-- 'emulatortop.PartsAccess': WHATEVER THE INPUT: true; the input reads as it did. -/
def partsAccessSpec : ChangeSpec := { name := "partsAccess", fn := fun _ => fun
  | [d1, d2] => { results := [.lit (.bool true)], args := [d1, d2] }
  | _ => none }
def partsAccessRow : OpenClaim := { program := "ytlaabdpccdnalaa", sum := "c84c1ec739ced5f98c1360c0a34d59eca979e165f26903693c4f421fd0dadf8d", func := "emulator/emulatortop.PartsAccess", spec := "partsAccess", apart := false }
def PartsAccessSaid : Prop := partsAccessRow.holds Try.pinned (OpenSpec.ofChange partsAccessSpec)

/-- ITS FALSE NEIGHBOUR: 'it returns false'. Refute it at one input. -/
def partsAccessWrong : ChangeSpec := { name := "partsAccess", fn := fun _ => fun
  | [d1, d2] => { results := [.lit (.bool false)], args := [d1, d2] }
  | _ => none }
def PartsAccessWrongFalsely : Prop := partsAccessRow.holds Try.pinned (OpenSpec.ofChange partsAccessWrong)

/-- 'emulatortop.PartsConsole': WHATEVER THE INPUT: true; the input reads as it did. -/
def partsConsoleSpec : ChangeSpec := { name := "partsConsole", fn := fun _ => fun
  | [d1, d2, d3] => { results := [.lit (.bool true)], args := [d1, d2, d3] }
  | _ => none }
def partsConsoleRow : OpenClaim := { program := "ytlaabdpccdnalaa", sum := "c84c1ec739ced5f98c1360c0a34d59eca979e165f26903693c4f421fd0dadf8d", func := "emulator/emulatortop.PartsConsole", spec := "partsConsole", unfollowed := true, recurses := true, apart := false }
def PartsConsoleSaid : Prop := partsConsoleRow.holds Try.pinned (OpenSpec.ofChange partsConsoleSpec)

/-- ITS FALSE NEIGHBOUR: 'it returns false'. Refute it at one input. -/
def partsConsoleWrong : ChangeSpec := { name := "partsConsole", fn := fun _ => fun
  | [d1, d2, d3] => { results := [.lit (.bool false)], args := [d1, d2, d3] }
  | _ => none }
def PartsConsoleWrongFalsely : Prop := partsConsoleRow.holds Try.pinned (OpenSpec.ofChange partsConsoleWrong)

/- THE SECOND FORM. 'bulk': how many values and letters a reading holds, each counted each time it is reached (what is shared counts as often as it is met; a slice's spare places count too). A statement '..UptoSaid' is the law's where the arguments, and the package variables that the reading takes, are together of bulk at most 1048576: NARROWER than '..Said'. Prove '..Said' where nothing that the law and all that it calls make is longer than what came in: it says more and counts as full. Else prove '..UptoSaid'. A law counts once. -/
mutual
def uptoBulk {H : Type} : DataW H → Nat
  | .lit (.string bytes) => bytes.length + 1
  | .lit _ => 1
  | .nil => 1
  | .ptr d => uptoBulk d + 1
  | .slice elems spare => uptoBulkAll elems + uptoBulkAll spare + 1
  | .agg parts => uptoBulkAll parts + 1
  | .iface _ d => uptoBulk d + 1
  | .map entries => uptoBulkEntries entries + 1
  | .held _ => 1
def uptoBulkAll {H : Type} : List (DataW H) → Nat
  | [] => 0
  | d :: r => uptoBulk d + uptoBulkAll r
def uptoBulkEntries {H : Type} : List (Lit × DataW H) → Nat
  | [] => 0
  | x :: r => uptoBulkEntry x + uptoBulkEntries r
def uptoBulkEntry {H : Type} : Lit × DataW H → Nat
  | (.string bytes, d) => bytes.length + uptoBulk d + 1
  | (_, d) => uptoBulk d + 1
 end
def uptoSmall : (H : Type) → List (DataW H) → Bool := fun _ ds => decide (uptoBulkAll ds ≤ 1048576)
def OpenSpec.upto (s : _root_.Go.ChangeSpec) : _root_.Go.OpenSpec := { _root_.Go.OpenSpec.ofChange s with cond := some uptoSmall }

/-- 'emulatortop.PartsImages', WHERE WHAT IT READS IS OF BULK AT MOST 1048576: true; the input reads as it did. -/
def partsImagesUptoRow : OpenClaim := { program := "ytlaabdpccdnalaa", sum := "c84c1ec739ced5f98c1360c0a34d59eca979e165f26903693c4f421fd0dadf8d", func := "emulator/emulatortop.PartsImages", spec := "partsImages", inPlace := ["internal/bytealg.IndexByteString", "internal/abi.NoEscape", "internal/bytealg.MakeNoZero"], unfollowed := true, recurses := true, apart := false, narrowed := true }
def PartsImagesUptoSaid : Prop := partsImagesUptoRow.holds Try.pinned (OpenSpec.upto partsImagesSpec)

/-- 'emulatortop.PartsAccess', WHERE WHAT IT READS IS OF BULK AT MOST 1048576: true; the input reads as it did. -/
def partsAccessUptoRow : OpenClaim := { program := "ytlaabdpccdnalaa", sum := "c84c1ec739ced5f98c1360c0a34d59eca979e165f26903693c4f421fd0dadf8d", func := "emulator/emulatortop.PartsAccess", spec := "partsAccess", apart := false, narrowed := true }
def PartsAccessUptoSaid : Prop := partsAccessUptoRow.holds Try.pinned (OpenSpec.upto partsAccessSpec)

/-- 'emulatortop.PartsConsole', WHERE WHAT IT READS IS OF BULK AT MOST 1048576: true; the input reads as it did. -/
def partsConsoleUptoRow : OpenClaim := { program := "ytlaabdpccdnalaa", sum := "c84c1ec739ced5f98c1360c0a34d59eca979e165f26903693c4f421fd0dadf8d", func := "emulator/emulatortop.PartsConsole", spec := "partsConsole", unfollowed := true, recurses := true, apart := false, narrowed := true }
def PartsConsoleUptoSaid : Prop := partsConsoleUptoRow.holds Try.pinned (OpenSpec.upto partsConsoleSpec)

end Rows
end Go.Proofs.Ytlaabdpccdnalaa
