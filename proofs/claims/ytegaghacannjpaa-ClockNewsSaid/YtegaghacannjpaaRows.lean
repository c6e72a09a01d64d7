/-
  No cell of these rows narrows 'for every input' (looked for: loops, veiled, ifaces, maps, wideKeys, modest, calm, conditions, laid).
  DERIVED. THE GIVEN ROWS OF THIS SEAT. 4 by the template 'for every input the law returns true; each argument reads behind the call as it read before'; 0 by the template 'total and deterministic' (their statements: YtegaghacannjpaaTotals.lean).
  GIVEN WITH THE SEED: the statements are not yours to turn. If you find one false, say at which input.
  Laid BY PROGRAM, IN A SANDBOX (cutbox-rows.mjs): the forced cells as the released guide's own fill.sh prints them over the translation 8dac0be3644a5d43… (all of the seat's roots in one cut). By AI agents, Wed Nov 11 2026. No macro, syntax, notation, axiom, sorry.
-/
import Derived.Test.YtegaghacannjpaaChecked
import GoSem.Claim
import GoSem.ClaimJoined
import GoSem.ClaimMapViews
import Derived.JoinedTies
import Derived.KernelRfl
namespace Go.Proofs.Ytegaghacannjpaa
/- THE CELL 'sum', in the pinned program and in every row, IS THE sha256 OF THE DUMP (.gsa) THAT YtegaghacannjpaaProg.lean LOADS. Nothing in Lean hashes anything: it is a label: what it is worth is what the hold of that sum in a sandbox is worth. -/
noncomputable def Try.pinned : Pinned := { name := "ytegaghacannjpaa", sum := "8dac0be3644a5d432f38063f99101eda998c021bd5c286c9cdb718dfc60fe025", checked := Try.checked }
namespace Rows
def none {H : Type} : Left H := { results := [], args := [] }

/-- 'emulatorlaw13.ClockRegisters': WHATEVER THE INPUT: true; the input reads as it did. -/
def clockRegistersSpec : ChangeSpec := { name := "clockRegisters", fn := fun _ => fun
  | [d1, d2] => { results := [.lit (.bool true)], args := [d1, d2] }
  | _ => none }
def clockRegistersRow : OpenClaim := { program := "ytegaghacannjpaa", sum := "8dac0be3644a5d432f38063f99101eda998c021bd5c286c9cdb718dfc60fe025", func := "emulator/emulatorlaw13.ClockRegisters", spec := "clockRegisters", apart := false }
def ClockRegistersSaid : Prop := clockRegistersRow.holds Try.pinned (OpenSpec.ofChange clockRegistersSpec)

/-- ITS FALSE NEIGHBOUR: 'it returns false'. Refute it at one input. -/
def clockRegistersWrong : ChangeSpec := { name := "clockRegisters", fn := fun _ => fun
  | [d1, d2] => { results := [.lit (.bool false)], args := [d1, d2] }
  | _ => none }
def ClockRegistersWrongFalsely : Prop := clockRegistersRow.holds Try.pinned (OpenSpec.ofChange clockRegistersWrong)

/-- 'emulatorlaw13.ClockNews': WHATEVER THE INPUT: true; the input reads as it did. -/
def clockNewsSpec : ChangeSpec := { name := "clockNews", fn := fun _ => fun
  | [d1, d2] => { results := [.lit (.bool true)], args := [d1, d2] }
  | _ => none }
def clockNewsRow : OpenClaim := { program := "ytegaghacannjpaa", sum := "8dac0be3644a5d432f38063f99101eda998c021bd5c286c9cdb718dfc60fe025", func := "emulator/emulatorlaw13.ClockNews", spec := "clockNews", apart := false }
def ClockNewsSaid : Prop := clockNewsRow.holds Try.pinned (OpenSpec.ofChange clockNewsSpec)

/-- ITS FALSE NEIGHBOUR: 'it returns false'. Refute it at one input. -/
def clockNewsWrong : ChangeSpec := { name := "clockNews", fn := fun _ => fun
  | [d1, d2] => { results := [.lit (.bool false)], args := [d1, d2] }
  | _ => none }
def ClockNewsWrongFalsely : Prop := clockNewsRow.holds Try.pinned (OpenSpec.ofChange clockNewsWrong)

/-- 'emulatorlaw13.ClockPeriods': WHATEVER THE INPUT: true; the input reads as it did. -/
def clockPeriodsSpec : ChangeSpec := { name := "clockPeriods", fn := fun _ => fun
  | [d1, d2] => { results := [.lit (.bool true)], args := [d1, d2] }
  | _ => none }
def clockPeriodsRow : OpenClaim := { program := "ytegaghacannjpaa", sum := "8dac0be3644a5d432f38063f99101eda998c021bd5c286c9cdb718dfc60fe025", func := "emulator/emulatorlaw13.ClockPeriods", spec := "clockPeriods", apart := false }
def ClockPeriodsSaid : Prop := clockPeriodsRow.holds Try.pinned (OpenSpec.ofChange clockPeriodsSpec)

/-- ITS FALSE NEIGHBOUR: 'it returns false'. Refute it at one input. -/
def clockPeriodsWrong : ChangeSpec := { name := "clockPeriods", fn := fun _ => fun
  | [d1, d2] => { results := [.lit (.bool false)], args := [d1, d2] }
  | _ => none }
def ClockPeriodsWrongFalsely : Prop := clockPeriodsRow.holds Try.pinned (OpenSpec.ofChange clockPeriodsWrong)

/-- 'emulatorlaw13.ClockTicks': WHATEVER THE INPUT: true; the input reads as it did. -/
def clockTicksSpec : ChangeSpec := { name := "clockTicks", fn := fun _ => fun
  | [d] => { results := [.lit (.bool true)], args := [d] }
  | _ => none }
def clockTicksRow : OpenClaim := { program := "ytegaghacannjpaa", sum := "8dac0be3644a5d432f38063f99101eda998c021bd5c286c9cdb718dfc60fe025", func := "emulator/emulatorlaw13.ClockTicks", spec := "clockTicks", apart := false }
def ClockTicksSaid : Prop := clockTicksRow.holds Try.pinned (OpenSpec.ofChange clockTicksSpec)

/-- ITS FALSE NEIGHBOUR: 'it returns false'. Refute it at one input. -/
def clockTicksWrong : ChangeSpec := { name := "clockTicks", fn := fun _ => fun
  | [d] => { results := [.lit (.bool false)], args := [d] }
  | _ => none }
def ClockTicksWrongFalsely : Prop := clockTicksRow.holds Try.pinned (OpenSpec.ofChange clockTicksWrong)

/- THE SECOND FORM. 'bulk': how many values and letters a reading holds, each counted each time it is reached (what is shared counts as often as it is met; a slice's spare places count too). A statement '..UptoSaid' is the law's where the arguments, and the package variables that the reading takes, are together of bulk at most 1048576: NARROWER than '..Said'. Prove '..Said' where nothing that the law and all that it calls make is longer than what came in: it says more and counts as full. Else prove '..UptoSaid'. A law counts once. -/
mutual
def uptoBulk {H : Type} : DataW H → Nat
  | .lit (.string bytes) => bytes.length + 1
  | .lit _ => 1
  | .nil => 1
  | .ptr d => uptoBulk d + 1
  | .slice elems spare => uptoBulkAll elems + uptoBulkAll spare + 1
  | .agg parts => uptoBulkAll parts + 1
  | .iface _ d => uptoBulk d + 1
  | .map entries => uptoBulkEntries entries + 1
  | .held _ => 1
def uptoBulkAll {H : Type} : List (DataW H) → Nat
  | [] => 0
  | d :: r => uptoBulk d + uptoBulkAll r
def uptoBulkEntries {H : Type} : List (Lit × DataW H) → Nat
  | [] => 0
  | x :: r => uptoBulkEntry x + uptoBulkEntries r
def uptoBulkEntry {H : Type} : Lit × DataW H → Nat
  | (.string bytes, d) => bytes.length + uptoBulk d + 1
  | (_, d) => uptoBulk d + 1
 end
def uptoSmall : (H : Type) → List (DataW H) → Bool := fun _ ds => decide (uptoBulkAll ds ≤ 1048576)
def OpenSpec.upto (s : _root_.Go.ChangeSpec) : _root_.Go.OpenSpec := { _root_.Go.OpenSpec.ofChange s with cond := some uptoSmall }

/-- 'emulatorlaw13.ClockRegisters', WHERE WHAT IT READS IS OF BULK AT MOST 1048576: true; the input reads as it did. -/
def clockRegistersUptoRow : OpenClaim := { program := "ytegaghacannjpaa", sum := "8dac0be3644a5d432f38063f99101eda998c021bd5c286c9cdb718dfc60fe025", func := "emulator/emulatorlaw13.ClockRegisters", spec := "clockRegisters", apart := false, narrowed := true }
def ClockRegistersUptoSaid : Prop := clockRegistersUptoRow.holds Try.pinned (OpenSpec.upto clockRegistersSpec)

/-- 'emulatorlaw13.ClockNews', WHERE WHAT IT READS IS OF BULK AT MOST 1048576: true; the input reads as it did. -/
def clockNewsUptoRow : OpenClaim := { program := "ytegaghacannjpaa", sum := "8dac0be3644a5d432f38063f99101eda998c021bd5c286c9cdb718dfc60fe025", func := "emulator/emulatorlaw13.ClockNews", spec := "clockNews", apart := false, narrowed := true }
def ClockNewsUptoSaid : Prop := clockNewsUptoRow.holds Try.pinned (OpenSpec.upto clockNewsSpec)

/-- 'emulatorlaw13.ClockPeriods', WHERE WHAT IT READS IS OF BULK AT MOST 1048576: true; the input reads as it did. -/
def clockPeriodsUptoRow : OpenClaim := { program := "ytegaghacannjpaa", sum := "8dac0be3644a5d432f38063f99101eda998c021bd5c286c9cdb718dfc60fe025", func := "emulator/emulatorlaw13.ClockPeriods", spec := "clockPeriods", apart := false, narrowed := true }
def ClockPeriodsUptoSaid : Prop := clockPeriodsUptoRow.holds Try.pinned (OpenSpec.upto clockPeriodsSpec)

/-- 'emulatorlaw13.ClockTicks', WHERE WHAT IT READS IS OF BULK AT MOST 1048576: true; the input reads as it did. -/
def clockTicksUptoRow : OpenClaim := { program := "ytegaghacannjpaa", sum := "8dac0be3644a5d432f38063f99101eda998c021bd5c286c9cdb718dfc60fe025", func := "emulator/emulatorlaw13.ClockTicks", spec := "clockTicks", apart := false, narrowed := true }
def ClockTicksUptoSaid : Prop := clockTicksUptoRow.holds Try.pinned (OpenSpec.upto clockTicksSpec)

end Rows
end Go.Proofs.Ytegaghacannjpaa
