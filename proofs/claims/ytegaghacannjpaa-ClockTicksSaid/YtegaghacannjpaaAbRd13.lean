/- How the arguments of the laws are read. -/
import Derived.Test.YtegaghacannjpaaRows
import Derived.Test.YtegaghacannjpaaAb13
import Derived.Test.YtegaghacannjpaaAbLaw
import Derived.Test.YtegaghacannjpaaAbArr
import Derived.Test.YtegaghacannjpaaAbLim
import Derived.WalkKit
import Derived.ProofKit
import Derived.OpenShut
import Derived.ShutString
import Derived.ChangeOld
import Derived.Below
import Derived.SizedLaws
namespace Go.Proofs.Ytegaghacannjpaa
open Go.ChangeShapes Go.WideShapes Go.ChangeAt Go.RowKit Go.Ab
theorem own : ownKnob Try.prog.godebug = none := by kernel_rfl
theorem laid : laidOutB Try.prog = true := by kernel_rfl
def gClock (x : Clock) : Prop := True ∧ True ∧ (IntKind.min .i64 ≤ x.period ∧ x.period ≤ IntKind.max .i64) ∧ (IntKind.min .i64 ≤ x.left ∧ x.left ≤ IntKind.max .i64) ∧ True
theorem rdClock : Reads Try.prog cd 23 cClock gClock :=
  rd_struct Try.underlying23 (by kernel_rfl) (rf_cons (m := 1) (by kernel_rfl) (by kernel_rfl) (rd_bool (by kernel_rfl)) (rf_cons (m := 1) (by kernel_rfl) (by kernel_rfl) (rd_bool (by kernel_rfl)) (rf_cons (m := 1) (by kernel_rfl) (by kernel_rfl) (rd_int (by kernel_rfl)) (rf_cons (m := 1) (by kernel_rfl) (by kernel_rfl) (rd_int (by kernel_rfl)) (rf_nil _))))) fun _ => rfl
def Glaw13_ClockRegisters (x : Clock × Int × Unit) : Prop := gClock x.1 ∧ (IntKind.min .i64 ≤ x.2.1 ∧ x.2.1 ≤ IntKind.max .i64) ∧ True
theorem argslaw13_ClockRegisters : ArgsRd Try.prog cd [23, 3] Alaw13_ClockRegisters Glaw13_ClockRegisters := (ar_agg (by kernel_rfl) rdClock (ar_one (by kernel_rfl) (fun x => ⟨_, rfl, fun _ _ _ h => by cases h⟩) (rd_int (by kernel_rfl)) ar_nil))
def Glaw13_ClockNews (x : Clock × Int × Unit) : Prop := gClock x.1 ∧ (IntKind.min .i64 ≤ x.2.1 ∧ x.2.1 ≤ IntKind.max .i64) ∧ True
theorem argslaw13_ClockNews : ArgsRd Try.prog cd [23, 3] Alaw13_ClockNews Glaw13_ClockNews := (ar_agg (by kernel_rfl) rdClock (ar_one (by kernel_rfl) (fun x => ⟨_, rfl, fun _ _ _ h => by cases h⟩) (rd_int (by kernel_rfl)) ar_nil))
def Glaw13_ClockPeriods (x : Int × Int × Unit) : Prop := (IntKind.min .u16 ≤ x.1 ∧ x.1 ≤ IntKind.max .u16) ∧ (IntKind.min .u16 ≤ x.2.1 ∧ x.2.1 ≤ IntKind.max .u16) ∧ True
theorem argslaw13_ClockPeriods : ArgsRd Try.prog cd [35, 35] Alaw13_ClockPeriods Glaw13_ClockPeriods := (ar_one (by kernel_rfl) (fun x => ⟨_, rfl, fun _ _ _ h => by cases h⟩) (rd_int (by kernel_rfl)) (ar_one (by kernel_rfl) (fun x => ⟨_, rfl, fun _ _ _ h => by cases h⟩) (rd_int (by kernel_rfl)) ar_nil))
def Glaw13_ClockTicks (x : Clock × Unit) : Prop := gClock x.1 ∧ True
theorem argslaw13_ClockTicks : ArgsRd Try.prog cd [23] Alaw13_ClockTicks Glaw13_ClockTicks := (ar_agg (by kernel_rfl) rdClock ar_nil)
end Go.Proofs.Ytegaghacannjpaa
