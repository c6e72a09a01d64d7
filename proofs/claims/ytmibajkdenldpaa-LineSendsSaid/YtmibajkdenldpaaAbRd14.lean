/- How the arguments of the laws are read. -/
import Derived.Test.YtmibajkdenldpaaRows
import Derived.Test.YtmibajkdenldpaaAb14
import Derived.Test.YtmibajkdenldpaaAbLaw
import Derived.Test.YtmibajkdenldpaaAbArr
import Derived.Test.YtmibajkdenldpaaAbLim
import Derived.WalkKit
import Derived.ProofKit
import Derived.OpenShut
import Derived.ShutString
import Derived.ChangeOld
import Derived.Below
import Derived.SizedLaws
namespace Go.Proofs.Ytmibajkdenldpaa
open Go.ChangeShapes Go.WideShapes Go.ChangeAt Go.RowKit Go.Ab
theorem own : ownKnob Try.prog.godebug = none := by kernel_rfl
theorem laid : laidOutB Try.prog = true := by kernel_rfl
def gLine (x : Line) : Prop := True ∧ True ∧ True ∧ (IntKind.min .i64 ≤ x.rxData ∧ x.rxData ≤ IntKind.max .i64) ∧ True ∧ True ∧ (IntKind.min .i64 ≤ x.txData ∧ x.txData ≤ IntKind.max .i64) ∧ (IntKind.min .i64 ≤ x.txLeft ∧ x.txLeft ≤ IntKind.max .i64) ∧ x.out.length ≤ maxLen ∧ True
theorem rdLine : Reads Try.prog cd 23 cLine gLine :=
  rd_struct Try.underlying23 (by kernel_rfl) (rf_cons (m := 1) (by kernel_rfl) (by kernel_rfl) (rd_bool (by kernel_rfl)) (rf_cons (m := 1) (by kernel_rfl) (by kernel_rfl) (rd_bool (by kernel_rfl)) (rf_cons (m := 1) (by kernel_rfl) (by kernel_rfl) (rd_bool (by kernel_rfl)) (rf_cons (m := 1) (by kernel_rfl) (by kernel_rfl) (rd_int (by kernel_rfl)) (rf_cons (m := 1) (by kernel_rfl) (by kernel_rfl) (rd_bool (by kernel_rfl)) (rf_cons (m := 1) (by kernel_rfl) (by kernel_rfl) (rd_bool (by kernel_rfl)) (rf_cons (m := 1) (by kernel_rfl) (by kernel_rfl) (rd_int (by kernel_rfl)) (rf_cons (m := 1) (by kernel_rfl) (by kernel_rfl) (rd_int (by kernel_rfl)) (rf_cons (m := 1) (by kernel_rfl) (by kernel_rfl) (rd_str (by kernel_rfl)) (rf_nil _)))))))))) fun _ => rfl
def gDeed (x : Deed) : Prop := (IntKind.min .i64 ≤ x.kind ∧ x.kind ≤ IntKind.max .i64) ∧ (IntKind.min .i64 ≤ x.reg ∧ x.reg ≤ IntKind.max .i64) ∧ (IntKind.min .i64 ≤ x.n ∧ x.n ≤ IntKind.max .i64) ∧ True
theorem rdDeed : Reads Try.prog cd 35 cDeed gDeed :=
  rd_struct Try.underlying35 (by kernel_rfl) (rf_cons (m := 1) (by kernel_rfl) (by kernel_rfl) (rd_int (by kernel_rfl)) (rf_cons (m := 1) (by kernel_rfl) (by kernel_rfl) (rd_int (by kernel_rfl)) (rf_cons (m := 1) (by kernel_rfl) (by kernel_rfl) (rd_int (by kernel_rfl)) (rf_nil _)))) fun _ => rfl
def Glaw14_LineRight (x : Line × Unit) : Prop := gLine x.1 ∧ True
theorem argslaw14_LineRight : ArgsRd Try.prog cd [23] Alaw14_LineRight Glaw14_LineRight := (ar_agg (by kernel_rfl) rdLine ar_nil)
def Glaw14_LineRequests (x : Line × Int × Unit) : Prop := gLine x.1 ∧ (IntKind.min .i64 ≤ x.2.1 ∧ x.2.1 ≤ IntKind.max .i64) ∧ True
theorem argslaw14_LineRequests : ArgsRd Try.prog cd [23, 3] Alaw14_LineRequests Glaw14_LineRequests := (ar_agg (by kernel_rfl) rdLine (ar_one (by kernel_rfl) (fun x => ⟨_, rfl, fun _ _ _ h => by cases h⟩) (rd_int (by kernel_rfl)) ar_nil))
def Glaw14_LineReads (x : Line × Int × Unit) : Prop := gLine x.1 ∧ (IntKind.min .i64 ≤ x.2.1 ∧ x.2.1 ≤ IntKind.max .i64) ∧ True
theorem argslaw14_LineReads : ArgsRd Try.prog cd [23, 3] Alaw14_LineReads Glaw14_LineReads := (ar_agg (by kernel_rfl) rdLine (ar_one (by kernel_rfl) (fun x => ⟨_, rfl, fun _ _ _ h => by cases h⟩) (rd_int (by kernel_rfl)) ar_nil))
def Glaw14_LineDoes (x : Line × Deed × Unit) : Prop := gLine x.1 ∧ gDeed x.2.1 ∧ True
theorem argslaw14_LineDoes : ArgsRd Try.prog cd [23, 35] Alaw14_LineDoes Glaw14_LineDoes := (ar_agg (by kernel_rfl) rdLine (ar_agg (by kernel_rfl) rdDeed ar_nil))
def Glaw14_LineStays (x : Line × (List Deed) × Unit) : Prop := gLine x.1 ∧ (x.2.1.length ≤ maxLen ∧ ∀ y ∈ x.2.1, gDeed y) ∧ True
theorem argslaw14_LineStays : ArgsRd Try.prog cd [23, 39] Alaw14_LineStays Glaw14_LineStays := (ar_agg (by kernel_rfl) rdLine (ar_one (by kernel_rfl) (fun x => ⟨_, rfl, fun _ _ _ h => by cases h⟩) (rd_slice cd_ok (by kernel_rfl) rdDeed (fun _ => rfl) (by decide +kernel)) ar_nil))
def Glaw14_LineSends (x : Line × Int × (List Deed) × Unit) : Prop := gLine x.1 ∧ (IntKind.min .i64 ≤ x.2.1 ∧ x.2.1 ≤ IntKind.max .i64) ∧ (x.2.2.1.length ≤ maxLen ∧ ∀ y ∈ x.2.2.1, gDeed y) ∧ True
theorem argslaw14_LineSends : ArgsRd Try.prog cd [23, 3, 39] Alaw14_LineSends Glaw14_LineSends := (ar_agg (by kernel_rfl) rdLine (ar_one (by kernel_rfl) (fun x => ⟨_, rfl, fun _ _ _ h => by cases h⟩) (rd_int (by kernel_rfl)) (ar_one (by kernel_rfl) (fun x => ⟨_, rfl, fun _ _ _ h => by cases h⟩) (rd_slice cd_ok (by kernel_rfl) rdDeed (fun _ => rfl) (by decide +kernel)) ar_nil)))
end Go.Proofs.Ytmibajkdenldpaa
