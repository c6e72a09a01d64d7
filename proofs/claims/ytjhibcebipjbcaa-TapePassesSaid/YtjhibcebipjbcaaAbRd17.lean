/- How the arguments of the laws are read. -/
import Derived.Test.YtjhibcebipjbcaaRows
import Derived.Test.YtjhibcebipjbcaaAb17
import Derived.Test.YtjhibcebipjbcaaAbLaw
import Derived.Test.YtjhibcebipjbcaaAbArr
import Derived.Test.YtjhibcebipjbcaaAbLim
import Derived.WalkKit
import Derived.ProofKit
import Derived.OpenShut
import Derived.ShutString
import Derived.ChangeOld
import Derived.Below
import Derived.SizedLaws
namespace Go.Proofs.Ytjhibcebipjbcaa
open Go.ChangeShapes Go.WideShapes Go.ChangeAt Go.RowKit Go.Ab
theorem own : ownKnob Try.prog.godebug = none := by kernel_rfl
theorem laid : laidOutB Try.prog = true := by kernel_rfl
def gTape (x : Tape) : Prop := (x.records.length ≤ maxLen ∧ ∀ y ∈ x.records, y.length ≤ maxLen) ∧ (IntKind.min .i64 ≤ x.pos ∧ x.pos ≤ IntKind.max .i64) ∧ True ∧ True ∧ True ∧ True ∧ True ∧ (IntKind.min .i64 ≤ x.command ∧ x.command ≤ IntKind.max .i64) ∧ (IntKind.min .i64 ≤ x.count ∧ x.count ≤ IntKind.max .i64) ∧ (IntKind.min .i64 ≤ x.addr ∧ x.addr ≤ IntKind.max .i64) ∧ (IntKind.min .i64 ≤ x.left ∧ x.left ≤ IntKind.max .i64) ∧ True
theorem rdTape : Reads Try.prog cd 24 cTape gTape :=
  rd_struct Try.underlying24 (by kernel_rfl) (rf_cons (m := 1) (by kernel_rfl) (by kernel_rfl) (rd_slice (t := 22) (e := 9) cd_ok (by kernel_rfl) (rd_str (by kernel_rfl)) (fun _ => rfl) (by decide +kernel)) (rf_cons (m := 1) (by kernel_rfl) (by kernel_rfl) (rd_int (by kernel_rfl)) (rf_cons (m := 1) (by kernel_rfl) (by kernel_rfl) (rd_bool (by kernel_rfl)) (rf_cons (m := 1) (by kernel_rfl) (by kernel_rfl) (rd_bool (by kernel_rfl)) (rf_cons (m := 1) (by kernel_rfl) (by kernel_rfl) (rd_bool (by kernel_rfl)) (rf_cons (m := 1) (by kernel_rfl) (by kernel_rfl) (rd_bool (by kernel_rfl)) (rf_cons (m := 1) (by kernel_rfl) (by kernel_rfl) (rd_bool (by kernel_rfl)) (rf_cons (m := 1) (by kernel_rfl) (by kernel_rfl) (rd_int (by kernel_rfl)) (rf_cons (m := 1) (by kernel_rfl) (by kernel_rfl) (rd_int (by kernel_rfl)) (rf_cons (m := 1) (by kernel_rfl) (by kernel_rfl) (rd_int (by kernel_rfl)) (rf_cons (m := 1) (by kernel_rfl) (by kernel_rfl) (rd_int (by kernel_rfl)) (rf_nil _)))))))))))) fun _ => rfl
def gStore (x : Store) : Prop := (x.mem.length ≤ maxLen ∧ ∀ y ∈ x.mem, (IntKind.min .i64 ≤ y ∧ y ≤ IntKind.max .i64)) ∧ (x.bad.length ≤ maxLen ∧ ∀ y ∈ x.bad, (IntKind.min .i64 ≤ y ∧ y ≤ IntKind.max .i64)) ∧ True
theorem rdStore : Reads Try.prog cd 27 cStore gStore :=
  rd_struct Try.underlying27 (by kernel_rfl) (rf_cons (m := 1) (by kernel_rfl) (by kernel_rfl) (rd_slice (t := 25) (e := 3) cd_ok (by kernel_rfl) (rd_int (by kernel_rfl)) (fun _ => rfl) (by decide +kernel)) (rf_cons (m := 1) (by kernel_rfl) (by kernel_rfl) (rd_slice (t := 25) (e := 3) cd_ok (by kernel_rfl) (rd_int (by kernel_rfl)) (fun _ => rfl) (by decide +kernel)) (rf_nil _))) fun _ => rfl
def gCopy (x : Copy) : Prop := (IntKind.min .i64 ≤ x.count ∧ x.count ≤ IntKind.max .i64) ∧ (IntKind.min .i64 ≤ x.from_ ∧ x.from_ ≤ IntKind.max .i64) ∧ (IntKind.min .i64 ≤ x.to ∧ x.to ≤ IntKind.max .i64) ∧ True
theorem rdCopy : Reads Try.prog cd 35 cCopy gCopy :=
  rd_struct Try.underlying35 (by kernel_rfl) (rf_cons (m := 1) (by kernel_rfl) (by kernel_rfl) (rd_int (by kernel_rfl)) (rf_cons (m := 1) (by kernel_rfl) (by kernel_rfl) (rd_int (by kernel_rfl)) (rf_cons (m := 1) (by kernel_rfl) (by kernel_rfl) (rd_int (by kernel_rfl)) (rf_nil _)))) fun _ => rfl
def gDeed (x : Deed) : Prop := (IntKind.min .i64 ≤ x.kind ∧ x.kind ≤ IntKind.max .i64) ∧ (IntKind.min .i64 ≤ x.reg ∧ x.reg ≤ IntKind.max .i64) ∧ (IntKind.min .i64 ≤ x.n ∧ x.n ≤ IntKind.max .i64) ∧ True
theorem rdDeed : Reads Try.prog cd 62 cDeed gDeed :=
  rd_struct Try.underlying62 (by kernel_rfl) (rf_cons (m := 1) (by kernel_rfl) (by kernel_rfl) (rd_int (by kernel_rfl)) (rf_cons (m := 1) (by kernel_rfl) (by kernel_rfl) (rd_int (by kernel_rfl)) (rf_cons (m := 1) (by kernel_rfl) (by kernel_rfl) (rd_int (by kernel_rfl)) (rf_nil _)))) fun _ => rfl
def Glaw17_TapeTicks (x : Tape × Store × Unit) : Prop := gTape x.1 ∧ gStore x.2.1 ∧ True
theorem argslaw17_TapeTicks : ArgsRd Try.prog cd [24, 27] Alaw17_TapeTicks Glaw17_TapeTicks := (ar_agg (by kernel_rfl) rdTape (ar_agg (by kernel_rfl) rdStore ar_nil))
def Glaw17_TapeReturns (x : Tape × (List Int) × Copy × Unit) : Prop := gTape x.1 ∧ (x.2.1.length ≤ maxLen ∧ ∀ y ∈ x.2.1, (IntKind.min .i64 ≤ y ∧ y ≤ IntKind.max .i64)) ∧ gCopy x.2.2.1 ∧ True
theorem argslaw17_TapeReturns : ArgsRd Try.prog cd [24, 25, 35] Alaw17_TapeReturns Glaw17_TapeReturns := (ar_agg (by kernel_rfl) rdTape (ar_one (by kernel_rfl) (fun x => ⟨_, rfl, fun _ _ _ h => by cases h⟩) (rd_slice (t := 25) (e := 3) cd_ok (by kernel_rfl) (rd_int (by kernel_rfl)) (fun _ => rfl) (by decide +kernel)) (ar_agg (by kernel_rfl) rdCopy ar_nil)))
def Glaw17_TapePasses (x : (List (List UInt8)) × Unit) : Prop := (x.1.length ≤ maxLen ∧ ∀ y ∈ x.1, y.length ≤ maxLen) ∧ True
theorem argslaw17_TapePasses : ArgsRd Try.prog cd [22] Alaw17_TapePasses Glaw17_TapePasses := (ar_one (by kernel_rfl) (fun x => ⟨_, rfl, fun _ _ _ h => by cases h⟩) (rd_slice (t := 22) (e := 9) cd_ok (by kernel_rfl) (rd_str (by kernel_rfl)) (fun _ => rfl) (by decide +kernel)) ar_nil)
def Glaw17_TapeRight (x : Tape × (List (List UInt8)) × Unit) : Prop := gTape x.1 ∧ (x.2.1.length ≤ maxLen ∧ ∀ y ∈ x.2.1, y.length ≤ maxLen) ∧ True
theorem argslaw17_TapeRight : ArgsRd Try.prog cd [24, 22] Alaw17_TapeRight Glaw17_TapeRight := (ar_agg (by kernel_rfl) rdTape (ar_one (by kernel_rfl) (fun x => ⟨_, rfl, fun _ _ _ h => by cases h⟩) (rd_slice (t := 22) (e := 9) cd_ok (by kernel_rfl) (rd_str (by kernel_rfl)) (fun _ => rfl) (by decide +kernel)) ar_nil))
def Glaw17_TapeRegisters (x : Tape × Int × Int × Unit) : Prop := gTape x.1 ∧ (IntKind.min .i64 ≤ x.2.1 ∧ x.2.1 ≤ IntKind.max .i64) ∧ (IntKind.min .i64 ≤ x.2.2.1 ∧ x.2.2.1 ≤ IntKind.max .i64) ∧ True
theorem argslaw17_TapeRegisters : ArgsRd Try.prog cd [24, 3, 3] Alaw17_TapeRegisters Glaw17_TapeRegisters := (ar_agg (by kernel_rfl) rdTape (ar_one (by kernel_rfl) (fun x => ⟨_, rfl, fun _ _ _ h => by cases h⟩) (rd_int (by kernel_rfl)) (ar_one (by kernel_rfl) (fun x => ⟨_, rfl, fun _ _ _ h => by cases h⟩) (rd_int (by kernel_rfl)) ar_nil)))
def Glaw17_TapeStays (x : Tape × Store × (List Deed) × Unit) : Prop := gTape x.1 ∧ gStore x.2.1 ∧ (x.2.2.1.length ≤ maxLen ∧ ∀ y ∈ x.2.2.1, gDeed y) ∧ True
theorem argslaw17_TapeStays : ArgsRd Try.prog cd [24, 27, 60] Alaw17_TapeStays Glaw17_TapeStays := (ar_agg (by kernel_rfl) rdTape (ar_agg (by kernel_rfl) rdStore (ar_one (by kernel_rfl) (fun x => ⟨_, rfl, fun _ _ _ h => by cases h⟩) (rd_slice (t := 60) (e := 62) cd_ok (by kernel_rfl) rdDeed (fun _ => rfl) (by decide +kernel)) ar_nil)))
end Go.Proofs.Ytjhibcebipjbcaa
