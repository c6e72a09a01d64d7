/- How the arguments of the laws are read. -/
import Derived.Test.YtnhhimlienefkaaRows
import Derived.Test.YtnhhimlienefkaaAb08
import Derived.Test.YtnhhimlienefkaaAbLim
import Derived.WalkKit
import Derived.ProofKit
import Derived.OpenShut
import Derived.ShutString
import Derived.ChangeOld
import Derived.Below
import Derived.SizedLaws
namespace Go.Proofs.Ytnhhimlienefkaa
open Go.ChangeShapes Go.WideShapes Go.ChangeAt Go.RowKit Go.Ab
theorem own : ownKnob Try.prog.godebug = none := by kernel_rfl
theorem laid : laidOutB Try.prog = true := by kernel_rfl
def gAccess (x : Access) : Prop := (IntKind.min .i64 ≤ x.addr ∧ x.addr ≤ IntKind.max .i64) ∧ True ∧ (IntKind.min .i64 ≤ x.value ∧ x.value ≤ IntKind.max .i64) ∧ True
theorem rdAccess : Reads Try.prog cd 24 cAccess gAccess :=
  rd_struct Try.underlying24 (by kernel_rfl) (rf_cons (m := 1) (by kernel_rfl) (by kernel_rfl) (rd_int (by kernel_rfl)) (rf_cons (m := 1) (by kernel_rfl) (by kernel_rfl) (rd_bool (by kernel_rfl)) (rf_cons (m := 1) (by kernel_rfl) (by kernel_rfl) (rd_int (by kernel_rfl)) (rf_nil _)))) fun _ => rfl
def gSpan (x : Span) : Prop := (IntKind.min .i64 ≤ x.to ∧ x.to ≤ IntKind.max .i64) ∧ (IntKind.min .i64 ≤ x.from_ ∧ x.from_ ≤ IntKind.max .i64) ∧ (IntKind.min .i64 ≤ x.count ∧ x.count ≤ IntKind.max .i64) ∧ True
theorem rdSpan : Reads Try.prog cd 34 cSpan gSpan :=
  rd_struct Try.underlying34 (by kernel_rfl) (rf_cons (m := 1) (by kernel_rfl) (by kernel_rfl) (rd_int (by kernel_rfl)) (rf_cons (m := 1) (by kernel_rfl) (by kernel_rfl) (rd_int (by kernel_rfl)) (rf_cons (m := 1) (by kernel_rfl) (by kernel_rfl) (rd_int (by kernel_rfl)) (rf_nil _)))) fun _ => rfl
def gTwo (x : Two) : Prop := gAccess x.access ∧ (IntKind.min .i64 ≤ x.other ∧ x.other ≤ IntKind.max .i64) ∧ True
theorem rdTwo : Reads Try.prog cd 47 cTwo gTwo :=
  rd_struct Try.underlying47 (by kernel_rfl) (rf_cons (m := 3) (by kernel_rfl) (by kernel_rfl) rdAccess (rf_cons (m := 1) (by kernel_rfl) (by kernel_rfl) (rd_int (by kernel_rfl)) (rf_nil _))) fun _ => rfl
def Glaw08_MemoryAccess (x : (List Int) × (List Int) × Access × Unit) : Prop := (x.1.length ≤ maxLen ∧ ∀ y ∈ x.1, (IntKind.min .i64 ≤ y ∧ y ≤ IntKind.max .i64)) ∧ (x.2.1.length ≤ maxLen ∧ ∀ y ∈ x.2.1, (IntKind.min .i64 ≤ y ∧ y ≤ IntKind.max .i64)) ∧ gAccess x.2.2.1 ∧ True
theorem argslaw08_MemoryAccess : ArgsRd Try.prog cd [22, 22, 24] Alaw08_MemoryAccess Glaw08_MemoryAccess := (ar_one (by kernel_rfl) (fun x => ⟨_, rfl, fun _ _ _ h => by cases h⟩) (rd_slice (t := 22) (e := 3) cd_ok (by kernel_rfl) (rd_int (by kernel_rfl)) (fun _ => rfl) (by decide +kernel)) (ar_one (by kernel_rfl) (fun x => ⟨_, rfl, fun _ _ _ h => by cases h⟩) (rd_slice (t := 22) (e := 3) cd_ok (by kernel_rfl) (rd_int (by kernel_rfl)) (fun _ => rfl) (by decide +kernel)) (ar_agg (by kernel_rfl) rdAccess ar_nil)))
def Glaw08_MemoryRanges (x : (List Int) × (List UInt8) × Span × Unit) : Prop := (x.1.length ≤ maxLen ∧ ∀ y ∈ x.1, (IntKind.min .i64 ≤ y ∧ y ≤ IntKind.max .i64)) ∧ x.2.1.length ≤ maxLen ∧ gSpan x.2.2.1 ∧ True
theorem argslaw08_MemoryRanges : ArgsRd Try.prog cd [22, 9, 34] Alaw08_MemoryRanges Glaw08_MemoryRanges := (ar_one (by kernel_rfl) (fun x => ⟨_, rfl, fun _ _ _ h => by cases h⟩) (rd_slice (t := 22) (e := 3) cd_ok (by kernel_rfl) (rd_int (by kernel_rfl)) (fun _ => rfl) (by decide +kernel)) (ar_one (by kernel_rfl) (fun x => ⟨_, rfl, fun _ _ _ h => by cases h⟩) (rd_str (by kernel_rfl)) (ar_agg (by kernel_rfl) rdSpan ar_nil)))
def Glaw08_MemoryMoves (x : (List Int) × (List UInt8) × Span × Unit) : Prop := (x.1.length ≤ maxLen ∧ ∀ y ∈ x.1, (IntKind.min .i64 ≤ y ∧ y ≤ IntKind.max .i64)) ∧ x.2.1.length ≤ maxLen ∧ gSpan x.2.2.1 ∧ True
theorem argslaw08_MemoryMoves : ArgsRd Try.prog cd [22, 9, 34] Alaw08_MemoryMoves Glaw08_MemoryMoves := (ar_one (by kernel_rfl) (fun x => ⟨_, rfl, fun _ _ _ h => by cases h⟩) (rd_slice (t := 22) (e := 3) cd_ok (by kernel_rfl) (rd_int (by kernel_rfl)) (fun _ => rfl) (by decide +kernel)) (ar_one (by kernel_rfl) (fun x => ⟨_, rfl, fun _ _ _ h => by cases h⟩) (rd_str (by kernel_rfl)) (ar_agg (by kernel_rfl) rdSpan ar_nil)))
def Glaw08_MemoryRight (x : Int × (List Int) × (List Int) × Unit) : Prop := (IntKind.min .i64 ≤ x.1 ∧ x.1 ≤ IntKind.max .i64) ∧ (x.2.1.length ≤ maxLen ∧ ∀ y ∈ x.2.1, (IntKind.min .i64 ≤ y ∧ y ≤ IntKind.max .i64)) ∧ (x.2.2.1.length ≤ maxLen ∧ ∀ y ∈ x.2.2.1, (IntKind.min .i64 ≤ y ∧ y ≤ IntKind.max .i64)) ∧ True
theorem argslaw08_MemoryRight : ArgsRd Try.prog cd [3, 22, 22] Alaw08_MemoryRight Glaw08_MemoryRight := (ar_one (by kernel_rfl) (fun x => ⟨_, rfl, fun _ _ _ h => by cases h⟩) (rd_int (by kernel_rfl)) (ar_one (by kernel_rfl) (fun x => ⟨_, rfl, fun _ _ _ h => by cases h⟩) (rd_slice (t := 22) (e := 3) cd_ok (by kernel_rfl) (rd_int (by kernel_rfl)) (fun _ => rfl) (by decide +kernel)) (ar_one (by kernel_rfl) (fun x => ⟨_, rfl, fun _ _ _ h => by cases h⟩) (rd_slice (t := 22) (e := 3) cd_ok (by kernel_rfl) (rd_int (by kernel_rfl)) (fun _ => rfl) (by decide +kernel)) ar_nil)))
def Glaw08_MemorySpoils (x : (List Int) × (List Int) × Int × Unit) : Prop := (x.1.length ≤ maxLen ∧ ∀ y ∈ x.1, (IntKind.min .i64 ≤ y ∧ y ≤ IntKind.max .i64)) ∧ (x.2.1.length ≤ maxLen ∧ ∀ y ∈ x.2.1, (IntKind.min .i64 ≤ y ∧ y ≤ IntKind.max .i64)) ∧ (IntKind.min .i64 ≤ x.2.2.1 ∧ x.2.2.1 ≤ IntKind.max .i64) ∧ True
theorem argslaw08_MemorySpoils : ArgsRd Try.prog cd [22, 22, 3] Alaw08_MemorySpoils Glaw08_MemorySpoils := (ar_one (by kernel_rfl) (fun x => ⟨_, rfl, fun _ _ _ h => by cases h⟩) (rd_slice (t := 22) (e := 3) cd_ok (by kernel_rfl) (rd_int (by kernel_rfl)) (fun _ => rfl) (by decide +kernel)) (ar_one (by kernel_rfl) (fun x => ⟨_, rfl, fun _ _ _ h => by cases h⟩) (rd_slice (t := 22) (e := 3) cd_ok (by kernel_rfl) (rd_int (by kernel_rfl)) (fun _ => rfl) (by decide +kernel)) (ar_one (by kernel_rfl) (fun x => ⟨_, rfl, fun _ _ _ h => by cases h⟩) (rd_int (by kernel_rfl)) ar_nil)))
def Glaw08_MemoryKeeps (x : (List Int) × (List Int) × Two × Unit) : Prop := (x.1.length ≤ maxLen ∧ ∀ y ∈ x.1, (IntKind.min .i64 ≤ y ∧ y ≤ IntKind.max .i64)) ∧ (x.2.1.length ≤ maxLen ∧ ∀ y ∈ x.2.1, (IntKind.min .i64 ≤ y ∧ y ≤ IntKind.max .i64)) ∧ gTwo x.2.2.1 ∧ True
theorem argslaw08_MemoryKeeps : ArgsRd Try.prog cd [22, 22, 47] Alaw08_MemoryKeeps Glaw08_MemoryKeeps := (ar_one (by kernel_rfl) (fun x => ⟨_, rfl, fun _ _ _ h => by cases h⟩) (rd_slice (t := 22) (e := 3) cd_ok (by kernel_rfl) (rd_int (by kernel_rfl)) (fun _ => rfl) (by decide +kernel)) (ar_one (by kernel_rfl) (fun x => ⟨_, rfl, fun _ _ _ h => by cases h⟩) (rd_slice (t := 22) (e := 3) cd_ok (by kernel_rfl) (rd_int (by kernel_rfl)) (fun _ => rfl) (by decide +kernel)) (ar_agg (by kernel_rfl) rdTwo ar_nil)))
end Go.Proofs.Ytnhhimlienefkaa
