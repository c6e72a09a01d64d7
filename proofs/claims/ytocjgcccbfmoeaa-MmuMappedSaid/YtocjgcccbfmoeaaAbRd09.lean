/- How the arguments of the laws are read. -/
import Derived.Test.YtocjgcccbfmoeaaRows
import Derived.Test.YtocjgcccbfmoeaaAb09
import Derived.Test.YtocjgcccbfmoeaaAbLaw
import Derived.Test.YtocjgcccbfmoeaaAbArr
import Derived.Test.YtocjgcccbfmoeaaAbLim
import Derived.WalkKit
import Derived.ProofKit
import Derived.OpenShut
import Derived.ShutString
import Derived.ChangeOld
import Derived.Below
import Derived.SizedLaws
namespace Go.Proofs.Ytocjgcccbfmoeaa
open Go.ChangeShapes Go.WideShapes Go.ChangeAt Go.RowKit Go.Ab
theorem own : ownKnob Try.prog.godebug = none := by kernel_rfl
theorem laid : laidOutB Try.prog = true := by kernel_rfl
def gPage (x : Page) : Prop := (IntKind.min .i64 ≤ x.base ∧ x.base ≤ IntKind.max .i64) ∧ (IntKind.min .i64 ≤ x.length ∧ x.length ≤ IntKind.max .i64) ∧ (IntKind.min .i64 ≤ x.access ∧ x.access ≤ IntKind.max .i64) ∧ True ∧ True
theorem rdPage : Reads Try.prog cd 23 cPage gPage :=
  rd_struct Try.underlying23 (by kernel_rfl) (rf_cons (m := 1) (by kernel_rfl) (by kernel_rfl) (rd_int (by kernel_rfl)) (rf_cons (m := 1) (by kernel_rfl) (by kernel_rfl) (rd_int (by kernel_rfl)) (rf_cons (m := 1) (by kernel_rfl) (by kernel_rfl) (rd_int (by kernel_rfl)) (rf_cons (m := 1) (by kernel_rfl) (by kernel_rfl) (rd_bool (by kernel_rfl)) (rf_nil _))))) fun _ => rfl
def gMmu (x : Mmu) : Prop := True ∧ (x.pages.length = 16 ∧ ∀ y ∈ x.pages, gPage y) ∧ (IntKind.min .i64 ≤ x.status ∧ x.status ≤ IntKind.max .i64) ∧ (IntKind.min .i64 ≤ x.addr ∧ x.addr ≤ IntKind.max .i64) ∧ True
theorem rdMmu : Reads Try.prog cd 27 cMmu gMmu :=
  rd_struct Try.underlying27 (by kernel_rfl) (rf_cons (m := 1) (by kernel_rfl) (by kernel_rfl) (rd_bool (by kernel_rfl)) (rf_cons (m := 64) (by kernel_rfl) (by kernel_rfl) (rd_arr (m := 16) cd_ok (ra_arr (t := 25) (e := 24) (n := 2) (m := 8) (by kernel_rfl) (by kernel_rfl) (ra_arr (t := 24) (e := 23) (n := 8) (m := 1) (by kernel_rfl) (by kernel_rfl) (ra_one rdPage fun _ => rfl)))) (rf_cons (m := 1) (by kernel_rfl) (by kernel_rfl) (rd_int (by kernel_rfl)) (rf_cons (m := 1) (by kernel_rfl) (by kernel_rfl) (rd_int (by kernel_rfl)) (rf_nil _))))) fun _ => rfl
def gAccess (x : Access) : Prop := gMmu x.u ∧ (IntKind.min .i64 ≤ x.mode ∧ x.mode ≤ IntKind.max .i64) ∧ (IntKind.min .i64 ≤ x.addr ∧ x.addr ≤ IntKind.max .i64) ∧ True ∧ True
theorem rdAccess : Reads Try.prog cd 29 cAccess gAccess :=
  rd_struct Try.underlying29 (by kernel_rfl) (rf_cons (m := 67) (by kernel_rfl) (by kernel_rfl) rdMmu (rf_cons (m := 1) (by kernel_rfl) (by kernel_rfl) (rd_int (by kernel_rfl)) (rf_cons (m := 1) (by kernel_rfl) (by kernel_rfl) (rd_int (by kernel_rfl)) (rf_cons (m := 1) (by kernel_rfl) (by kernel_rfl) (rd_bool (by kernel_rfl)) (rf_nil _))))) fun _ => rfl
def gRange (x : Range) : Prop := (IntKind.min .i64 ≤ x.mode ∧ x.mode ≤ IntKind.max .i64) ∧ (IntKind.min .i64 ≤ x.base ∧ x.base ≤ IntKind.max .i64) ∧ (IntKind.min .i64 ≤ x.blocks ∧ x.blocks ≤ IntKind.max .i64) ∧ (IntKind.min .i64 ≤ x.access ∧ x.access ≤ IntKind.max .i64) ∧ True
theorem rdRange : Reads Try.prog cd 37 cRange gRange :=
  rd_struct Try.underlying37 (by kernel_rfl) (rf_cons (m := 1) (by kernel_rfl) (by kernel_rfl) (rd_int (by kernel_rfl)) (rf_cons (m := 1) (by kernel_rfl) (by kernel_rfl) (rd_int (by kernel_rfl)) (rf_cons (m := 1) (by kernel_rfl) (by kernel_rfl) (rd_int (by kernel_rfl)) (rf_cons (m := 1) (by kernel_rfl) (by kernel_rfl) (rd_int (by kernel_rfl)) (rf_nil _))))) fun _ => rfl
def Glaw09_MmuTranslates (x : Access × Unit) : Prop := gAccess x.1 ∧ True
theorem argslaw09_MmuTranslates : ArgsRd Try.prog cd [29] Alaw09_MmuTranslates Glaw09_MmuTranslates := (ar_agg (by kernel_rfl) rdAccess ar_nil)
def Glaw09_MmuMaps (x : Mmu × Range × Unit) : Prop := gMmu x.1 ∧ gRange x.2.1 ∧ True
theorem argslaw09_MmuMaps : ArgsRd Try.prog cd [27, 37] Alaw09_MmuMaps Glaw09_MmuMaps := (ar_agg (by kernel_rfl) rdMmu (ar_agg (by kernel_rfl) rdRange ar_nil))
def Glaw09_MmuRights (x : Mmu × Unit) : Prop := gMmu x.1 ∧ True
theorem argslaw09_MmuRights : ArgsRd Try.prog cd [27] Alaw09_MmuRights Glaw09_MmuRights := (ar_agg (by kernel_rfl) rdMmu ar_nil)
def Glaw09_MmuRegisters (x : Mmu × Int × Int × Unit) : Prop := gMmu x.1 ∧ (IntKind.min .i64 ≤ x.2.1 ∧ x.2.1 ≤ IntKind.max .i64) ∧ (IntKind.min .i64 ≤ x.2.2.1 ∧ x.2.2.1 ≤ IntKind.max .i64) ∧ True
theorem argslaw09_MmuRegisters : ArgsRd Try.prog cd [27, 3, 3] Alaw09_MmuRegisters Glaw09_MmuRegisters := (ar_agg (by kernel_rfl) rdMmu (ar_one (by kernel_rfl) (fun x => ⟨_, rfl, fun _ _ _ h => by cases h⟩) (rd_int (by kernel_rfl)) (ar_one (by kernel_rfl) (fun x => ⟨_, rfl, fun _ _ _ h => by cases h⟩) (rd_int (by kernel_rfl)) ar_nil)))
def Glaw09_MmuQuiet (x : Access × Unit) : Prop := gAccess x.1 ∧ True
theorem argslaw09_MmuQuiet : ArgsRd Try.prog cd [29] Alaw09_MmuQuiet Glaw09_MmuQuiet := (ar_agg (by kernel_rfl) rdAccess ar_nil)
def Glaw09_MmuCopies (x : Mmu × Unit) : Prop := gMmu x.1 ∧ True
theorem argslaw09_MmuCopies : ArgsRd Try.prog cd [27] Alaw09_MmuCopies Glaw09_MmuCopies := (ar_agg (by kernel_rfl) rdMmu ar_nil)
def Glaw09_MmuMapped (x : Mmu × Range × Int × Unit) : Prop := gMmu x.1 ∧ gRange x.2.1 ∧ (IntKind.min .u16 ≤ x.2.2.1 ∧ x.2.2.1 ≤ IntKind.max .u16) ∧ True
theorem argslaw09_MmuMapped : ArgsRd Try.prog cd [27, 37, 48] Alaw09_MmuMapped Glaw09_MmuMapped := (ar_agg (by kernel_rfl) rdMmu (ar_agg (by kernel_rfl) rdRange (ar_one (by kernel_rfl) (fun x => ⟨_, rfl, fun _ _ _ h => by cases h⟩) (rd_int (by kernel_rfl)) ar_nil)))
end Go.Proofs.Ytocjgcccbfmoeaa
