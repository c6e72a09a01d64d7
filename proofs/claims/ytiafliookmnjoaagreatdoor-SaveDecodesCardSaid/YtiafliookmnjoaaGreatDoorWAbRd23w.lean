/- How the arguments of the laws are read. -/
import Derived.Test.YtiafliookmnjoaaGreatDoorRows
import Derived.Test.YtiafliookmnjoaaGreatDoorWAb23w
import Derived.Test.YtiafliookmnjoaaGreatDoorWAbLim
import Derived.WalkKit
import Derived.ProofKit
import Derived.OpenShut
import Derived.ShutString
import Derived.ChangeOld
import Derived.Below
import Derived.SizedLaws
namespace Go.Proofs.YtiafliookmnjoaaGreatDoor
open Go.ChangeShapes Go.WideShapes Go.ChangeAt Go.RowKit Go.Ab
theorem own : ownKnob Tryz.prog.godebug = none := by kernel_rfl
theorem laid : laidOutB Tryz.prog = true := by kernel_rfl
def Glaw23_SaveDecodes (x : (List UInt8) × Unit) : Prop := x.1.length ≤ maxLen ∧ True
theorem argslaw23_SaveDecodes : ArgsRd Tryz.prog cd [9] zci Glaw23_SaveDecodes := (ar_one (by kernel_rfl) (fun x => ⟨_, rfl, fun _ _ _ h => by cases h⟩) (rd_str (by kernel_rfl)) ar_nil)
end Go.Proofs.YtiafliookmnjoaaGreatDoor
