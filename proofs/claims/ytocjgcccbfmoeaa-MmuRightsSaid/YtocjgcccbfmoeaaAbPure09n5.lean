/- The law MmuRights holds of the typed functions. -/
import Derived.Test.YtocjgcccbfmoeaaAbPure09
set_option linter.unusedSimpArgs false
namespace Go.Proofs.Ytocjgcccbfmoeaa
open Go Go.Ab
theorem pf_law09_MmuRights (x : Mmu × Unit) (hg : Glaw09_MmuRights x) : law09_MmuRights none x.1 = some true := by
  obtain ⟨u, z⟩ := x
  have hl : u.pages.length = 16 := hg.1.2.1.1
  simp [law09_MmuRights, Tlaw09_MmuRights, Tree.run, ref_Right_def u hl, mmu_Right_def u hl, alive_true]
end Go.Proofs.Ytocjgcccbfmoeaa
