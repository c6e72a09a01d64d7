/- The law MmuMaps holds of the typed functions. -/
import Derived.Test.YtocjgcccbfmoeaaAbPure09c
set_option linter.unusedSimpArgs false
namespace Go.Proofs.Ytocjgcccbfmoeaa
open Go Go.Ab
theorem pf_law09_MmuMaps (x : Mmu × Range × Unit) (hg : Glaw09_MmuMaps x) : law09_MmuMaps none x.1 x.2.1 = some true := by
  obtain ⟨u, ⟨mode, base, blocks, access⟩, z⟩ := x
  have hl : u.pages.length = 16 := hg.1.2.1.1
  have hreset : mmu_Reset u = some nilU := rfl
  simp only [law09_MmuMaps, Tlaw09_MmuMaps, Tree.run, ref_Right_def u hl, Option.bind_some, alive_true]
  by_cases hr : Rt u
  · simp [hr, ref_Map_def u mode base blocks access hl, mmu_Map_def u mode base blocks access hl, hreset, nilU, zeroP]
  · simp [hr]
end Go.Proofs.Ytocjgcccbfmoeaa
