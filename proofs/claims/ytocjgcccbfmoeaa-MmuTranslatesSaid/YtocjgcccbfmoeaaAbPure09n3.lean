/- The law MmuTranslates holds of the typed functions. -/
import Derived.Test.YtocjgcccbfmoeaaAbPure09
set_option linter.unusedSimpArgs false
namespace Go.Proofs.Ytocjgcccbfmoeaa
open Go Go.Ab
theorem pf_law09_MmuTranslates (x : Access × Unit) (hg : Glaw09_MmuTranslates x) : law09_MmuTranslates none x.1 = some true := by
  obtain ⟨⟨u, mode, addr, w⟩, z⟩ := x
  have hl : u.pages.length = 16 := hg.1.1.2.1.1
  simp only [law09_MmuTranslates, Tlaw09_MmuTranslates, Tree.run, ref_Right_def u hl, Option.bind_some, alive_true]
  by_cases hr : Rt u
  · simp [hr, ref_Translate_def u mode addr w hl hr, mmu_Translate_def u mode addr w hl hr]
  · simp [hr]
end Go.Proofs.Ytocjgcccbfmoeaa
