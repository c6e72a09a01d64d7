/- The law MmuRegisters holds of the typed functions. -/
import Derived.Test.YtocjgcccbfmoeaaAbPure09b
set_option linter.unusedSimpArgs false
namespace Go.Proofs.Ytocjgcccbfmoeaa
open Go Go.Ab
theorem pf_law09_MmuRegisters (x : Mmu × Int × Int × Unit) (hg : Glaw09_MmuRegisters x) : law09_MmuRegisters none x.1 x.2.1 x.2.2.1 = some true := by
  obtain ⟨u, o, v, z⟩ := x
  have hl : u.pages.length = 16 := hg.1.2.1.1
  have ho : IntKind.min .i64 ≤ o ∧ o ≤ IntKind.max .i64 := hg.2.1
  have hmin : IntKind.min .i64 = -9223372036854775808 := rfl
  have hmax : IntKind.max .i64 = 9223372036854775807 := rfl
  rw [hmin, hmax] at ho
  simp only [law09_MmuRegisters, Tlaw09_MmuRegisters, Tree.run, ref_Right_def u hl, Option.bind_some, alive_true]
  by_cases hr : Rt u
  · obtain ⟨r1, r2⟩ := wrote_right u o v hr
    simp [hr, ref_Read_def u o hl hr, mmu_Read_def u o hl hr ho.1 ho.2, ref_Write_def u o v hl, mmu_Write_def u o v hl ho.1 ho.2, mmu_Right_def _ (r2.trans hl), r1]
  · simp [hr]
end Go.Proofs.Ytocjgcccbfmoeaa
