/- MemoryRight: plain. -/
import Derived.Test.YtnhhimlienefkaaAbPure08n3
set_option linter.unusedSimpArgs false
namespace Go.Proofs.Ytnhhimlienefkaa
open Go Go.Ab
theorem pf_law08_MemoryRight (x : Int × (List Int) × (List Int) × Unit) (h : Glaw08_MemoryRight x) : law08_MemoryRight none x.1 x.2.1 x.2.2.1 = some true := by
  obtain ⟨n, m, bad, u⟩ := x
  obtain ⟨r, hr, hl⟩ := New_some n
  simp only [law08_MemoryRight, Tlaw08_MemoryRight, Tree.run, decide_eq_true_eq]
  split
  · rfl
  · split
    · rfl
    · simp only [← New_eq, hr, Option.bind_some, Same_def r.1 r.1 (by omega), mem_Right_def m bad (by omega) (by omega), ref_Right_def m bad (by omega) (by omega), decide_true, if_true, beq_self_eq_true, alive_true]
end Go.Proofs.Ytnhhimlienefkaa
