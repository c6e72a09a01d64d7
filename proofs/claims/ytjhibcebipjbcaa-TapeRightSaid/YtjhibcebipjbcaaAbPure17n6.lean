/- TapeRight: plain. -/
import Derived.Test.YtjhibcebipjbcaaAbPure17
set_option linter.unusedSimpArgs false
namespace Go.Proofs.Ytjhibcebipjbcaa
open Go Go.Ab
theorem pf_law17_TapeRight (x : Tape × (List (List UInt8)) × Unit) (h : Glaw17_TapeRight x) : law17_TapeRight none x.1 x.2.1 = some true := by
  obtain ⟨t, l, u⟩ := x
  simp only [law17_TapeRight, Tlaw17_TapeRight, Tree.run, decide_eq_true_eq]
  split
  · rfl
  · split
    · rfl
    · have hn := newT_len l (by omega)
      simp only [New_def l (by omega), ref_New_def l (by omega), Option.bind_some, Same_self (newT l).1 (by omega), tape_Right_def t (by omega), ref_RightT_def t (by omega), if_true, beq_self_eq_true, alive_true]
end Go.Proofs.Ytjhibcebipjbcaa
