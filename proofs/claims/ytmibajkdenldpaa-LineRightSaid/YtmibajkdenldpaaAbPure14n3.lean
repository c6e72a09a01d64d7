/- The law LineRight holds of the typed functions. -/
import Derived.Test.YtmibajkdenldpaaAbPure14
set_option linter.unusedSimpArgs false
namespace Go.Proofs.Ytmibajkdenldpaa
open Go Go.Ab
theorem pf_law14_LineRight (x : Line × Unit) (_ : Glaw14_LineRight x) : law14_LineRight none x.1 = some true := by
  have h : line_New = some ⟨false, false, false, 0, false, true, 0, 0, []⟩ := by kernel_rfl
  have k : ref14_New = some ⟨false, false, false, 0, false, true, 0, 0, []⟩ := by kernel_rfl
  simp [law14_LineRight, Tlaw14_LineRight, Tree.run, line_Right_def, ref14_Right_def, h, k, alive_true]
end Go.Proofs.Ytmibajkdenldpaa
