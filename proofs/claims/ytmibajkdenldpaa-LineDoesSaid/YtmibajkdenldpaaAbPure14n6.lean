/- The law LineDoes holds of the typed functions. -/
import Derived.Test.YtmibajkdenldpaaAbPure14
set_option linter.unusedSimpArgs false
namespace Go.Proofs.Ytmibajkdenldpaa
open Go Go.Ab
theorem pf_law14_LineDoes (x : Line × Deed × Unit) (_ : Glaw14_LineDoes x) : law14_LineDoes none x.1 x.2.1 = some true := by
  obtain ⟨l, d, u⟩ := x
  obtain ⟨v, h1, h2, _⟩ := Read_def l d.reg
  simp only [law14_LineDoes, Tlaw14_LineDoes, Tree.run, ref14_Right_def, h2, h1, Type_eq, Type_some, ← Write_eq, Write_def, Reset_ref, Reset_def, Accept_def, Option.bind_some, alive_true]
  by_cases hr : Rt l
  · simp [hr, Tick_def l hr, Tick_ref l hr]
  · simp [hr]
end Go.Proofs.Ytmibajkdenldpaa
