/- The law LineRequests holds of the typed functions. -/
import Derived.Test.YtmibajkdenldpaaAbPure14
set_option linter.unusedSimpArgs false
namespace Go.Proofs.Ytmibajkdenldpaa
open Go Go.Ab
theorem pf_law14_LineRequests (x : Line × Int × Unit) (_ : Glaw14_LineRequests x) : law14_LineRequests none x.1 x.2.1 = some true := by
  obtain ⟨r, h1, h2, h3⟩ := Requests_def x.1 x.2.1
  simp [law14_LineRequests, Tlaw14_LineRequests, Tree.run, h1, h2, same_self r (by omega), alive_true]
end Go.Proofs.Ytmibajkdenldpaa
