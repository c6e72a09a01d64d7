/- The law ClockTicks holds of the typed functions. -/
import Derived.Test.YtegaghacannjpaaAbPure13
import Derived.Test.YtegaghacannjpaaAbRd13
namespace Go.Proofs.Ytegaghacannjpaa
open Go Go.Ab
theorem pf_law13_ClockTicks (x : Clock × Unit) (_ : Glaw13_ClockTicks x) : law13_ClockTicks x.1 = some true := law6p x.1
end Go.Proofs.Ytegaghacannjpaa
