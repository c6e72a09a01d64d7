/- The law ClockNews holds of the typed functions. -/
import Derived.Test.YtegaghacannjpaaAbPure13
import Derived.Test.YtegaghacannjpaaAbRd13
namespace Go.Proofs.Ytegaghacannjpaa
open Go Go.Ab
theorem pf_law13_ClockNews (x : Clock × Int × Unit) (_ : Glaw13_ClockNews x) : law13_ClockNews x.1 x.2.1 = some true := law4p x.1 x.2.1
end Go.Proofs.Ytegaghacannjpaa
