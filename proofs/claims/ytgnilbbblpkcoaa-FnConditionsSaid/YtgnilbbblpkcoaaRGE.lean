/- Graphs: whether one is valid, on both sides. No condition beyond those stated. -/
import Derived.Test.YtgnilbbblpkcoaaRGD
import Derived.Test.YtgnilbbblpkcoaaRGC
import Derived.Deep.RegionHeld3
set_option linter.unusedVariables false
set_option linter.unusedSimpArgs false
namespace Go.Proofs.Ytgnilbbblpkcoaa
open Go.RowKit
end Go.Proofs.Ytgnilbbblpkcoaa
