/- The permutation that leaves all in place, on both sides. No condition beyond those stated. -/
import Derived.Test.YtgnilbbblpkcoaaRGG
set_option linter.unusedVariables false
set_option linter.unusedSimpArgs false
namespace Go.Proofs.Ytgnilbbblpkcoaa
open Go.RowKit
end Go.Proofs.Ytgnilbbblpkcoaa
