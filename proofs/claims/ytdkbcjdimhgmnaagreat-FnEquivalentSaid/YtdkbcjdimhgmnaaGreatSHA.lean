/- Permutations composed and inverted, both sides. No condition beyond those stated. -/
import Derived.Test.YtdkbcjdimhgmnaaGreatSGM
import Derived.Deep.RegionHeldLaw
set_option linter.unusedVariables false
set_option linter.unusedSimpArgs false
namespace Go.Proofs.YtdkbcjdimhgmnaaGreat
open Go.RowKit
end Go.Proofs.YtdkbcjdimhgmnaaGreat
