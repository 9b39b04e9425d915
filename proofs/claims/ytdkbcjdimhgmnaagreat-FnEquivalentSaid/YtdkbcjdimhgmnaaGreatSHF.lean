/- Permutations and squares: whether lists are such, the reference's side. No condition beyond those stated. -/
import Derived.Test.YtdkbcjdimhgmnaaGreatSGC
import Derived.Test.YtdkbcjdimhgmnaaGreatSGH
import Derived.Deep.RegionHeld3
set_option linter.unusedVariables false
set_option linter.unusedSimpArgs false
namespace Go.Proofs.YtdkbcjdimhgmnaaGreat
open Go.RowKit
end Go.Proofs.YtdkbcjdimhgmnaaGreat
