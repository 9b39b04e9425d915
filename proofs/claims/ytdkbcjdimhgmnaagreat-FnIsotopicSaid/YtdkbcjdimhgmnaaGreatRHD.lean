/- AutomorphismsOf, both sides. No condition beyond those stated. -/
import Derived.Test.YtdkbcjdimhgmnaaGreatRGX
import Derived.Test.YtdkbcjdimhgmnaaGreatRHA
set_option linter.unusedVariables false
set_option linter.unusedSimpArgs false
namespace Go.Proofs.YtdkbcjdimhgmnaaGreat
open Go.RowKit
end Go.Proofs.YtdkbcjdimhgmnaaGreat
