/- Whether two designs are isomorphic, the reference's side. No condition beyond those stated. -/
import Derived.Test.YtdkbcjdimhgmnaaGreatRHM
set_option linter.unusedVariables false
set_option linter.unusedSimpArgs false
namespace Go.Proofs.YtdkbcjdimhgmnaaGreat
open Go.RowKit
end Go.Proofs.YtdkbcjdimhgmnaaGreat
