/- The graph of a square, the reference's. No condition beyond those stated. -/
import Derived.Test.YtdkbcjdimhgmnaaGreatSHG
set_option linter.unusedVariables false
set_option linter.unusedSimpArgs false
namespace Go.Proofs.YtdkbcjdimhgmnaaGreat
open Go.RowKit
end Go.Proofs.YtdkbcjdimhgmnaaGreat
