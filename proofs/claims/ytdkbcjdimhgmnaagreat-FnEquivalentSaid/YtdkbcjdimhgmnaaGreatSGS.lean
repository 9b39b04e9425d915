/- (*spec.l22Find).run: a leaf. No condition beyond those stated. -/
import Derived.Test.YtdkbcjdimhgmnaaGreatSGR
set_option linter.unusedVariables false
set_option linter.unusedSimpArgs false
namespace Go.Proofs.YtdkbcjdimhgmnaaGreat
open Go.RowKit
end Go.Proofs.YtdkbcjdimhgmnaaGreat
