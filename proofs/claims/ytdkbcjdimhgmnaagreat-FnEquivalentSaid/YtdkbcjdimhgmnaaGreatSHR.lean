/- The group of a design, plain: rows put where the search finds them. -/
import Derived.Test.YtdkbcjdimhgmnaaGreatSHP
import Derived.Test.YtdkbcjdimhgmnaaGreatSHA
set_option linter.unusedVariables false
set_option linter.unusedSimpArgs false
namespace Go.Proofs.YtdkbcjdimhgmnaaGreat
end Go.Proofs.YtdkbcjdimhgmnaaGreat
