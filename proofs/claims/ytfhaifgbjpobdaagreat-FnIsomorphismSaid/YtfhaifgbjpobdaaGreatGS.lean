/- (*spec.l22Find).run: a leaf. No condition beyond those stated. -/
import Derived.Test.YtfhaifgbjpobdaaGreatGR
import Derived.Test.YtfhaifgbjpobdaaGreatGM
import Derived.Test.YtfhaifgbjpobdaaGreatGN
import Derived.Test.YtfhaifgbjpobdaaGreatGF
set_option linter.unusedVariables false
set_option linter.unusedSimpArgs false
namespace Go.Proofs.YtfhaifgbjpobdaaGreat
open Go.RowKit
end Go.Proofs.YtfhaifgbjpobdaaGreat
