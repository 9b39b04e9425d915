/- (*spec.l22Find).run: a leaf. No condition beyond those stated. -/
import Derived.Test.YtpckplpkedhlcaaGreatGR
import Derived.Test.YtpckplpkedhlcaaGreatGM
import Derived.Test.YtpckplpkedhlcaaGreatGN
import Derived.Test.YtpckplpkedhlcaaGreatGF
set_option linter.unusedVariables false
set_option linter.unusedSimpArgs false
namespace Go.Proofs.YtpckplpkedhlcaaGreat
open Go.RowKit
end Go.Proofs.YtpckplpkedhlcaaGreat
