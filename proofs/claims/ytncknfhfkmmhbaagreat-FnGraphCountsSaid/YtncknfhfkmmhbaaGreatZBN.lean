/- (*spec.l22Find).run: a leaf. No condition beyond those stated. -/
import Derived.Test.YtncknfhfkmmhbaaGreatZBJ
import Derived.Test.YtncknfhfkmmhbaaGreatZBK
import Derived.Test.YtncknfhfkmmhbaaGreatZBL
import Derived.Test.YtncknfhfkmmhbaaGreatZBM
set_option linter.unusedVariables false
set_option linter.unusedSimpArgs false
namespace Go.Proofs.YtncknfhfkmmhbaaGreat
open Go.RowKit
end Go.Proofs.YtncknfhfkmmhbaaGreat
