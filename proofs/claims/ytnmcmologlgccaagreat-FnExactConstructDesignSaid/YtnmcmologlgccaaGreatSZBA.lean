/- Powers and Hilbert symbols: what the functions of both sides return. No condition beyond those stated. -/
import Derived.Test.YtnmcmologlgccaaGreatSZAZ
set_option linter.unusedVariables false
set_option linter.unusedSimpArgs false
namespace Go.Proofs.YtnmcmologlgccaaGreat
open Go.RowKit
def sq (u p : Int) : Int := if leg u p = 0 then 1 else -1
def entB (a : Int) : Bool := a != 0 && inB a (-1000000) 1000000
end Go.Proofs.YtnmcmologlgccaaGreat
