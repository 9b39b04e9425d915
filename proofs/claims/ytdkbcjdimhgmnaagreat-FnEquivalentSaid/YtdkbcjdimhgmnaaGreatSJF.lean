/- What a code is: the function of the reference. No condition beyond those stated. -/
import Derived.Test.YtdkbcjdimhgmnaaGreatSJE
set_option linter.unusedVariables false
set_option linter.unusedSimpArgs false
namespace Go.Proofs.YtdkbcjdimhgmnaaGreat
open Go.RowKit
def CodeOk (P D : Int) (f : List Int) (rows : List (List Int)) : Prop :=
  MatOk P D f rows ∧ rows.length ≤ 8 ∧ (P ^ D.toNat) ^ rows.length ≤ 4096 ∧ formR P D.toNat f rows = rows
end Go.Proofs.YtdkbcjdimhgmnaaGreat
