/- AutomorphismsOf, both sides. No condition beyond those stated. -/
import Derived.Test.YtdkbcjdimhgmnaaGreatRGX
import Derived.Test.YtdkbcjdimhgmnaaGreatRHA
set_option linter.unusedVariables false
set_option linter.unusedSimpArgs false
namespace Go.Proofs.YtdkbcjdimhgmnaaGreat
open Go.RowKit
theorem run_perms (cs : List Int) (es : List Ed) (b : Nat) : PermsOf cs.length (runP cs es b).best := fun k hk => by
  have := runP_rows cs es b (row (runP cs es b).best k) (by rw [row_get hk]; exact List.getElem_mem hk)
  exact ⟨this.1.len, this.2⟩
end Go.Proofs.YtdkbcjdimhgmnaaGreat
