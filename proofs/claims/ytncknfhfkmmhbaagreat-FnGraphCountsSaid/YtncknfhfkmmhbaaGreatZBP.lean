/- (*spec.l22Find).run, one step of the search. No condition beyond those stated. -/
import Derived.Test.YtncknfhfkmmhbaaGreatZBN
import Derived.Test.YtncknfhfkmmhbaaGreatZBO
import Derived.Test.YtncknfhfkmmhbaaGreatZAE
import Derived.Test.YtncknfhfkmmhbaaGreatZAC
set_option linter.unusedVariables false
set_option linter.unusedSimpArgs false
namespace Go.Proofs.YtncknfhfkmmhbaaGreat
open Go.RowKit

end Go.Proofs.YtncknfhfkmmhbaaGreat
/- Whether a budget is one, both sides. No condition beyond those stated. -/
namespace Go.Proofs.YtncknfhfkmmhbaaGreat
open Go.RowKit

theorem isBudget_any (b : Int) (w : World) : Calls Tryz.prog 53 #[.int .i64 b] w (fun e w' => e = .returned (.bool (inB b 1 20000)) ∧ w = w') := by
  go_enter Tryz.func53, Tryz.ntmps53
  go_wp2_with (go_at_call 14; refine (within_any _ _ _ _).mono ?_; rintro e w' ⟨rfl, rfl⟩)
  go_ret
  exact ⟨rfl, rfl⟩
end Go.Proofs.YtncknfhfkmmhbaaGreat
