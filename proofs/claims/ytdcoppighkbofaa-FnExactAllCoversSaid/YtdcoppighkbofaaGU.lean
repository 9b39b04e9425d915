/- Whether a budget is one, both sides. No condition beyond those stated. -/
import Derived.Test.YtdcoppighkbofaaGB
set_option linter.unusedVariables false
set_option linter.unusedSimpArgs false
namespace Go.Proofs.Ytdcoppighkbofaa
open Go.RowKit

theorem isBudget_any (b : Int) (w : World) : Calls Try.prog 33 #[.int .i64 b] w (fun e w' => e = .returned (.bool (inB b 1 20000)) ∧ w = w') := by
  go_enter Try.func33, Try.ntmps33
  go_wp2_with (go_at_call 41; refine (within_any _ _ _ _).mono ?_; rintro e w' ⟨rfl, rfl⟩)
  go_ret
  exact ⟨rfl, rfl⟩
end Go.Proofs.Ytdcoppighkbofaa
