/- Whether a budget is one, both sides. No condition beyond those stated. -/
import Derived.Test.YtcnjlkabdfcjdaaZAD
import Derived.Test.YtcnjlkabdfcjdaaZAC
set_option linter.unusedVariables false
set_option linter.unusedSimpArgs false
namespace Go.Proofs.Ytcnjlkabdfcjdaa
open Go.RowKit

theorem isBudget_any (b : Int) (w : World) : Calls Try.prog 35 #[.int .i64 b] w (fun e w' => e = .returned (.bool (inB b 1 20000)) ∧ w = w') := by
  go_enter Try.func35, Try.ntmps35
  go_wp2_with (go_at_call 36; refine (within_any _ _ _ _).mono ?_; rintro e w' ⟨rfl, rfl⟩)
  go_ret
  exact ⟨rfl, rfl⟩
theorem l09Budget_any (b : Int) (w : World) : Calls Try.prog 39 #[.int .i64 b] w (fun e w' => e = .returned (.bool (inB b 1 20000)) ∧ w = w') := by
  go_enter Try.func39, Try.ntmps39
  go_wp2_with (go_at_call 40; refine (l00In_any _ _ _ _).mono ?_; rintro e w' ⟨rfl, rfl⟩)
  go_ret
  exact ⟨rfl, rfl⟩
end Go.Proofs.Ytcnjlkabdfcjdaa
