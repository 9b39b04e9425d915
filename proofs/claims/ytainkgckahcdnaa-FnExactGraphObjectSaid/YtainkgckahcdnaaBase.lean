/- Whether a number lies between two others: what the function of each side returns. No condition. -/
import Derived.Test.YtainkgckahcdnaaProg
import Derived.Test.YtainkgckahcdnaaMem
namespace Go.Proofs.Ytainkgckahcdnaa
open Go.RowKit

set_option maxHeartbeats 400000 in
theorem l00In_any (a lo hi : Int) (w : World) :
    Calls Try.prog 66 #[.int .i64 a, .int .i64 lo, .int .i64 hi] w fun e w' => e = .returned (.bool (inB a lo hi)) ∧ w = w' := by
  go_enter Try.func66, Try.ntmps66
  go_wp2
  · go_ret
    have h : lo ≤ a := by assumption
    exact ⟨by simp [inB, h], rfl⟩
  · go_ret
    have h : a < lo := by assumption
    exact ⟨by simp [inB, show ¬ lo ≤ a by omega], rfl⟩
set_option maxHeartbeats 400000 in
theorem within_any (a lo hi : Int) (w : World) :
    Calls Try.prog 62 #[.int .i64 a, .int .i64 lo, .int .i64 hi] w fun e w' => e = .returned (.bool (inB a lo hi)) ∧ w = w' := by
  go_enter Try.func62, Try.ntmps62
  go_wp2
  · go_ret
    have h : lo ≤ a := by assumption
    exact ⟨by simp [inB, h], rfl⟩
  · go_ret
    have h : a < lo := by assumption
    exact ⟨by simp [inB, show ¬ lo ≤ a by omega], rfl⟩
end Go.Proofs.Ytainkgckahcdnaa
