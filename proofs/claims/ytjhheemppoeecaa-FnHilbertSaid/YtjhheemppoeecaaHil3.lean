/- The reference's Hilbert symbol, prime numbers on both sides, and the law on Hilbert symbols. No condition beyond those stated. -/
import Derived.Test.YtjhheemppoeecaaHil2
namespace Go.Proofs.Ytjhheemppoeecaa
open Go.RowKit

theorem neg_fl (a b : Int) : sgn (fl (decide (a < 0) && decide (b < 0))) = if a < 0 ∧ b < 0 then -1 else 1 := by
  by_cases h1 : a < 0 <;> by_cases h2 : b < 0 <;> simp [h1, h2, fl, sgn]

set_option maxHeartbeats 400000 in
theorem spec_hilbert0 (a b : Int) (w : World) :
    Calls Try.prog 54 #[.int .i64 a, .int .i64 b, .int .i64 0] w fun en w' => en = .returned (.int .i64 (sgn (hv a b 0))) ∧ w = w' := by
  have HH := Lib.hid (show sgn (hv a b 0) = if a < 0 ∧ b < 0 then -1 else 1 from neg_fl a b)
  by_cases h1 : a < 0
  · by_cases h2 : b < 0
    · go_enter Try.func54, Try.ntmps54
      go_wp2
      go_ret
      exact ⟨by rw [HH.out, if_pos ⟨h1, h2⟩]; rfl, rfl⟩
    · have h2' : 0 ≤ b := by omega
      go_enter Try.func54, Try.ntmps54
      go_wp2
      go_ret
      exact ⟨by rw [HH.out, if_neg (by omega)]; rfl, rfl⟩
  · have h1' : 0 ≤ a := by omega
    go_enter Try.func54, Try.ntmps54
    go_wp2
    go_ret
    exact ⟨by rw [HH.out, if_neg (by omega)]; rfl, rfl⟩

theorem sq_01 (u p : Int) : sq u p = 1 ∨ sq u p = -1 := by unfold sq; split <;> simp
theorem oddS_eq (i j : Nat) (u w p : Int) : oddS i j u w p =
    (if i % 2 = 1 then sq w p else 1) * ((if j % 2 = 1 then sq u p else 1) * (if i % 2 = 1 ∧ j % 2 = 1 ∧ p % 4 = 3 then -1 else 1)) := by
  have hi : i % 2 = 0 ∨ i % 2 = 1 := by omega
  have hj : j % 2 = 0 ∨ j % 2 = 1 := by omega
  rcases hi with hi | hi <;> rcases hj with hj | hj <;> by_cases h4 : p % 4 = 3 <;> rcases leg_01 u p with hu | hu <;> rcases leg_01 w p with hw | hw <;> simp [oddS, sq, hi, hj, h4, hu, hw]

theorem hodd_eq {a b p x y : Int} (hp : 3 ≤ p) (hodd : p % 2 = 1) (hx : sq (cof a p) p = x) (hy : sq (cof b p) p = y) :
    sgn (hv a b p) = (if ((expo a p : Nat) : Int) % 2 = 1 then y else 1) * ((if ((expo b p : Nat) : Int) % 2 = 1 then x else 1) * (if ((expo a p : Nat) : Int) % 2 = 1 ∧ ((expo b p : Nat) : Int) % 2 = 1 ∧ (p % 4 == 3) = true then -1 else 1)) := by
  have e1 : (((expo a p : Nat) : Int) % 2 = 1) = (expo a p % 2 = 1) := by apply propext; omega
  have e2 : (((expo b p : Nat) : Int) % 2 = 1) = (expo b p % 2 = 1) := by apply propext; omega
  have e3 : ((p % 4 == 3) = true) = (p % 4 = 3) := by simp
  simp only [e1, e2, e3]
  unfold hv
  rw [if_neg (by omega), if_pos (by omega), ← odd_agree _ _ _ _ _ hodd, oddS_eq, hx, hy]

set_option maxHeartbeats 2000000 in
theorem spec_hilbertOdd (a b p : Int) (w : World) (ha : Mil a) (hb : Mil b) (hp : 3 ≤ p) (hp' : p ≤ 1000000) (hodd : p % 2 = 1) :
    Calls Try.prog 54 #[.int .i64 a, .int .i64 b, .int .i64 p] w fun en w' => en = .returned (.int .i64 (sgn (hv a b p))) ∧ w = w' := by
  have i1 := ha.expo (p := p) (by omega)
  have j1 := hb.expo (p := p) (by omega)
  have hp0 : (p == 0) = false := by simp; omega
  have hp2 : (p == 2) = false := by simp; omega
  have hsp := fun (x : Int) (hx : Mil x) (w : World) => l29Split_any x p w hx (by omega) hp'
  have HS := Lib.hid hsp; clear hsp
  rcases sq_01 (cof a p) p with e1 | e1 <;> rcases sq_01 (cof b p) p with e2 | e2
  all_goals
    have HH := Lib.hid (hodd_eq hp hodd e1 e2)
    have E1 := Lib.hid e1
    have E2 := Lib.hid e2
    clear e1 e2 hodd
    go_enter Try.func54, Try.ntmps54
    go_wp2_with (first
      | (go_at_call 56; (with_reducible refine (HS.out a ha _).mono ?_); rintro e w' ⟨rfl, rfl⟩)
      | (go_at_call 56; (with_reducible refine (HS.out b hb _).mono ?_); rintro e w' ⟨rfl, rfl⟩)
      | (go_at_call 58; (with_reducible refine (l29Square_any (cof a p) p _ hp hp').mono ?_); rintro e w' ⟨rfl, rfl⟩; rw [E1.out])
      | (go_at_call 58; (with_reducible refine (l29Square_any (cof b p) p _ hp hp').mono ?_); rintro e w' ⟨rfl, rfl⟩; rw [E2.out]))
    all_goals
      go_ret
      refine ⟨?_, rfl⟩
      rw [HH.out]
      simp only [beq_iff_eq, beq_eq_false_iff_ne, ne_eq] at *
      simp [*]
end Go.Proofs.Ytjhheemppoeecaa
