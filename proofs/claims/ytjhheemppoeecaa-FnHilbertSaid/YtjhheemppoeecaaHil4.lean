/- The reference's Hilbert symbol at 2. No condition beyond those stated. -/
import Derived.Test.YtjhheemppoeecaaHil3
namespace Go.Proofs.Ytjhheemppoeecaa
open Go.RowKit

theorem odd_md {u : Int} (h : u.tmod 2 ≠ 0) : (md u 8 = 1 ∧ md u 4 = 1) ∨ (md u 8 = 3 ∧ md u 4 = 3) ∨ (md u 8 = 5 ∧ md u 4 = 1) ∨ (md u 8 = 7 ∧ md u 4 = 3) := by
  have h1 := Int.mul_tdiv_add_tmod u 8
  have h3 := Int.mul_tdiv_add_tmod u 4
  have h2 := Int.mul_tdiv_add_tmod u 2
  have h4 : u % 2 = 1 := by
    have : ¬ (2 : Int) ∣ u := fun hd => h (Int.tmod_eq_zero_of_dvd hd)
    omega
  unfold md
  omega

set_option maxHeartbeats 4000000 in
theorem spec_hilbert2 (a b : Int) (w : World) (ha : Mil a) (hb : Mil b) :
    Calls Try.prog 54 #[.int .i64 a, .int .i64 b, .int .i64 2] w fun en w' => en = .returned (.int .i64 (sgn (hv a b 2))) ∧ w = w' := by
  have i1 := ha.expo (p := 2) (by omega)
  have j1 := hb.expo (p := 2) (by omega)
  have ha2 := (expo_spec (a := a) (p := 2) ha.1 (by omega)).2.1
  have hb2 := (expo_spec (a := b) (p := 2) hb.1 (by omega)).2.1
  have hsp := fun (x : Int) (hx : Mil x) (w : World) => l29Split_any x 2 w hx (by omega) (by omega)
  have HS := Lib.hid hsp; clear hsp
  rcases odd_md ha2 with ⟨e1, f1⟩ | ⟨e1, f1⟩ | ⟨e1, f1⟩ | ⟨e1, f1⟩ <;> rcases odd_md hb2 with ⟨e2, f2⟩ | ⟨e2, f2⟩ | ⟨e2, f2⟩ | ⟨e2, f2⟩
  all_goals
    have HH := Lib.hid (show hv a b 2 = fl (md (cof a 2) 4 == 3) * fl (md (cof b 2) 4 == 3) + expo a 2 * fl (decide (3 ≤ md (cof b 2) 8) && decide (md (cof b 2) 8 ≤ 5)) + expo b 2 * fl (decide (3 ≤ md (cof a 2) 8) && decide (md (cof a 2) 8 ≤ 5)) from rfl)
    have E := Lib.hid (And.intro (And.intro e1 f1) (And.intro e2 f2))
    clear e1 e2 f1 f2 ha2 hb2
    go_enter Try.func54, Try.ntmps54
    go_wp2_with (first
      | (go_at_call 56; (with_reducible refine (HS.out a ha _).mono ?_); rintro e w' ⟨rfl, rfl⟩)
      | (go_at_call 56; (with_reducible refine (HS.out b hb _).mono ?_); rintro e w' ⟨rfl, rfl⟩)
      | (go_at_call 57; (with_reducible refine (l29Mod_any (cof a 2) 4 _ (by omega) (by omega)).mono ?_); rintro e w' ⟨rfl, rfl⟩; rw [E.out.1.2])
      | (go_at_call 57; (with_reducible refine (l29Mod_any (cof b 2) 4 _ (by omega) (by omega)).mono ?_); rintro e w' ⟨rfl, rfl⟩; rw [E.out.2.2])
      | (go_at_call 57; (with_reducible refine (l29Mod_any (cof a 2) 8 _ (by omega) (by omega)).mono ?_); rintro e w' ⟨rfl, rfl⟩; rw [E.out.1.1])
      | (go_at_call 57; (with_reducible refine (l29Mod_any (cof b 2) 8 _ (by omega) (by omega)).mono ?_); rintro e w' ⟨rfl, rfl⟩; rw [E.out.2.1]))
    all_goals
      go_ret
      refine ⟨?_, rfl⟩
      rw [HH.out, E.out.1.1, E.out.1.2, E.out.2.1, E.out.2.2]
      try simp only [beq_iff_eq, beq_eq_false_iff_ne, ne_eq] at *
      simp [fl, sgn]
      try omega
end Go.Proofs.Ytjhheemppoeecaa
