/- Powers and Hilbert symbols: what the functions of both sides return. No condition beyond those stated. -/
import Derived.Test.YtjhheemppoeecaaHil
namespace Go.Proofs.Ytjhheemppoeecaa
open Go.RowKit

theorem tmod_bd {a m : Int} (hm : 2 ≤ m) : -m < a.tmod m ∧ a.tmod m < m := by
  have h1 := Int.tmod_lt_of_pos a (show 0 < m by omega)
  have h2 := Int.tmod_lt_of_pos (-a) (show 0 < m by omega)
  rw [Int.neg_tmod] at h2
  exact ⟨by omega, h1⟩
theorem md_bd {a m : Int} (hm : 2 ≤ m) : 0 ≤ md a m ∧ md a m < m := ⟨Int.emod_nonneg _ (by omega), Int.emod_lt_of_pos _ (by omega)⟩

set_option maxHeartbeats 400000 in
theorem l29Mod_any (a m : Int) (w : World) (hm : 2 ≤ m) (hm' : m ≤ 1000000) :
    Calls Try.prog 57 #[.int .i64 a, .int .i64 m] w fun e w' => e = .returned (.int .i64 (md a m)) ∧ w = w' := by
  obtain ⟨h1, h2⟩ := tmod_bd (a := a) hm
  go_enter Try.func57, Try.ntmps57
  go_wp2
  go_ret
  exact ⟨rfl, rfl⟩

structure PwFacts (o b f m : Int) : Prop where
  o0 : 0 ≤ o
  o1 : o ≤ 1000000
  b0 : 0 ≤ b
  b1 : b ≤ 1000000
  f0 : 0 ≤ f
  f1 : f ≤ 1000000
theorem PwFacts.next {o b f m : Int} (h : PwFacts o b f m) (hm : 2 ≤ m) (hm' : m ≤ 1000000) (x : Int) (hx : x = o ∨ x = o * b % m) : PwFacts x (b * b % m) (f / 2) m := by
  obtain ⟨h1, h2, h3, h4, h5, h6⟩ := h
  have a1 := Int.emod_nonneg (o * b) (show m ≠ 0 by omega)
  have a2 := Int.emod_lt_of_pos (o * b) (show 0 < m by omega)
  have a3 := Int.emod_nonneg (b * b) (show m ≠ 0 by omega)
  have a4 := Int.emod_lt_of_pos (b * b) (show 0 < m by omega)
  rcases hx with rfl | rfl <;> exact ⟨by omega, by omega, by omega, by omega, by omega, by omega⟩

set_option maxHeartbeats 400000 in
theorem l02Power_any (a e m : Int) (w : World) (ha : 0 ≤ a) (ha' : a ≤ 1000000) (he : 0 ≤ e) (he' : e ≤ 1000000) (hm : 2 ≤ m) (hm' : m ≤ 1000000) :
    Calls Try.prog 59 #[.int .i64 a, .int .i64 e, .int .i64 m] w fun en w' => en = .returned (.int .i64 (pw 1 a e m)) ∧ w = w' := by
  have h1 : (1 : Int) % m = 1 := Int.emod_eq_of_lt (by omega) (by omega)
  go_enter Try.func59, Try.ntmps59
  go_wp2
  go_loop [0, 1, 7] (fun x y z => ∃ o b f : Int, x = .int .i64 b ∧ y = .int .i64 f ∧ z = .int .i64 o ∧ PwFacts o b f m ∧ pw o b f m = pw 1 a e m) (fun _ y _ => (intOf y).toNat)
  case atStart => exact ⟨1, a, e, rfl, rfl, by rw [h1], ⟨by omega, by omega, ha, ha', he, he'⟩, rfl⟩
  case round =>
    obtain ⟨o, b, f, rfl, rfl, rfl, hf, hp⟩ := hrel
    have hnx := hf.next hm hm'
    obtain ⟨o0, o1, b0, b1, f0, f1⟩ := hf
    have m1 := (mul_bd' o0 o1 b0 b1).1
    have m2 := (mul_bd' o0 o1 b0 b1).2
    have m3 := (mul_bd' b0 b1 b0 b1).1
    have m4 := (mul_bd' b0 b1 b0 b1).2
    clear h1
    by_cases h0 : 0 < f
    · by_cases hodd : f % 2 = 1
      · have HP := Lib.hid (show pw (o * b % m) (b * b % m) (f / 2) m = pw 1 a e m by rw [← hp, pw_step h0, if_pos hodd])
        have HN := Lib.hid (hnx _ (.inr rfl))
        have hb : (f % 2 == 1) = true := by simp [hodd]
        clear hp hodd hnx
        go_wp2
        go_round
        case rel => exact ⟨_, _, _, rfl, rfl, rfl, HN.out, HP.out⟩
        case measure => simp [intOf]; omega
      · have HP := Lib.hid (show pw o (b * b % m) (f / 2) m = pw 1 a e m by rw [← hp, pw_step h0, if_neg hodd])
        have HN := Lib.hid (hnx _ (.inl rfl))
        have hb : (f % 2 == 1) = false := by simp [hodd]
        clear hp hodd hnx
        go_wp2
        go_round
        case rel => exact ⟨_, _, _, rfl, rfl, rfl, HN.out, HP.out⟩
        case measure => simp [intOf]; omega
    · have HP := Lib.hid (show o = pw 1 a e m by rw [← hp, pw_done h0])
      clear hp hnx
      go_wp2
      go_ret
      exact ⟨by rw [← HP.out]; rfl, rfl⟩

set_option maxHeartbeats 400000 in
theorem legendre_any (x p : Int) (w : World) (hm : 3 ≤ p) (hm' : p ≤ 1000000) :
    Calls Try.prog 41 #[.int .i64 x, .int .i64 p] w fun en w' => en = .returned (.int .i64 (leg x p)) ∧ w = w' := by
  obtain ⟨h1, h2⟩ := tmod_bd (a := x) (m := p) (by omega)
  have hmd := md_bd (a := x) (m := p) (by omega)
  have HMD := Lib.hid hmd; clear hmd
  go_enter Try.func41, Try.ntmps41
  go_wp2
  go_loop [5, 6, 7] (fun x' z y => ∃ o b f : Int, x' = .int .i64 b ∧ y = .int .i64 f ∧ z = .int .i64 o ∧ PwFacts o b f p ∧ pw o b f p = pw 1 (md x p) ((p - 1) / 2) p) (fun _ _ y => (intOf y).toNat)
  case atStart => exact ⟨1, md x p, (p - 1) / 2, rfl, rfl, rfl, ⟨by omega, by omega, HMD.out.1, by have := HMD.out.2; omega, by omega, by omega⟩, rfl⟩
  case round =>
    obtain ⟨o, b, f, rfl, rfl, rfl, hf, hp⟩ := hrel
    have hnx := hf.next (by omega) hm'
    obtain ⟨o0, o1, b0, b1, f0, f1⟩ := hf
    have m1 := (mul_bd' o0 o1 b0 b1).1
    have m2 := (mul_bd' o0 o1 b0 b1).2
    have m3 := (mul_bd' b0 b1 b0 b1).1
    have m4 := (mul_bd' b0 b1 b0 b1).2
    clear h1 h2
    by_cases h0 : 0 < f
    · by_cases hodd : f % 2 = 1
      · have HP := Lib.hid (show pw (o * b % p) (b * b % p) (f / 2) p = pw 1 (md x p) ((p - 1) / 2) p by rw [← hp, pw_step h0, if_pos hodd])
        have HN := Lib.hid (hnx _ (.inr rfl))
        have hb : (f % 2 == 1) = true := by simp [hodd]
        clear hp hodd hnx
        go_wp2
        go_round
        case rel => exact ⟨_, _, _, rfl, rfl, rfl, HN.out, HP.out⟩
        case measure => simp [intOf]; omega
      · have HP := Lib.hid (show pw o (b * b % p) (f / 2) p = pw 1 (md x p) ((p - 1) / 2) p by rw [← hp, pw_step h0, if_neg hodd])
        have HN := Lib.hid (hnx _ (.inl rfl))
        have hb : (f % 2 == 1) = false := by simp [hodd]
        clear hp hodd hnx
        go_wp2
        go_round
        case rel => exact ⟨_, _, _, rfl, rfl, rfl, HN.out, HP.out⟩
        case measure => simp [intOf]; omega
    · have HP := Lib.hid (show o = pw 1 (md x p) ((p - 1) / 2) p by rw [← hp, pw_done h0])
      clear hp hnx
      by_cases ho : o = 1
      · have HL := Lib.hid (show leg x p = 0 by unfold leg; rw [← HP.out, if_pos ho])
        subst ho
        go_wp2
        go_ret
        exact ⟨by rw [HL.out]; rfl, rfl⟩
      · have HL := Lib.hid (show leg x p = 1 by unfold leg; rw [← HP.out, if_neg ho])
        have ho' : (o == 1) = false := by simpa using ho
        clear ho
        go_wp2
        go_ret
        exact ⟨by rw [HL.out]; rfl, rfl⟩

def sq (u p : Int) : Int := if leg u p = 0 then 1 else -1
set_option maxHeartbeats 400000 in
theorem l29Square_any (a p : Int) (w : World) (hm : 3 ≤ p) (hm' : p ≤ 1000000) :
    Calls Try.prog 58 #[.int .i64 a, .int .i64 p] w fun en w' => en = .returned (.int .i64 (sq a p)) ∧ w = w' := by
  obtain ⟨h1, h2⟩ := md_bd (a := a) (m := p) (by omega)
  by_cases hl : pw 1 (md a p) ((p - 1) / 2) p = 1
  · have HL := Lib.hid (show sq a p = 1 by unfold sq leg; rw [if_pos hl]; rfl)
    go_enter Try.func58, Try.ntmps58
    go_wp2_with (first | (go_at_call 57; refine (l29Mod_any _ _ _ (by omega) (by omega)).mono ?_; rintro e w' ⟨rfl, rfl⟩) | (go_at_call 59; refine (l02Power_any _ _ _ _ (by omega) (by omega) (by omega) (by omega) (by omega) (by omega)).mono ?_; rintro e w' ⟨rfl, rfl⟩))
    go_ret
    exact ⟨by rw [HL.out]; rfl, rfl⟩
  · have hl' : (pw 1 (md a p) ((p - 1) / 2) p == 1) = false := by simpa using hl
    have HL := Lib.hid (show sq a p = -1 by unfold sq leg; rw [if_neg hl]; rfl)
    clear hl
    go_enter Try.func58, Try.ntmps58
    go_wp2_with (first | (go_at_call 57; refine (l29Mod_any _ _ _ (by omega) (by omega)).mono ?_; rintro e w' ⟨rfl, rfl⟩) | (go_at_call 59; refine (l02Power_any _ _ _ _ (by omega) (by omega) (by omega) (by omega) (by omega) (by omega)).mono ?_; rintro e w' ⟨rfl, rfl⟩))
    go_ret
    exact ⟨by rw [HL.out]; rfl, rfl⟩

set_option maxHeartbeats 400000 in
theorem flag_any (b : Bool) (w : World) : Calls Try.prog 39 #[.bool b] w fun en w' => en = .returned (.int .i64 (fl b)) ∧ w = w' := by
  cases b
  all_goals
    go_enter Try.func39, Try.ntmps39
    go_wp2
    go_ret
    exact ⟨rfl, rfl⟩
set_option maxHeartbeats 400000 in
theorem three_any (x : Int) (w : World) : Calls Try.prog 42 #[.int .i64 x] w fun en w' => en = .returned (.int .i64 (thr x)) ∧ w = w' := by
  obtain ⟨h1, h2⟩ := tmod_bd (a := x) (m := 4) (by omega)
  go_enter Try.func42, Try.ntmps42
  have H := Lib.hid (show thr x = fl (x.tmod 4 % 4 == 3) by unfold thr md; simp)
  go_wp2_with (go_at_call 39; refine (flag_any _ _).mono ?_; rintro e w' ⟨rfl, rfl⟩)
  go_ret
  exact ⟨by rw [H.out]; rfl, rfl⟩
set_option maxHeartbeats 400000 in
theorem middle_any (x : Int) (w : World) : Calls Try.prog 43 #[.int .i64 x] w fun en w' => en = .returned (.int .i64 (mid x)) ∧ w = w' := by
  obtain ⟨h1, h2⟩ := tmod_bd (a := x) (m := 8) (by omega)
  have H := Lib.hid (show mid x = fl (inB (x.tmod 8 % 8) 3 5) by unfold mid md inB; simp)
  go_enter Try.func43, Try.ntmps43
  go_wp2_with (first | (go_at_call 33; refine (within_any _ _ _ _).mono ?_; rintro e w' ⟨rfl, rfl⟩) | (go_at_call 39; refine (flag_any _ _).mono ?_; rintro e w' ⟨rfl, rfl⟩))
  go_ret
  exact ⟨by rw [H.out]; rfl, rfl⟩

set_option maxHeartbeats 1000000 in
theorem impl_hilbert (a b p : Int) (w : World) (ha : Mil a) (hb : Mil b) (hp : p = 0 ∨ 2 ≤ p) (hp' : p ≤ 1000000) :
    Calls Try.prog 26 #[.int .i64 a, .int .i64 b, .int .i64 p] w fun en w' => en = .returned (.int .i64 (hv a b p)) ∧ w = w' := by
  rcases hp with rfl | hp
  · have HH := Lib.hid (show hv a b 0 = fl (decide (a < 0) && decide (b < 0)) from rfl)
    by_cases h1 : a < 0
    · go_enter Try.func26, Try.ntmps26
      go_wp2_with (go_at_call 39; refine (flag_any _ _).mono ?_; rintro e w' ⟨rfl, rfl⟩)
      go_ret
      exact ⟨by rw [HH.out]; simp [h1], rfl⟩
    · have h1' : 0 ≤ a := by omega
      go_enter Try.func26, Try.ntmps26
      go_wp2_with (go_at_call 39; refine (flag_any _ _).mono ?_; rintro e w' ⟨rfl, rfl⟩)
      go_ret
      exact ⟨by rw [HH.out]; simp [show ¬ a < 0 by omega], rfl⟩
  · have i1 := ha.expo hp
    have j1 := hb.expo hp
    by_cases h2 : 2 < p
    · have HH := Lib.hid (show hv a b p = (expo a p : Int) * expo b p * ((p - 1) / 2) + expo b p * leg (cof a p) p + expo a p * leg (cof b p) p by unfold hv; rw [if_neg (by omega), if_pos h2])
      have m1 := mul_bd' (a := (expo a p : Int)) (b := (expo b p : Int)) (A := 19) (B := 19) (by omega) (by omega) (by omega) (by omega)
      have m2 := mul_bd' (a := (expo a p : Int) * expo b p) (b := (p - 1) / 2) (A := 361) (B := 500000) (by omega) (by omega) (by omega) (by omega)
      have l1 := leg_01 (cof a p) p
      have l2 := leg_01 (cof b p) p
      have m3 := mul_bd' (a := (expo b p : Int)) (b := leg (cof a p) p) (A := 19) (B := 1) (by omega) (by omega) (by omega) (by omega)
      have m4 := mul_bd' (a := (expo a p : Int)) (b := leg (cof b p) p) (A := 19) (B := 1) (by omega) (by omega) (by omega) (by omega)
      obtain ⟨m1a, m1b⟩ := m1
      obtain ⟨m2a, m2b⟩ := m2
      obtain ⟨m3a, m3b⟩ := m3
      obtain ⟨m4a, m4b⟩ := m4
      clear l1 l2
      have hp0 : (p == 0) = false := by simp; omega
      go_enter Try.func26, Try.ntmps26
      go_wp2_with (first
        | (go_at_call 40; (with_reducible refine (split_any a p _ ha hp hp').mono ?_); rintro e w' ⟨rfl, rfl⟩)
        | (go_at_call 40; (with_reducible refine (split_any b p _ hb hp hp').mono ?_); rintro e w' ⟨rfl, rfl⟩)
        | (go_at_call 41; refine (legendre_any _ _ _ (by omega) hp').mono ?_; rintro e w' ⟨rfl, rfl⟩))
      go_ret
      exact ⟨by rw [HH.out]; rfl, rfl⟩
    · obtain rfl : p = 2 := by omega
      have HH := Lib.hid (show hv a b 2 = thr (cof a 2) * thr (cof b 2) + expo a 2 * mid (cof b 2) + expo b 2 * mid (cof a 2) from rfl)
      have t1 : 0 ≤ thr (cof a 2) ∧ thr (cof a 2) ≤ 1 := by have := fl_01 (md (cof a 2) 4 == 3); unfold thr; omega
      have t2 : 0 ≤ thr (cof b 2) ∧ thr (cof b 2) ≤ 1 := by have := fl_01 (md (cof b 2) 4 == 3); unfold thr; omega
      have t3 : 0 ≤ mid (cof a 2) ∧ mid (cof a 2) ≤ 1 := by have := fl_01 (decide (3 ≤ md (cof a 2) 8) && decide (md (cof a 2) 8 ≤ 5)); unfold mid; omega
      have t4 : 0 ≤ mid (cof b 2) ∧ mid (cof b 2) ≤ 1 := by have := fl_01 (decide (3 ≤ md (cof b 2) 8) && decide (md (cof b 2) 8 ≤ 5)); unfold mid; omega
      have m1 := mul_bd' (a := thr (cof a 2)) (b := thr (cof b 2)) (A := 1) (B := 1) t1.1 t1.2 t2.1 t2.2
      have m2 := mul_bd' (a := (expo a 2 : Int)) (b := mid (cof b 2)) (A := 19) (B := 1) (by omega) (by omega) t4.1 t4.2
      have m3 := mul_bd' (a := (expo b 2 : Int)) (b := mid (cof a 2)) (A := 19) (B := 1) (by omega) (by omega) t3.1 t3.2
      obtain ⟨m1a, m1b⟩ := m1
      obtain ⟨m2a, m2b⟩ := m2
      obtain ⟨m3a, m3b⟩ := m3
      clear t1 t2 t3 t4
      go_enter Try.func26, Try.ntmps26
      go_wp2_with (first
        | (go_at_call 40; (with_reducible refine (split_any a 2 _ ha hp hp').mono ?_); rintro e w' ⟨rfl, rfl⟩)
        | (go_at_call 40; (with_reducible refine (split_any b 2 _ hb hp hp').mono ?_); rintro e w' ⟨rfl, rfl⟩)
        | (go_at_call 42; refine (three_any _ _).mono ?_; rintro e w' ⟨rfl, rfl⟩)
        | (go_at_call 43; refine (middle_any _ _).mono ?_; rintro e w' ⟨rfl, rfl⟩))
      go_ret
      exact ⟨by rw [HH.out]; rfl, rfl⟩
end Go.Proofs.Ytjhheemppoeecaa
