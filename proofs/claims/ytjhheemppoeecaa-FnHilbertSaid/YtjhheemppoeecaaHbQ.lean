/- Hilbert symbols, plain: they are bilinear. No program in sight. -/
import Derived.Test.YtjhheemppoeecaaHbP
namespace Go.Proofs.Ytjhheemppoeecaa

/-! prime numbers -/
theorem prime_dvd {p u w : Int} (hp : Prime p) (h1 : ¬ p ∣ u) (h2 : ¬ p ∣ w) : ¬ p ∣ u * w := by
  intro h
  obtain ⟨p2, hd⟩ := hp
  have hp' : p.natAbs ∣ u.natAbs * w.natAbs := by rw [← Int.natAbs_mul]; exact Int.natAbs_dvd_natAbs.2 h
  have hc : Nat.Coprime p.natAbs u.natAbs := by
    have g1 := Nat.gcd_dvd_left p.natAbs u.natAbs
    have g2 := Nat.gcd_dvd_right p.natAbs u.natAbs
    rw [Nat.coprime_iff_gcd_eq_one]
    generalize Nat.gcd p.natAbs u.natAbs = d at *
    have hle := Nat.le_of_dvd (by omega) g1
    by_cases e1 : d = p.natAbs
    · exfalso
      rw [e1] at g2
      exact h1 (Int.natAbs_dvd_natAbs.1 g2)
    · by_cases e0 : d = 0
      · subst e0
        have := Nat.eq_zero_of_zero_dvd g1
        omega
      · by_cases e2 : d = 1
        · exact e2
        · exfalso
          refine hd d (by omega) (by omega) ?_
          refine Int.tmod_eq_zero_of_dvd (Int.natAbs_dvd_natAbs.1 (by simpa using g1))
  have := Nat.Coprime.dvd_of_dvd_mul_left hc hp'
  exact h2 (Int.natAbs_dvd_natAbs.1 this)
theorem tmod_dvd {p a : Int} : a.tmod p = 0 ↔ p ∣ a := ⟨Int.dvd_of_tmod_eq_zero, Int.tmod_eq_zero_of_dvd⟩
theorem expo_uniq {p u : Int} (hp : 2 ≤ p) (hu : ¬ p ∣ u) : ∀ (i : Nat), expo (u * p ^ i) p = i ∧ cof (u * p ^ i) p = u
  | 0 => by
    have : (u * p ^ 0).tmod p ≠ 0 := fun h => hu (by simpa using tmod_dvd.1 h)
    have h2 := expo_no this
    simpa using h2
  | i + 1 => by
    have hu0 : u ≠ 0 := fun e => hu (by rw [e]; exact Int.dvd_zero p)
    have hpi : (p ^ i : Int) ≠ 0 := by
      have : (0 : Int) < p ^ i := Int.pow_pos (by omega)
      omega
    have e1 : u * p ^ (i + 1) = p * (u * p ^ i) := by rw [Int.pow_succ, Int.mul_comm p, Int.mul_assoc]
    have h0 : u * p ^ (i + 1) ≠ 0 := by
      rw [e1]
      exact Int.mul_ne_zero (by omega) (Int.mul_ne_zero hu0 hpi)
    have hm : (u * p ^ (i + 1)).tmod p = 0 := tmod_dvd.2 (by rw [e1]; exact Int.dvd_mul_right _ _)
    have hd : (u * p ^ (i + 1)).tdiv p = u * p ^ i := by rw [e1]; exact Int.mul_tdiv_cancel_left _ (by omega)
    obtain ⟨h1, h2⟩ := expo_yes h0 hp hm
    rw [hd] at h1 h2
    obtain ⟨h3, h4⟩ := expo_uniq hp hu i
    exact ⟨by rw [h1, h3], by rw [h2, h4]⟩
theorem expo_mul {p a b : Int} (hp : Prime p) (ha : a ≠ 0) (hb : b ≠ 0) : expo (a * b) p = expo a p + expo b p ∧ cof (a * b) p = cof a p * cof b p := by
  obtain ⟨a1, a2, a3⟩ := expo_spec ha hp.1
  obtain ⟨b1, b2, b3⟩ := expo_spec hb hp.1
  have e : a * b = cof a p * cof b p * p ^ (expo a p + expo b p) := by
    conv => lhs; rw [a1, b1]
    rw [Int.pow_add]
    generalize (p ^ expo a p : Int) = x
    generalize (p ^ expo b p : Int) = y
    rw [Int.mul_assoc, Int.mul_assoc, ← Int.mul_assoc x, Int.mul_comm x, Int.mul_assoc]
  rw [e]
  exact expo_uniq hp.1 (prime_dvd hp (fun h => a2 (tmod_dvd.2 h)) (fun h => b2 (tmod_dvd.2 h))) _
theorem op_primes : (OP.all fun p => decide (3 ≤ p) && (decide (p ≤ 59) && isP p)) = true := by decide +kernel
theorem op_prime {p : Int} (h : p ∈ OP) : Prime p ∧ 3 ≤ p ∧ p ≤ 59 ∧ isP p = true := by
  have h1 := List.all_eq_true.1 op_primes p h
  simp only [Bool.and_eq_true, decide_eq_true_eq] at h1
  exact ⟨(isP_prime h1.2.2).1, h1.1, h1.2.1, h1.2.2⟩
theorem two_p : isP 2 = true := by decide +kernel

/-! the symbol's exponent -/
theorem hv_comm (a b p : Int) : hv a b p = hv b a p := by
  unfold hv
  split
  · rw [Bool.and_comm]
  · split
    · rw [Int.mul_comm (expo a p : Int) (expo b p), Int.add_right_comm]
    · rw [Int.mul_comm (thr (cof a p)), Int.add_right_comm]
theorem fl_neg {b c : Int} (hb : b ≠ 0) (hc : c ≠ 0) : decide (b * c < 0) = (decide (b < 0) != decide (c < 0)) := by
  rcases (show b < 0 ∨ 0 < b by omega) with h1 | h1 <;> rcases (show c < 0 ∨ 0 < c by omega) with h2 | h2
  · have := Int.mul_pos_of_neg_of_neg h1 h2
    simp [h1, h2]; omega
  · have := Int.mul_neg_of_neg_of_pos h1 h2
    simp [h1, this]; omega
  · have := Int.mul_neg_of_pos_of_neg h1 h2
    simp [h2, this]; omega
  · have := Int.mul_pos h1 h2
    have e1 : ¬ b * c < 0 := by omega
    have e2 : ¬ b < 0 := by omega
    have e3 : ¬ c < 0 := by omega
    simp [e1, e2, e3]
theorem odd_res {u : Int} (h : u % 2 ≠ 0) : u % 8 = 1 ∨ u % 8 = 3 ∨ u % 8 = 5 ∨ u % 8 = 7 := by omega
theorem thr_res (u : Int) : thr u = if u % 8 % 4 = 3 then 1 else 0 := by
  unfold thr fl
  rw [md_eq (by omega)]
  have : u % 8 % 4 = u % 4 := by omega
  rw [this]
  by_cases h : u % 4 = 3 <;> simp [h]
theorem mid_res (u : Int) : mid u = if 3 ≤ u % 8 ∧ u % 8 ≤ 5 then 1 else 0 := by
  unfold mid fl
  rw [md_eq (by omega)]
  by_cases h : 3 ≤ u % 8 ∧ u % 8 ≤ 5
  · simp [h]
  · rw [if_neg h]
    have : (decide (3 ≤ u % 8) && decide (u % 8 ≤ 5)) = false := by
      rw [Bool.and_eq_false_iff]
      simp only [decide_eq_false_iff_not]
      omega
    rw [this]; rfl
theorem res_mul {u w : Int} (hu : u % 2 ≠ 0) (hw : w % 2 ≠ 0) : thr (u * w) % 2 = (thr u + thr w) % 2 ∧ mid (u * w) % 2 = (mid u + mid w) % 2 := by
  simp only [thr_res, mid_res]
  rw [Int.mul_emod]
  rcases odd_res hu with e | e | e | e <;> rcases odd_res hw with f | f | f | f <;> rw [e, f] <;> decide
def P18 : List Int := 0 :: 2 :: OP
/-- bilinear in the second number -/
theorem hv_mul {a b c p : Int} (hp : p ∈ P18) (ha : a ≠ 0) (hb : b ≠ 0) (hc : c ≠ 0) : hv a (b * c) p % 2 = (hv a b p + hv a c p) % 2 := by
  unfold P18 at hp
  rcases List.mem_cons.1 hp with rfl | hp
  · unfold hv
    simp only [if_true]
    rw [fl_neg hb hc]
    cases decide (a < 0) <;> cases decide (b < 0) <;> cases decide (c < 0) <;> decide
  · rcases List.mem_cons.1 hp with rfl | hp
    · have h2 := (isP_prime two_p).1
      obtain ⟨e1, e2⟩ := expo_mul h2 hb hc
      obtain ⟨-, b2, -⟩ := expo_spec hb h2.1
      obtain ⟨-, c2, -⟩ := expo_spec hc h2.1
      have hu : cof b 2 % 2 ≠ 0 := fun h => b2 (tmod_dvd.2 (Int.dvd_of_emod_eq_zero h))
      have hw : cof c 2 % 2 ≠ 0 := fun h => c2 (tmod_dvd.2 (Int.dvd_of_emod_eq_zero h))
      obtain ⟨r1, r2⟩ := res_mul hu hw
      unfold hv
      rw [if_neg (by omega), if_neg (by omega), if_neg (by omega), if_neg (by omega), if_neg (by omega), if_neg (by omega), e1, e2]
      generalize thr (cof b 2 * cof c 2) = t at *
      generalize mid (cof b 2 * cof c 2) = m at *
      generalize thr (cof a 2) = x
      generalize mid (cof a 2) = y
      generalize thr (cof b 2) = t1 at *
      generalize thr (cof c 2) = t2 at *
      generalize mid (cof b 2) = m1 at *
      generalize mid (cof c 2) = m2 at *
      generalize (expo a 2 : Int) = i
      rw [Int.natCast_add]
      generalize (expo b 2 : Int) = j
      generalize (expo c 2 : Int) = k
      obtain ⟨s, hs⟩ : ∃ s, t = t1 + t2 + 2 * s := ⟨(t - t1 - t2) / 2, by omega⟩
      obtain ⟨r, hr⟩ : ∃ r, m = m1 + m2 + 2 * r := ⟨(m - m1 - m2) / 2, by omega⟩
      subst hs; subst hr
      have : x * (t1 + t2 + 2 * s) + i * (m1 + m2 + 2 * r) + (j + k) * y = (x * t1 + i * m1 + j * y + (x * t2 + i * m2 + k * y)) + 2 * (x * s + i * r) := by
        simp only [Int.mul_add, Int.add_mul, Int.mul_left_comm _ 2]
        omega
      rw [this]
      omega
    · obtain ⟨hP, p3, -, -⟩ := op_prime hp
      obtain ⟨e1, e2⟩ := expo_mul hP hb hc
      obtain ⟨-, b2, -⟩ := expo_spec hb hP.1
      obtain ⟨-, c2, -⟩ := expo_spec hc hP.1
      have hl := leg_mul hp p3 (u := cof b p) (w := cof c p) (fun h => b2 (tmod_dvd.2 (Int.dvd_of_emod_eq_zero h))) (fun h => c2 (tmod_dvd.2 (Int.dvd_of_emod_eq_zero h)))
      unfold hv
      rw [if_neg (by omega), if_pos (by omega), if_neg (by omega), if_pos (by omega), if_neg (by omega), if_pos (by omega), e1, e2]
      generalize leg (cof b p * cof c p) p = t at *
      generalize leg (cof b p) p = t1 at *
      generalize leg (cof c p) p = t2 at *
      generalize leg (cof a p) p = x
      generalize (expo a p : Int) = i
      generalize (p - 1) / 2 = h
      rw [Int.natCast_add]
      generalize (expo b p : Int) = j
      generalize (expo c p : Int) = k
      obtain ⟨s, hs⟩ : ∃ s, t = t1 + t2 + 2 * s := ⟨(t - t1 - t2) / 2, by omega⟩
      subst hs
      have : i * (j + k) * h + (j + k) * x + i * (t1 + t2 + 2 * s) = (i * j * h + j * x + i * t1 + (i * k * h + k * x + i * t2)) + 2 * (i * s) := by
        simp only [Int.mul_add, Int.add_mul, Int.mul_left_comm _ 2]
        omega
      rw [this]
      omega
theorem sgn_of {h k : Int} (e : h % 2 = k % 2) : sgn h = sgn k := by unfold sgn; rw [e]
theorem sgn_add (h k : Int) : sgn (h + k) = sgn h * sgn k := by
  unfold sgn
  rcases (show h % 2 = 0 ∨ h % 2 = 1 by omega) with e | e <;> rcases (show k % 2 = 0 ∨ k % 2 = 1 by omega) with f | f
  · rw [if_pos (by omega), if_pos e, if_pos f]; rfl
  · rw [if_neg (by omega), if_pos e, if_neg (by omega)]; rfl
  · rw [if_neg (by omega), if_neg (by omega), if_pos f]; rfl
  · rw [if_pos (by omega), if_neg (by omega), if_neg (by omega)]; rfl
end Go.Proofs.Ytjhheemppoeecaa
