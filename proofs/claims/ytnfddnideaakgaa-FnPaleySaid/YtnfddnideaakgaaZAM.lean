/- Plain arithmetic: prime numbers by trial, powers, Hilbert symbols: the functions that both sides compute, and that the two ways agree. No Go in sight. -/
import Derived.Test.YtnfddnideaakgaaZAL
set_option linter.unusedVariables false
set_option linter.unusedSimpArgs false
namespace Go.Proofs.Ytnfddnideaakgaa

/-- no number from d on, whose square is at most n, divides n -/
def noDivF : Nat → Int → Int → Bool
  | 0, _, _ => true
  | f + 1, d, n => if d * d ≤ n then (if n % d = 0 then false else noDivF f (d + 1) n) else true
def noDiv (d n : Int) : Bool := noDivF (n.toNat + 1) d n
theorem noDivF_more : ∀ (f g : Nat) (d n : Int), 2 ≤ d → (n + 1 - d).toNat < f → (n + 1 - d).toNat < g → noDivF f d n = noDivF g d n := by
  intro f
  induction f with
  | zero => intro g d n _ h _; omega
  | succ f ih =>
    intro g d n hd h1 h2
    cases g with
    | zero => omega
    | succ g =>
      unfold noDivF
      by_cases h : d * d ≤ n
      · have hpn : d ≤ n := by
          have : d * 1 ≤ d * d := Int.mul_le_mul_of_nonneg_left (by omega) (by omega)
          omega
        rw [if_pos h, if_pos h, ih g (d + 1) n (by omega) (by omega) (by omega)]
      · rw [if_neg h, if_neg h]
theorem noDiv_eq {d n : Int} (hd : 2 ≤ d) : noDiv d n = if d * d ≤ n then (if n % d = 0 then false else noDiv (d + 1) n) else true := by
  unfold noDiv
  conv => lhs; unfold noDivF
  by_cases h : d * d ≤ n
  · have hpn : d ≤ n := by
      have : d * 1 ≤ d * d := Int.mul_le_mul_of_nonneg_left (by omega) (by omega)
      omega
    rw [if_pos h, if_pos h, noDivF_more _ (n.toNat + 1) (d + 1) n (by omega) (by omega) (by omega)]
  · rw [if_neg h, if_neg h]
theorem tmod_emod {n d : Int} (hn : 0 ≤ n) : n.tmod d = n % d := Int.tmod_eq_emod_of_nonneg hn
theorem facs_ne {p n : Int} (hp : 2 ≤ p) (hn : 1 < n) : facs p n ≠ [] := by
  generalize hk : (n + 1 - p).toNat = k
  induction k using Nat.strongRecOn generalizing p n with
  | _ k ih =>
    rw [facs_eq hp (by omega)]
    by_cases h : p * p ≤ n
    · have hpn : p ≤ n := by
        have : p * 1 ≤ p * p := Int.mul_le_mul_of_nonneg_left (by omega) (by omega)
        omega
      rw [if_pos h]
      by_cases hd : n.tmod p = 0
      · rw [(expo_yes (by omega) hp hd).1, List.replicate_succ]
        simp
      · rw [(expo_no hd).1, (expo_no hd).2]
        simpa using ih _ (by omega) (by omega) hn rfl
    · rw [if_neg h, if_pos hn]
      simp
/-- prime by trial is prime by factors -/
theorem noDiv_facs {p n : Int} (hp : 2 ≤ p) (hn : 1 < n) : noDiv p n = decide ((facs p n).length = 1) := by
  generalize hk : (n + 1 - p).toNat = k
  induction k using Nat.strongRecOn generalizing p n with
  | _ k ih =>
    rw [facs_eq hp (by omega), noDiv_eq hp]
    by_cases h : p * p ≤ n
    · have hpn : p ≤ n := by
        have : p * 1 ≤ p * p := Int.mul_le_mul_of_nonneg_left (by omega) (by omega)
        omega
      rw [if_pos h, if_pos h]
      by_cases hd : n.tmod p = 0
      · rw [if_pos (by rw [← tmod_emod (by omega)]; exact hd), (expo_yes (by omega) hp hd).1, (expo_yes (by omega) hp hd).2]
        obtain ⟨_, h4, h5⟩ := tdiv_lt (a := n) (p := p) (by omega) hp hd
        have hm : 0 ≤ n.tdiv p := Int.tdiv_nonneg (by omega) (by omega)
        have hge : p ≤ n.tdiv p := by
          have : p * p ≤ p * n.tdiv p := by omega
          exact Int.le_of_mul_le_mul_left this (by omega)
        symm
        simp only [decide_eq_false_iff_not, List.length_append, List.length_replicate]
        by_cases he : expo (n.tdiv p) p = 0
        · have h6 : cof (n.tdiv p) p = n.tdiv p := by
            by_cases h7 : (n.tdiv p).tmod p = 0
            · have := (expo_yes (by omega) hp h7).1
              omega
            · exact (expo_no h7).2
          have h8 := facs_ne (p := p + 1) (n := n.tdiv p) (by omega) (by omega)
          rw [h6]
          intro h9
          have : (facs (p + 1) (n.tdiv p)).length = 0 := by omega
          exact h8 (List.eq_nil_of_length_eq_zero this)
        · omega
      · rw [if_neg (by rw [← tmod_emod (by omega)]; exact hd), (expo_no hd).1, (expo_no hd).2]
        simpa using ih _ (by omega) (by omega) hn rfl
    · rw [if_neg h, if_neg h, if_pos hn]
      rfl
/-- no number below q divides a factor q -/
theorem facF_prime : ∀ (f : Nat) (p n : Int), 2 ≤ p → 0 < n → (n + 1 - p).toNat < f → (∀ d, 2 ≤ d → d < p → n.tmod d ≠ 0) → ∀ q ∈ facF f p n, ∀ d, 2 ≤ d → d < q → q.tmod d ≠ 0 := by
  intro f
  induction f with
  | zero => intro p n _ _ _ _ q hq; simp [facF] at hq
  | succ f ih =>
    intro p n hp hn h1 h2 q hq d hd1 hd2
    unfold facF at hq
    by_cases h : p * p ≤ n
    · have hpn : p ≤ n := by
        have : p * 1 ≤ p * p := Int.mul_le_mul_of_nonneg_left (by omega) (by omega)
        omega
      have h3 := cof_pos hn hp
      have h4 := cof_le hn hp
      have hs := expo_spec (a := n) (p := p) (by omega) hp
      rw [if_pos h] at hq
      rcases List.mem_append.1 hq with hq | hq
      · have e := List.eq_of_mem_replicate hq
        subst e
        intro hdq
        have hne : expo n q ≠ 0 := fun e0 => by rw [e0] at hq; simp at hq
        refine h2 d hd1 hd2 ?_
        have hqn : q ∣ n := by
          rw [hs.1]
          obtain ⟨k, hk⟩ : ∃ k, expo n q = k + 1 := ⟨expo n q - 1, by omega⟩
          rw [hk, Int.pow_succ, ← Int.mul_assoc]
          exact Int.dvd_mul_left _ _
        exact Int.tmod_eq_zero_of_dvd (Int.dvd_trans (Int.dvd_of_tmod_eq_zero hdq) hqn)
      · refine ih (p + 1) (cof n p) (by omega) h3 (by omega) (fun c hc1 hc2 => ?_) q hq d hd1 hd2
        by_cases e : c = p
        · subst e; exact hs.2.1
        · intro hc
          refine h2 c hc1 (by omega) ?_
          rw [hs.1]
          exact Int.tmod_eq_zero_of_dvd (Int.dvd_trans (Int.dvd_of_tmod_eq_zero hc) (Int.dvd_mul_right _ _))
    · rw [if_neg h] at hq
      by_cases h' : 1 < n
      · rw [if_pos h'] at hq
        simp at hq
        subst hq
        by_cases hdp : d < p
        · exact h2 d hd1 hdp
        · intro hdq
          obtain ⟨_, h6, h7⟩ := tdiv_lt (a := q) (p := d) (by omega) hd1 hdq
          have h8 : 0 ≤ q.tdiv d := Int.tdiv_nonneg (by omega) (by omega)
          have h9 : q.tdiv d < p := by
            rcases (show q.tdiv d < p ∨ p ≤ q.tdiv d by omega) with h9 | h9
            · exact h9
            · exfalso
              have a1 : p * p ≤ p * q.tdiv d := Int.mul_le_mul_of_nonneg_left h9 (by omega)
              have a2 : p * q.tdiv d ≤ d * q.tdiv d := Int.mul_le_mul_of_nonneg_right (by omega) h8
              omega
          have h10 : 2 ≤ q.tdiv d := by
            rcases (show q.tdiv d < 2 ∨ 2 ≤ q.tdiv d by omega) with h10 | h10
            · have : q.tdiv d = 1 := by omega
              rw [this] at h7; omega
            · exact h10
          refine h2 (q.tdiv d) h10 h9 ?_
          refine Int.tmod_eq_zero_of_dvd ⟨d, ?_⟩
          rw [Int.mul_comm]; exact h7
      · rw [if_neg h'] at hq
        simp at hq
def Prime (q : Int) : Prop := 2 ≤ q ∧ ∀ d, 2 ≤ d → d < q → q.tmod d ≠ 0
theorem facs_prime {n q : Int} (hn : 0 < n) (hq : q ∈ facs 2 n) : Prime q :=
  ⟨(facs_ge hn hq).1, facF_prime _ 2 n (by omega) hn (by omega) (fun d h1 h2 => by omega) q hq⟩
theorem Prime.odd {q : Int} (h : Prime q) : q = 2 ∨ (3 ≤ q ∧ q % 2 = 1) := by
  by_cases h2 : q = 2
  · exact .inl h2
  · have := h.1
    have h3 := h.2 2 (by omega) (by omega)
    rw [tmod_emod (by omega)] at h3
    exact .inr ⟨by omega, by omega⟩
theorem noDiv_prime : ∀ (f : Nat) (d n : Int), 2 ≤ d → 1 < n → (n + 1 - d).toNat < f → noDivF f d n = true → (∀ c, 2 ≤ c → c < d → n.tmod c ≠ 0) → Prime n := by
  intro f
  induction f with
  | zero => intro d n _ _ h; omega
  | succ f ih =>
    intro d n hd hn h1 h2 h3
    unfold noDivF at h2
    by_cases h : d * d ≤ n
    · have hpn : d ≤ n := by
        have : d * 1 ≤ d * d := Int.mul_le_mul_of_nonneg_left (by omega) (by omega)
        omega
      rw [if_pos h] at h2
      by_cases h4 : n % d = 0
      · rw [if_pos h4] at h2; cases h2
      · rw [if_neg h4] at h2
        refine ih (d + 1) n (by omega) hn (by omega) h2 fun c hc1 hc2 => ?_
        by_cases e : c = d
        · subst e; rw [tmod_emod (by omega)]; exact h4
        · exact h3 c hc1 (by omega)
    · refine ⟨by omega, fun c hc1 hc2 => ?_⟩
      by_cases hdp : c < d
      · exact h3 c hc1 hdp
      · intro hdq
        obtain ⟨_, h6, h7⟩ := tdiv_lt (a := n) (p := c) (by omega) hc1 hdq
        have h8 : 0 ≤ n.tdiv c := Int.tdiv_nonneg (by omega) (by omega)
        have h9 : n.tdiv c < d := by
          rcases (show n.tdiv c < d ∨ d ≤ n.tdiv c by omega) with h9 | h9
          · exact h9
          · exfalso
            have a1 : d * d ≤ d * n.tdiv c := Int.mul_le_mul_of_nonneg_left h9 (by omega)
            have a2 : d * n.tdiv c ≤ c * n.tdiv c := Int.mul_le_mul_of_nonneg_right (by omega) h8
            omega
        have h10 : 2 ≤ n.tdiv c := by
          rcases (show n.tdiv c < 2 ∨ 2 ≤ n.tdiv c by omega) with h10 | h10
          · have : n.tdiv c = 1 := by omega
            rw [this] at h7; omega
          · exact h10
        refine h3 (n.tdiv c) h10 h9 ?_
        refine Int.tmod_eq_zero_of_dvd ⟨c, ?_⟩
        rw [Int.mul_comm]; exact h7
theorem prime_of_noDiv {n : Int} (hn : 1 < n) (h : noDiv 2 n = true) : Prime n :=
  noDiv_prime _ 2 n (by omega) hn (by omega) h (fun c h1 h2 => by omega)

theorem facF_len : ∀ (f : Nat) (p n : Int), 2 ≤ p → 0 < n → (n + 1 - p).toNat < f → ((2 : Nat) ^ (facF f p n).length) ≤ n.toNat := by
  intro f
  induction f with
  | zero => intro p n _ _ h; omega
  | succ f ih =>
    intro p n hp hn h1
    unfold facF
    by_cases h : p * p ≤ n
    · have hpn : p ≤ n := by
        have : p * 1 ≤ p * p := Int.mul_le_mul_of_nonneg_left (by omega) (by omega)
        omega
      have h3 := cof_pos hn hp
      have h4 := cof_le hn hp
      have h5 := ih (p + 1) (cof n p) (by omega) h3 (by omega)
      have hs := (expo_spec (a := n) (p := p) (by omega) hp).1
      rw [if_pos h, List.length_append, List.length_replicate, Nat.pow_add]
      have h6 : n.toNat = (cof n p).toNat * p.toNat ^ expo n p := by
        have e1 : ((p.toNat ^ expo n p : Nat) : Int) = p ^ expo n p := by rw [Int.natCast_pow, Int.toNat_of_nonneg (by omega)]
        have e2 : (((cof n p).toNat * p.toNat ^ expo n p : Nat) : Int) = n := by rw [Int.natCast_mul, e1, Int.toNat_of_nonneg (by omega)]; exact hs.symm
        omega
      rw [h6, Nat.mul_comm]
      exact Nat.mul_le_mul h5 (Nat.pow_le_pow_left (by omega) _)
    · rw [if_neg h]
      split
      · simp; omega
      · simp; omega
theorem facs_len {n : Int} (hn : 0 < n) (h : n ≤ 1000000) : (facs 2 n).length ≤ 19 := by
  have := facF_len _ 2 n (by omega) hn (show (n + 1 - 2).toNat < n.toNat + 1 by omega)
  unfold facs
  rcases Nat.lt_or_ge (facF (n.toNat + 1) 2 n).length 20 with h1 | h1
  · omega
  · have h2 := Nat.pow_le_pow_right (n := 2) (by omega) h1
    omega
theorem sq_bd {p m : Int} (hp : 0 ≤ p) (h : p * p ≤ m) (hm : m ≤ 1000000) : p ≤ 1000 := by
  rcases (show p ≤ 1000 ∨ 1001 ≤ p by omega) with h1 | h1
  · exact h1
  · have : 1001 * 1001 ≤ p * p := Int.mul_le_mul h1 h1 (by omega) (by omega)
    omega
/-- powers by squaring -/
def powF : Nat → Int → Int → Int → Int → Int
  | 0, o, _, _, _ => o
  | f + 1, o, a, e, m => if 0 < e then powF f (if e % 2 = 1 then o * a % m else o) (a * a % m) (e / 2) m else o
def pw (o a e m : Int) : Int := powF (e.toNat + 1) o a e m
theorem powF_more : ∀ (f g : Nat) (o a e m : Int), e.toNat < f → e.toNat < g → powF f o a e m = powF g o a e m := by
  intro f
  induction f with
  | zero => intro g o a e m h _; omega
  | succ f ih =>
    intro g o a e m h1 h2
    cases g with
    | zero => omega
    | succ g =>
      unfold powF
      by_cases h : 0 < e
      · rw [if_pos h, if_pos h, ih g _ _ (e / 2) m (by omega) (by omega)]
      · rw [if_neg h, if_neg h]
theorem pw_step {o a e m : Int} (h : 0 < e) : pw o a e m = pw (if e % 2 = 1 then o * a % m else o) (a * a % m) (e / 2) m := by
  unfold pw
  conv => lhs; unfold powF
  rw [if_pos h]
  exact powF_more _ _ _ _ _ _ (by omega) (by omega)
theorem pw_done {o a e m : Int} (h : ¬ 0 < e) : pw o a e m = o := by
  unfold pw powF
  rw [if_neg h]

/-- the residue as the program takes it -/
def md (a m : Int) : Int := (a.tmod m + m) % m
def leg (u p : Int) : Int := if pw 1 (md u p) ((p - 1) / 2) p = 1 then 0 else 1
def fl (b : Bool) : Int := if b then 1 else 0
def thr (x : Int) : Int := fl (md x 4 == 3)
def mid (x : Int) : Int := fl (decide (3 ≤ md x 8) && decide (md x 8 ≤ 5))
/-- the exponent of -1 in the symbol -/
def hv (a b p : Int) : Int :=
  if p = 0 then fl (decide (a < 0) && decide (b < 0))
  else if 2 < p then (expo a p : Int) * expo b p * ((p - 1) / 2) + expo b p * leg (cof a p) p + expo a p * leg (cof b p) p
  else thr (cof a p) * thr (cof b p) + expo a p * mid (cof b p) + expo b p * mid (cof a p)
def sgn (h : Int) : Int := if h % 2 = 0 then 1 else -1
theorem leg_01 (u p : Int) : leg u p = 0 ∨ leg u p = 1 := by unfold leg; split <;> simp
theorem fl_01 (b : Bool) : fl b = 0 ∨ fl b = 1 := by cases b <;> simp [fl]

/-- the reference's way at an odd prime number -/
def oddS (i j : Nat) (u w p : Int) : Int :=
  let o := if (i % 2 == 1 && j % 2 == 1 && p % 4 == 3) then -1 else 1
  let o := if j % 2 == 1 then o * (if leg u p = 0 then 1 else -1) else o
  if i % 2 == 1 then o * (if leg w p = 0 then 1 else -1) else o
theorem odd_agree (i j : Nat) (u w p : Int) (hp : p % 2 = 1) : oddS i j u w p = sgn ((i : Int) * j * ((p - 1) / 2) + j * leg u p + i * leg w p) := by
  have e3 : (p - 1) / 2 % 2 = if p % 4 = 3 then 1 else 0 := by split <;> omega
  have key : ((i : Int) * j * ((p - 1) / 2) + j * leg u p + i * leg w p) % 2 = ((i : Int) % 2 * ((j : Int) % 2) * ((p - 1) / 2 % 2) + (j : Int) % 2 * (leg u p % 2) + (i : Int) % 2 * (leg w p % 2)) % 2 := by
    simp [Int.add_emod, Int.mul_emod]
  unfold sgn oddS
  rw [key, e3]
  have hi : i % 2 = 0 ∨ i % 2 = 1 := by omega
  have hj : j % 2 = 0 ∨ j % 2 = 1 := by omega
  have hi' : (i : Int) % 2 = ((i % 2 : Nat) : Int) := by omega
  have hj' : (j : Int) % 2 = ((j % 2 : Nat) : Int) := by omega
  rw [hi', hj']
  have h4 : p % 4 = 1 ∨ p % 4 = 3 := by omega
  rcases hi with hi | hi <;> rcases hj with hj | hj <;> rcases h4 with h4 | h4 <;> rcases leg_01 u p with hu | hu <;> rcases leg_01 w p with hw | hw <;> simp [hi, hj, h4, hu, hw]
end Go.Proofs.Ytnfddnideaakgaa
