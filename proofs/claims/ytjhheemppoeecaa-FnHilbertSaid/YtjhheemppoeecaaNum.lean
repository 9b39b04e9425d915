/- Plain arithmetic: how often a number divides another one, the factors of a number, powers, Hilbert symbols: the functions that both sides compute. No Go in sight. -/
import Derived.Lib.Hide
namespace Go.Proofs.Ytjhheemppoeecaa

/-- how often p divides a, and what is left -/
def expoF : Nat → Int → Int → Nat
  | 0, _, _ => 0
  | f + 1, a, p => if a.tmod p = 0 then expoF f (a.tdiv p) p + 1 else 0
def cofF : Nat → Int → Int → Int
  | 0, a, _ => a
  | f + 1, a, p => if a.tmod p = 0 then cofF f (a.tdiv p) p else a
def expo (a p : Int) : Nat := expoF a.natAbs a p
def cof (a p : Int) : Int := cofF a.natAbs a p

theorem tdiv_lt {a p : Int} (ha : a ≠ 0) (hp : 2 ≤ p) (h : a.tmod p = 0) : (a.tdiv p).natAbs < a.natAbs ∧ a.tdiv p ≠ 0 ∧ a = p * a.tdiv p := by
  have h1 : p * a.tdiv p = a := by have := Int.mul_tdiv_add_tmod a p; omega
  have h0 : a.tdiv p ≠ 0 := fun e => by rw [e] at h1; simp at h1; exact ha h1.symm
  refine ⟨?_, h0, h1.symm⟩
  have h2 : a.natAbs = p.natAbs * (a.tdiv p).natAbs := by rw [← Int.natAbs_mul, h1]
  have h3 : 0 < (a.tdiv p).natAbs := by omega
  have h4 : 2 ≤ p.natAbs := by omega
  rw [h2]
  calc (a.tdiv p).natAbs < 2 * (a.tdiv p).natAbs := by omega
    _ ≤ p.natAbs * (a.tdiv p).natAbs := Nat.mul_le_mul_right _ h4
theorem expoF_more {p : Int} (hp : 2 ≤ p) : ∀ (f g : Nat) (a : Int), a ≠ 0 → a.natAbs ≤ f → a.natAbs ≤ g → expoF f a p = expoF g a p ∧ cofF f a p = cofF g a p := by
  intro f
  induction f with
  | zero => intro g a ha h1 _; omega
  | succ f ih =>
    intro g a ha h1 h2
    cases g with
    | zero => omega
    | succ g =>
      unfold expoF cofF
      by_cases h : a.tmod p = 0
      · obtain ⟨h3, h4, _⟩ := tdiv_lt ha hp h
        have := ih g _ h4 (by omega) (by omega)
        rw [if_pos h, if_pos h, if_pos h, if_pos h, this.1, this.2]
        exact ⟨rfl, rfl⟩
      · rw [if_neg h, if_neg h, if_neg h, if_neg h]
        exact ⟨rfl, rfl⟩
theorem expo_yes {a p : Int} (ha : a ≠ 0) (hp : 2 ≤ p) (h : a.tmod p = 0) : expo a p = expo (a.tdiv p) p + 1 ∧ cof a p = cof (a.tdiv p) p := by
  obtain ⟨h3, h4, _⟩ := tdiv_lt ha hp h
  obtain ⟨f, hf⟩ : ∃ f, a.natAbs = f + 1 := ⟨a.natAbs - 1, by omega⟩
  have := expoF_more hp f (a.tdiv p).natAbs (a.tdiv p) h4 (by omega) (Nat.le_refl _)
  unfold expo cof
  rw [hf, show expoF (f + 1) a p = if a.tmod p = 0 then expoF f (a.tdiv p) p + 1 else 0 from rfl, show cofF (f + 1) a p = if a.tmod p = 0 then cofF f (a.tdiv p) p else a from rfl,
    if_pos h, if_pos h, this.1, this.2]
  exact ⟨rfl, rfl⟩
theorem expo_no {a p : Int} (h : a.tmod p ≠ 0) : expo a p = 0 ∧ cof a p = a := by
  unfold expo cof
  cases a.natAbs with
  | zero => exact ⟨rfl, rfl⟩
  | succ f => unfold expoF cofF; rw [if_neg h, if_neg h]; exact ⟨rfl, rfl⟩
/-- an induction along the divisions -/
theorem expo_ind {p : Int} (hp : 2 ≤ p) (Q : Int → Prop) (no : ∀ a, a ≠ 0 → a.tmod p ≠ 0 → Q a) (yes : ∀ a, a ≠ 0 → a.tmod p = 0 → Q (a.tdiv p) → Q a) : ∀ a, a ≠ 0 → Q a := by
  intro a
  generalize hn : a.natAbs = n
  induction n using Nat.strongRecOn generalizing a with
  | _ n ih =>
    intro ha
    by_cases h : a.tmod p = 0
    · obtain ⟨h3, h4, _⟩ := tdiv_lt ha hp h
      exact yes a ha h (ih _ (by omega) _ rfl h4)
    · exact no a ha h
theorem expo_spec {a p : Int} (ha : a ≠ 0) (hp : 2 ≤ p) : a = cof a p * p ^ expo a p ∧ (cof a p).tmod p ≠ 0 ∧ cof a p ≠ 0 := by
  refine expo_ind hp (fun a => a = cof a p * p ^ expo a p ∧ (cof a p).tmod p ≠ 0 ∧ cof a p ≠ 0) ?_ ?_ a ha
  · intro a h0 h
    rw [(expo_no h).1, (expo_no h).2]
    exact ⟨by simp, h, h0⟩
  · intro a h0 h ih
    obtain ⟨_, _, h5⟩ := tdiv_lt h0 hp h
    rw [(expo_yes h0 hp h).1, (expo_yes h0 hp h).2]
    refine ⟨?_, ih.2⟩
    rw [Int.pow_succ, ← Int.mul_assoc, ← ih.1, Int.mul_comm]
    exact h5
theorem expo_le {a p : Int} (ha : a ≠ 0) (hp : 2 ≤ p) : (2 : Nat) ^ expo a p ≤ a.natAbs ∧ (cof a p).natAbs ≤ a.natAbs := by
  refine expo_ind hp (fun a => (2 : Nat) ^ expo a p ≤ a.natAbs ∧ (cof a p).natAbs ≤ a.natAbs) ?_ ?_ a ha
  · intro a h0 h
    rw [(expo_no h).1, (expo_no h).2]
    exact ⟨by simp; omega, Nat.le_refl _⟩
  · intro a h0 h ih
    obtain ⟨h3, h4, h5⟩ := tdiv_lt h0 hp h
    rw [(expo_yes h0 hp h).1, (expo_yes h0 hp h).2]
    have h6 : a.natAbs = p.natAbs * (a.tdiv p).natAbs := by rw [← Int.natAbs_mul, ← h5]
    refine ⟨?_, by omega⟩
    rw [Nat.pow_succ, h6, Nat.mul_comm]
    exact Nat.mul_le_mul (by omega) ih.1
theorem expo_20 {a p : Int} (ha : a ≠ 0) (hp : 2 ≤ p) (h : a.natAbs ≤ 1000000) : expo a p ≤ 19 := by
  have := (expo_le ha hp).1
  rcases Nat.lt_or_ge (expo a p) 20 with h1 | h1
  · omega
  · have h2 := Nat.pow_le_pow_right (n := 2) (by omega) h1
    omega

/-- the factors of n from p on -/
def facF : Nat → Int → Int → List Int
  | 0, _, _ => []
  | f + 1, p, n => if p * p ≤ n then List.replicate (expo n p) p ++ facF f (p + 1) (cof n p) else if 1 < n then [n] else []
/-- enough fuel: one round more than there are numbers from p to n -/
def facs (p n : Int) : List Int := facF (n.toNat + 1) p n
theorem cof_pos {n p : Int} (hn : 0 < n) (hp : 2 ≤ p) : 0 < cof n p := by
  refine (expo_ind hp (fun a => 0 < a → 0 < cof a p) ?_ ?_ n (by omega)) hn
  · intro a h0 h ha; rw [(expo_no h).2]; exact ha
  · intro a h0 h ih ha
    rw [(expo_yes h0 hp h).2]
    refine ih ?_
    obtain ⟨_, h4, h5⟩ := tdiv_lt h0 hp h
    have : 0 ≤ a.tdiv p := Int.tdiv_nonneg (by omega) (by omega)
    omega
theorem cof_le {n p : Int} (hn : 0 < n) (hp : 2 ≤ p) : cof n p ≤ n := by
  have h1 := (expo_le (a := n) (p := p) (by omega) hp).2
  have h2 := cof_pos hn hp
  omega
theorem facF_more : ∀ (f g : Nat) (p n : Int), 2 ≤ p → 0 < n → (n + 1 - p).toNat < f → (n + 1 - p).toNat < g → facF f p n = facF g p n := by
  intro f
  induction f with
  | zero => intro g p n _ _ h _; omega
  | succ f ih =>
    intro g p n hp hn h1 h2
    cases g with
    | zero => omega
    | succ g =>
      unfold facF
      by_cases h : p * p ≤ n
      · have hpn : p ≤ n := by
          have : p * 1 ≤ p * p := Int.mul_le_mul_of_nonneg_left (by omega) (by omega)
          omega
        have h3 := cof_pos hn hp
        have h4 := cof_le hn hp
        rw [if_pos h, if_pos h, ih g (p + 1) (cof n p) (by omega) h3 (by omega) (by omega)]
      · rw [if_neg h, if_neg h]
theorem facs_eq {p n : Int} (hp : 2 ≤ p) (hn : 0 < n) : facs p n = if p * p ≤ n then List.replicate (expo n p) p ++ facs (p + 1) (cof n p) else if 1 < n then [n] else [] := by
  have h3 := cof_pos hn hp
  have h4 := cof_le hn hp
  unfold facs
  rw [show n.toNat + 1 = n.toNat.succ from rfl]
  conv => lhs; unfold facF
  by_cases h : p * p ≤ n
  · have hpn : p ≤ n := by
      have : p * 1 ≤ p * p := Int.mul_le_mul_of_nonneg_left (by omega) (by omega)
      omega
    rw [if_pos h, if_pos h, facF_more _ ((cof n p).toNat + 1) (p + 1) (cof n p) (by omega) h3 (by omega) (by omega)]
  · rw [if_neg h, if_neg h]
/-- every factor is at least p, at most n -/
theorem facs_mem : ∀ (f : Nat) (p n : Int), 2 ≤ p → 0 < n → (n + 1 - p).toNat < f → (∀ d, 2 ≤ d → d < p → n.tmod d ≠ 0) → ∀ q ∈ facF f p n, 2 ≤ q ∧ q ≤ n := by
  intro f
  induction f with
  | zero => intro p n _ _ _ _ q hq; simp [facF] at hq
  | succ f ih =>
    intro p n hp hn h1 h2 q hq
    unfold facF at hq
    by_cases h : p * p ≤ n
    · have hpn : p ≤ n := by
        have : p * 1 ≤ p * p := Int.mul_le_mul_of_nonneg_left (by omega) (by omega)
        omega
      have h3 := cof_pos hn hp
      have h4 := cof_le hn hp
      rw [if_pos h] at hq
      rcases List.mem_append.1 hq with hq | hq
      · have := List.eq_of_mem_replicate hq
        omega
      · have hs := expo_spec (a := n) (p := p) (by omega) hp
        have := ih (p + 1) (cof n p) (by omega) h3 (by omega) (fun d hd1 hd2 => ?_) q hq
        · omega
        · by_cases e : d = p
          · subst e; exact hs.2.1
          · intro hd
            refine h2 d hd1 (by omega) ?_
            have hdv : d ∣ cof n p := Int.dvd_of_tmod_eq_zero hd
            rw [hs.1]
            exact Int.tmod_eq_zero_of_dvd (Int.dvd_trans hdv (Int.dvd_mul_right _ _))
    · rw [if_neg h] at hq
      by_cases h' : 1 < n
      · rw [if_pos h'] at hq
        simp at hq
        omega
      · rw [if_neg h'] at hq
        simp at hq
theorem facs_ge {n q : Int} (hn : 0 < n) (hq : q ∈ facs 2 n) : 2 ≤ q ∧ q ≤ n :=
  facs_mem _ 2 n (by omega) hn (by omega) (fun d h1 h2 => by omega) q hq
end Go.Proofs.Ytjhheemppoeecaa
