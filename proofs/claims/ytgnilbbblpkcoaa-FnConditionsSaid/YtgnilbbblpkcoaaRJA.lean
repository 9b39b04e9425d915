/- Plain arithmetic: how often a number divides another one, the factors of a number, powers, Hilbert symbols: the functions that both sides compute. No Go in sight. -/
import Derived.Test.YtgnilbbblpkcoaaRGB
set_option linter.unusedVariables false
set_option linter.unusedSimpArgs false
namespace Go.Proofs.Ytgnilbbblpkcoaa
def expoF : Nat → Int → Int → Nat
  | 0, _, _ => 0
  | f + 1, a, p => if a.tmod p = 0 then expoF f (a.tdiv p) p + 1 else 0
def cofF : Nat → Int → Int → Int
  | 0, a, _ => a
  | f + 1, a, p => if a.tmod p = 0 then cofF f (a.tdiv p) p else a
def expo (a p : Int) : Nat := expoF a.natAbs a p
def cof (a p : Int) : Int := cofF a.natAbs a p
theorem tdiv_lt {a p : Int} (ha : a ≠ 0) (hp : 2 ≤ p) (h : a.tmod p = 0) : (a.tdiv p).natAbs < a.natAbs ∧ a.tdiv p ≠ 0 ∧ a = p * a.tdiv p := by
  have h1 : p * a.tdiv p = a := by have := Int.mul_tdiv_add_tmod a p; omega
  have h0 : a.tdiv p ≠ 0 := fun e => by rw [e] at h1; simp at h1; exact ha h1.symm
  refine ⟨?_, h0, h1.symm⟩
  have h2 : a.natAbs = p.natAbs * (a.tdiv p).natAbs := by rw [← Int.natAbs_mul, h1]
  have h3 : 0 < (a.tdiv p).natAbs := by omega
  have h4 : 2 ≤ p.natAbs := by omega
  rw [h2]
  calc (a.tdiv p).natAbs < 2 * (a.tdiv p).natAbs := by omega
    _ ≤ p.natAbs * (a.tdiv p).natAbs := Nat.mul_le_mul_right _ h4
theorem expoF_more {p : Int} (hp : 2 ≤ p) : ∀ (f g : Nat) (a : Int), a ≠ 0 → a.natAbs ≤ f → a.natAbs ≤ g → expoF f a p = expoF g a p ∧ cofF f a p = cofF g a p := by
  intro f
  induction f with
  | zero => intro g a ha h1 _; omega
  | succ f ih =>
    intro g a ha h1 h2
    cases g with
    | zero => omega
    | succ g =>
      unfold expoF cofF
      by_cases h : a.tmod p = 0
      · obtain ⟨h3, h4, _⟩ := tdiv_lt ha hp h
        have := ih g _ h4 (by omega) (by omega)
        rw [if_pos h, if_pos h, if_pos h, if_pos h, this.1, this.2]
        exact ⟨rfl, rfl⟩
      · rw [if_neg h, if_neg h, if_neg h, if_neg h]
        exact ⟨rfl, rfl⟩
theorem expo_yes {a p : Int} (ha : a ≠ 0) (hp : 2 ≤ p) (h : a.tmod p = 0) : expo a p = expo (a.tdiv p) p + 1 ∧ cof a p = cof (a.tdiv p) p := by
  obtain ⟨h3, h4, _⟩ := tdiv_lt ha hp h
  obtain ⟨f, hf⟩ : ∃ f, a.natAbs = f + 1 := ⟨a.natAbs - 1, by omega⟩
  have := expoF_more hp f (a.tdiv p).natAbs (a.tdiv p) h4 (by omega) (Nat.le_refl _)
  unfold expo cof
  rw [hf, show expoF (f + 1) a p = if a.tmod p = 0 then expoF f (a.tdiv p) p + 1 else 0 from rfl, show cofF (f + 1) a p = if a.tmod p = 0 then cofF f (a.tdiv p) p else a from rfl,
    if_pos h, if_pos h, this.1, this.2]
  exact ⟨rfl, rfl⟩
theorem expo_no {a p : Int} (h : a.tmod p ≠ 0) : expo a p = 0 ∧ cof a p = a := by
  unfold expo cof
  cases a.natAbs with
  | zero => exact ⟨rfl, rfl⟩
  | succ f => unfold expoF cofF; rw [if_neg h, if_neg h]; exact ⟨rfl, rfl⟩
theorem expo_ind {p : Int} (hp : 2 ≤ p) (Q : Int → Prop) (no : ∀ a, a ≠ 0 → a.tmod p ≠ 0 → Q a) (yes : ∀ a, a ≠ 0 → a.tmod p = 0 → Q (a.tdiv p) → Q a) : ∀ a, a ≠ 0 → Q a := by
  intro a
  generalize hn : a.natAbs = n
  induction n using Nat.strongRecOn generalizing a with
  | _ n ih =>
    intro ha
    by_cases h : a.tmod p = 0
    · obtain ⟨h3, h4, _⟩ := tdiv_lt ha hp h
      exact yes a ha h (ih _ (by omega) _ rfl h4)
    · exact no a ha h
theorem expo_spec {a p : Int} (ha : a ≠ 0) (hp : 2 ≤ p) : a = cof a p * p ^ expo a p ∧ (cof a p).tmod p ≠ 0 ∧ cof a p ≠ 0 := by
  refine expo_ind hp (fun a => a = cof a p * p ^ expo a p ∧ (cof a p).tmod p ≠ 0 ∧ cof a p ≠ 0) ?_ ?_ a ha
  · intro a h0 h
    rw [(expo_no h).1, (expo_no h).2]
    exact ⟨by simp, h, h0⟩
  · intro a h0 h ih
    obtain ⟨_, _, h5⟩ := tdiv_lt h0 hp h
    rw [(expo_yes h0 hp h).1, (expo_yes h0 hp h).2]
    refine ⟨?_, ih.2⟩
    rw [Int.pow_succ, ← Int.mul_assoc, ← ih.1, Int.mul_comm]
    exact h5
theorem expo_le {a p : Int} (ha : a ≠ 0) (hp : 2 ≤ p) : (2 : Nat) ^ expo a p ≤ a.natAbs ∧ (cof a p).natAbs ≤ a.natAbs := by
  refine expo_ind hp (fun a => (2 : Nat) ^ expo a p ≤ a.natAbs ∧ (cof a p).natAbs ≤ a.natAbs) ?_ ?_ a ha
  · intro a h0 h
    rw [(expo_no h).1, (expo_no h).2]
    exact ⟨by simp; omega, Nat.le_refl _⟩
  · intro a h0 h ih
    obtain ⟨h3, h4, h5⟩ := tdiv_lt h0 hp h
    rw [(expo_yes h0 hp h).1, (expo_yes h0 hp h).2]
    have h6 : a.natAbs = p.natAbs * (a.tdiv p).natAbs := by rw [← Int.natAbs_mul, ← h5]
    refine ⟨?_, by omega⟩
    rw [Nat.pow_succ, h6, Nat.mul_comm]
    exact Nat.mul_le_mul (by omega) ih.1
theorem expo_20 {a p : Int} (ha : a ≠ 0) (hp : 2 ≤ p) (h : a.natAbs ≤ 1000000) : expo a p ≤ 19 := by
  have := (expo_le ha hp).1
  rcases Nat.lt_or_ge (expo a p) 20 with h1 | h1
  · omega
  · have h2 := Nat.pow_le_pow_right (n := 2) (by omega) h1
    omega
def facF : Nat → Int → Int → List Int
  | 0, _, _ => []
  | f + 1, p, n => if p * p ≤ n then List.replicate (expo n p) p ++ facF f (p + 1) (cof n p) else if 1 < n then [n] else []
def facs (p n : Int) : List Int := facF (n.toNat + 1) p n
theorem cof_pos {n p : Int} (hn : 0 < n) (hp : 2 ≤ p) : 0 < cof n p := by
  refine (expo_ind hp (fun a => 0 < a → 0 < cof a p) ?_ ?_ n (by omega)) hn
  · intro a h0 h ha; rw [(expo_no h).2]; exact ha
  · intro a h0 h ih ha
    rw [(expo_yes h0 hp h).2]
    refine ih ?_
    obtain ⟨_, h4, h5⟩ := tdiv_lt h0 hp h
    have : 0 ≤ a.tdiv p := Int.tdiv_nonneg (by omega) (by omega)
    omega
theorem cof_le {n p : Int} (hn : 0 < n) (hp : 2 ≤ p) : cof n p ≤ n := by
  have h1 := (expo_le (a := n) (p := p) (by omega) hp).2
  have h2 := cof_pos hn hp
  omega
theorem facF_more : ∀ (f g : Nat) (p n : Int), 2 ≤ p → 0 < n → (n + 1 - p).toNat < f → (n + 1 - p).toNat < g → facF f p n = facF g p n := by
  intro f
  induction f with
  | zero => intro g p n _ _ h _; omega
  | succ f ih =>
    intro g p n hp hn h1 h2
    cases g with
    | zero => omega
    | succ g =>
      unfold facF
      by_cases h : p * p ≤ n
      · have hpn : p ≤ n := by
          have : p * 1 ≤ p * p := Int.mul_le_mul_of_nonneg_left (by omega) (by omega)
          omega
        have h3 := cof_pos hn hp
        have h4 := cof_le hn hp
        rw [if_pos h, if_pos h, ih g (p + 1) (cof n p) (by omega) h3 (by omega) (by omega)]
      · rw [if_neg h, if_neg h]
theorem facs_eq {p n : Int} (hp : 2 ≤ p) (hn : 0 < n) : facs p n = if p * p ≤ n then List.replicate (expo n p) p ++ facs (p + 1) (cof n p) else if 1 < n then [n] else [] := by
  have h3 := cof_pos hn hp
  have h4 := cof_le hn hp
  unfold facs
  rw [show n.toNat + 1 = n.toNat.succ from rfl]
  conv => lhs; unfold facF
  by_cases h : p * p ≤ n
  · have hpn : p ≤ n := by
      have : p * 1 ≤ p * p := Int.mul_le_mul_of_nonneg_left (by omega) (by omega)
      omega
    rw [if_pos h, if_pos h, facF_more _ ((cof n p).toNat + 1) (p + 1) (cof n p) (by omega) h3 (by omega) (by omega)]
  · rw [if_neg h, if_neg h]
theorem facs_mem : ∀ (f : Nat) (p n : Int), 2 ≤ p → 0 < n → (n + 1 - p).toNat < f → (∀ d, 2 ≤ d → d < p → n.tmod d ≠ 0) → ∀ q ∈ facF f p n, 2 ≤ q ∧ q ≤ n := by
  intro f
  induction f with
  | zero => intro p n _ _ _ _ q hq; simp [facF] at hq
  | succ f ih =>
    intro p n hp hn h1 h2 q hq
    unfold facF at hq
    by_cases h : p * p ≤ n
    · have hpn : p ≤ n := by
        have : p * 1 ≤ p * p := Int.mul_le_mul_of_nonneg_left (by omega) (by omega)
        omega
      have h3 := cof_pos hn hp
      have h4 := cof_le hn hp
      rw [if_pos h] at hq
      rcases List.mem_append.1 hq with hq | hq
      · have := List.eq_of_mem_replicate hq
        omega
      · have hs := expo_spec (a := n) (p := p) (by omega) hp
        have := ih (p + 1) (cof n p) (by omega) h3 (by omega) (fun d hd1 hd2 => ?_) q hq
        · omega
        · by_cases e : d = p
          · subst e; exact hs.2.1
          · intro hd
            refine h2 d hd1 (by omega) ?_
            have hdv : d ∣ cof n p := Int.dvd_of_tmod_eq_zero hd
            rw [hs.1]
            exact Int.tmod_eq_zero_of_dvd (Int.dvd_trans hdv (Int.dvd_mul_right _ _))
    · rw [if_neg h] at hq
      by_cases h' : 1 < n
      · rw [if_pos h'] at hq
        simp at hq
        omega
      · rw [if_neg h'] at hq
        simp at hq
theorem facs_ge {n q : Int} (hn : 0 < n) (hq : q ∈ facs 2 n) : 2 ≤ q ∧ q ≤ n :=
  facs_mem _ 2 n (by omega) hn (by omega) (fun d h1 h2 => by omega) q hq
end Go.Proofs.Ytgnilbbblpkcoaa
namespace Go.Proofs.Ytgnilbbblpkcoaa
theorem tmod_emod {n d : Int} (hn : 0 ≤ n) : n.tmod d = n % d := Int.tmod_eq_emod_of_nonneg hn
theorem facs_ne {p n : Int} (hp : 2 ≤ p) (hn : 1 < n) : facs p n ≠ [] := by
  generalize hk : (n + 1 - p).toNat = k
  induction k using Nat.strongRecOn generalizing p n with
  | _ k ih =>
    rw [facs_eq hp (by omega)]
    by_cases h : p * p ≤ n
    · have hpn : p ≤ n := by
        have : p * 1 ≤ p * p := Int.mul_le_mul_of_nonneg_left (by omega) (by omega)
        omega
      rw [if_pos h]
      by_cases hd : n.tmod p = 0
      · rw [(expo_yes (by omega) hp hd).1, List.replicate_succ]
        simp
      · rw [(expo_no hd).1, (expo_no hd).2]
        simpa using ih _ (by omega) (by omega) hn rfl
    · rw [if_neg h, if_pos hn]
      simp
theorem facF_prime : ∀ (f : Nat) (p n : Int), 2 ≤ p → 0 < n → (n + 1 - p).toNat < f → (∀ d, 2 ≤ d → d < p → n.tmod d ≠ 0) → ∀ q ∈ facF f p n, ∀ d, 2 ≤ d → d < q → q.tmod d ≠ 0 := by
  intro f
  induction f with
  | zero => intro p n _ _ _ _ q hq; simp [facF] at hq
  | succ f ih =>
    intro p n hp hn h1 h2 q hq d hd1 hd2
    unfold facF at hq
    by_cases h : p * p ≤ n
    · have hpn : p ≤ n := by
        have : p * 1 ≤ p * p := Int.mul_le_mul_of_nonneg_left (by omega) (by omega)
        omega
      have h3 := cof_pos hn hp
      have h4 := cof_le hn hp
      have hs := expo_spec (a := n) (p := p) (by omega) hp
      rw [if_pos h] at hq
      rcases List.mem_append.1 hq with hq | hq
      · have e := List.eq_of_mem_replicate hq
        subst e
        intro hdq
        have hne : expo n q ≠ 0 := fun e0 => by rw [e0] at hq; simp at hq
        refine h2 d hd1 hd2 ?_
        have hqn : q ∣ n := by
          rw [hs.1]
          obtain ⟨k, hk⟩ : ∃ k, expo n q = k + 1 := ⟨expo n q - 1, by omega⟩
          rw [hk, Int.pow_succ, ← Int.mul_assoc]
          exact Int.dvd_mul_left _ _
        exact Int.tmod_eq_zero_of_dvd (Int.dvd_trans (Int.dvd_of_tmod_eq_zero hdq) hqn)
      · refine ih (p + 1) (cof n p) (by omega) h3 (by omega) (fun c hc1 hc2 => ?_) q hq d hd1 hd2
        by_cases e : c = p
        · subst e; exact hs.2.1
        · intro hc
          refine h2 c hc1 (by omega) ?_
          rw [hs.1]
          exact Int.tmod_eq_zero_of_dvd (Int.dvd_trans (Int.dvd_of_tmod_eq_zero hc) (Int.dvd_mul_right _ _))
    · rw [if_neg h] at hq
      by_cases h' : 1 < n
      · rw [if_pos h'] at hq
        simp at hq
        subst hq
        by_cases hdp : d < p
        · exact h2 d hd1 hdp
        · intro hdq
          obtain ⟨_, h6, h7⟩ := tdiv_lt (a := q) (p := d) (by omega) hd1 hdq
          have h8 : 0 ≤ q.tdiv d := Int.tdiv_nonneg (by omega) (by omega)
          have h9 : q.tdiv d < p := by
            rcases (show q.tdiv d < p ∨ p ≤ q.tdiv d by omega) with h9 | h9
            · exact h9
            · exfalso
              have a1 : p * p ≤ p * q.tdiv d := Int.mul_le_mul_of_nonneg_left h9 (by omega)
              have a2 : p * q.tdiv d ≤ d * q.tdiv d := Int.mul_le_mul_of_nonneg_right (by omega) h8
              omega
          have h10 : 2 ≤ q.tdiv d := by
            rcases (show q.tdiv d < 2 ∨ 2 ≤ q.tdiv d by omega) with h10 | h10
            · have : q.tdiv d = 1 := by omega
              rw [this] at h7; omega
            · exact h10
          refine h2 (q.tdiv d) h10 h9 ?_
          refine Int.tmod_eq_zero_of_dvd ⟨d, ?_⟩
          rw [Int.mul_comm]; exact h7
      · rw [if_neg h'] at hq
        simp at hq
def Prime (q : Int) : Prop := 2 ≤ q ∧ ∀ d, 2 ≤ d → d < q → q.tmod d ≠ 0
theorem facs_prime {n q : Int} (hn : 0 < n) (hq : q ∈ facs 2 n) : Prime q :=
  ⟨(facs_ge hn hq).1, facF_prime _ 2 n (by omega) hn (by omega) (fun d h1 h2 => by omega) q hq⟩
theorem facF_len : ∀ (f : Nat) (p n : Int), 2 ≤ p → 0 < n → (n + 1 - p).toNat < f → ((2 : Nat) ^ (facF f p n).length) ≤ n.toNat := by
  intro f
  induction f with
  | zero => intro p n _ _ h; omega
  | succ f ih =>
    intro p n hp hn h1
    unfold facF
    by_cases h : p * p ≤ n
    · have hpn : p ≤ n := by
        have : p * 1 ≤ p * p := Int.mul_le_mul_of_nonneg_left (by omega) (by omega)
        omega
      have h3 := cof_pos hn hp
      have h4 := cof_le hn hp
      have h5 := ih (p + 1) (cof n p) (by omega) h3 (by omega)
      have hs := (expo_spec (a := n) (p := p) (by omega) hp).1
      rw [if_pos h, List.length_append, List.length_replicate, Nat.pow_add]
      have h6 : n.toNat = (cof n p).toNat * p.toNat ^ expo n p := by
        have e1 : ((p.toNat ^ expo n p : Nat) : Int) = p ^ expo n p := by rw [Int.natCast_pow, Int.toNat_of_nonneg (by omega)]
        have e2 : (((cof n p).toNat * p.toNat ^ expo n p : Nat) : Int) = n := by rw [Int.natCast_mul, e1, Int.toNat_of_nonneg (by omega)]; exact hs.symm
        omega
      rw [h6, Nat.mul_comm]
      exact Nat.mul_le_mul h5 (Nat.pow_le_pow_left (by omega) _)
    · rw [if_neg h]
      split
      · simp; omega
      · simp; omega
theorem facs_len {n : Int} (hn : 0 < n) (h : n ≤ 1000000) : (facs 2 n).length ≤ 19 := by
  have := facF_len _ 2 n (by omega) hn (show (n + 1 - 2).toNat < n.toNat + 1 by omega)
  unfold facs
  rcases Nat.lt_or_ge (facF (n.toNat + 1) 2 n).length 20 with h1 | h1
  · omega
  · have h2 := Nat.pow_le_pow_right (n := 2) (by omega) h1
    omega
theorem sq_bd {p m : Int} (hp : 0 ≤ p) (h : p * p ≤ m) (hm : m ≤ 1000000) : p ≤ 1000 := by
  rcases (show p ≤ 1000 ∨ 1001 ≤ p by omega) with h1 | h1
  · exact h1
  · have : 1001 * 1001 ≤ p * p := Int.mul_le_mul h1 h1 (by omega) (by omega)
    omega
def powF : Nat → Int → Int → Int → Int → Int
  | 0, o, _, _, _ => o
  | f + 1, o, a, e, m => if 0 < e then powF f (if e % 2 = 1 then o * a % m else o) (a * a % m) (e / 2) m else o
def pw (o a e m : Int) : Int := powF (e.toNat + 1) o a e m
theorem powF_more : ∀ (f g : Nat) (o a e m : Int), e.toNat < f → e.toNat < g → powF f o a e m = powF g o a e m := by
  intro f
  induction f with
  | zero => intro g o a e m h _; omega
  | succ f ih =>
    intro g o a e m h1 h2
    cases g with
    | zero => omega
    | succ g =>
      unfold powF
      by_cases h : 0 < e
      · rw [if_pos h, if_pos h, ih g _ _ (e / 2) m (by omega) (by omega)]
      · rw [if_neg h, if_neg h]
theorem pw_step {o a e m : Int} (h : 0 < e) : pw o a e m = pw (if e % 2 = 1 then o * a % m else o) (a * a % m) (e / 2) m := by
  unfold pw
  conv => lhs; unfold powF
  rw [if_pos h]
  exact powF_more _ _ _ _ _ _ (by omega) (by omega)
theorem pw_done {o a e m : Int} (h : ¬ 0 < e) : pw o a e m = o := by
  unfold pw powF
  rw [if_neg h]
def md (a m : Int) : Int := (a.tmod m + m) % m
def leg (u p : Int) : Int := if pw 1 (md u p) ((p - 1) / 2) p = 1 then 0 else 1
def fl (b : Bool) : Int := if b then 1 else 0
def thr (x : Int) : Int := fl (md x 4 == 3)
def mid (x : Int) : Int := fl (decide (3 ≤ md x 8) && decide (md x 8 ≤ 5))
def hv (a b p : Int) : Int :=
  if p = 0 then fl (decide (a < 0) && decide (b < 0))
  else if 2 < p then (expo a p : Int) * expo b p * ((p - 1) / 2) + expo b p * leg (cof a p) p + expo a p * leg (cof b p) p
  else thr (cof a p) * thr (cof b p) + expo a p * mid (cof b p) + expo b p * mid (cof a p)
def sgn (h : Int) : Int := if h % 2 = 0 then 1 else -1
theorem leg_01 (u p : Int) : leg u p = 0 ∨ leg u p = 1 := by unfold leg; split <;> simp
theorem fl_01 (b : Bool) : fl b = 0 ∨ fl b = 1 := by cases b <;> simp [fl]
end Go.Proofs.Ytgnilbbblpkcoaa
namespace Go.Proofs.Ytgnilbbblpkcoaa
open Go.RowKit
theorem int_info' : (Try.prog.info? 2).map (fun i => (i.zero, i.size, i.bytes)) = some (some (.int .i64 0), 1, 8) := by kernel_rfl
def Mil (a : Int) : Prop := a ≠ 0 ∧ -1000000 ≤ a ∧ a ≤ 1000000
theorem Mil.div {a p : Int} (h : Mil a) (hp : 2 ≤ p) (hd : a.tmod p = 0) : Mil (a.tdiv p) := by
  obtain ⟨h1, h2, _⟩ := tdiv_lt h.1 hp hd
  obtain ⟨h3, h4, h5⟩ := h
  exact ⟨h2, by omega, by omega⟩
theorem Mil.expo {a p : Int} (h : Mil a) (hp : 2 ≤ p) : expo a p ≤ 19 := expo_20 h.1 hp (by obtain ⟨h3, h4, h5⟩ := h; omega)
theorem mul_bd' {a b A B : Int} (ha : 0 ≤ a) (hA : a ≤ A) (hb : 0 ≤ b) (hB : b ≤ B) : 0 ≤ a * b ∧ a * b ≤ A * B :=
  ⟨Int.mul_nonneg ha hb, Int.mul_le_mul hA hB hb (by omega)⟩
def facsOf (n : Int) : List Int := if inB n 1 1000000 then facs 2 n else []
set_option maxHeartbeats 1000000 in
theorem impl_FactorsOf (n : Int) (w : World) :
    Calls Try.prog 59 #[.int .i64 n] w (RetI w 2 (facsOf n)) := by
  by_cases h : inB n 1 1000000 = true
  · obtain ⟨n1, n2⟩ := inB_true h
    have hfl := facs_len (n := n) (by omega) n2
    have HF := Lib.hid (show facsOf n = facs 2 n by simp [facsOf, h])
    have hall : ∀ q ∈ facs 2 n, 2 ≤ q ∧ q ≤ n := fun q hq => facs_ge (by omega) hq
    have HA := Lib.hid hall; clear hall
    go_enter Try.func59, Try.ntmps59
    go_wp2_with (go_at_call 37; refine (within_any _ _ _ _).mono ?_; rintro e w' ⟨rfl, rfl⟩)
    go_loopw [0, 3, 4] (fun x v d wr => ∃ (m p : Int) (fs : List Int) (A : Option Addr) (k c : Nat), x = .int .i64 m ∧ d = .int .i64 p ∧ v = .slice A k c ∧ 1 ≤ m ∧ m ≤ 1000000 ∧ 2 ≤ p ∧ p ≤ 1001 ∧ fs ++ facs p m = facs 2 n ∧ OI wr w.heap.size 2 A k c fs ∧ Below w.heap.size w wr) (fun _ _ d _ => (1002 - intOf d).toNat)
    case atStart => exact ⟨n, 2, [], _, _, _, rfl, rfl, rfl, n1, n2, by omega, by omega, rfl, OI.nil_ _ _ _, Below.refl _ _⟩
    case round =>
      obtain ⟨m, p, fs, A, k, c, rfl, rfl, rfl, hm1, hm2, hp1, hp2, he, ho, hw⟩ := hrel
      have hmul := mul_bd' (a := p) (b := p) (A := 1001) (B := 1001) (by omega) hp2 (by omega) hp2
      have hmul1 := hmul.1
      have hmul2 := hmul.2
      clear hmul
      by_cases hsq : p * p ≤ m
      · have hp3 := sq_bd (by omega) hsq hm2
        have HE := Lib.hid (show fs ++ (List.replicate (expo m p) p ++ facs (p + 1) (cof m p)) = facs 2 n by rw [← he, facs_eq hp1 (by omega), if_pos hsq])
        clear he
        obtain ⟨wo, hwo⟩ : ∃ wo : World, wo = wr := ⟨_, rfl⟩
        subst hwo
        go_wp2
        go_loopw [0, 3] (fun x v wi => ∃ (b : Int) (gs : List Int) (A' : Option Addr) (k' c' : Nat), x = .int .i64 b ∧ v = .slice A' k' c' ∧ 1 ≤ b ∧ b ≤ 1000000 ∧ gs ++ (List.replicate (expo b p) p ++ facs (p + 1) (cof b p)) = facs 2 n ∧ OI wi w.heap.size 2 A' k' c' gs ∧ Below w.heap.size w wi) (fun x _ _ => (intOf x).natAbs)
        case atStart => exact ⟨m, fs, A, k, c, rfl, rfl, hm1, hm2, HE.out, ho, hw⟩
        case round =>
          clear hsq HE ho hw hmul1 hmul2 hm1 hm2
          rename_i wi _
          obtain ⟨b, gs, A', k', c', rfl, rfl, hb1, hb2, he', ho', hw'⟩ := hrel
          have hkl : k' ≤ 19 := by
            have h1 := ho'.len
            have h2 := congrArg List.length he'
            rw [List.length_append] at h2
            omega
          by_cases hd : b.tmod p = 0
          · have hy := expo_yes (a := b) (by omega) hp1 hd
            obtain ⟨hlt, hne, hprod⟩ := tdiv_lt (a := b) (by omega) hp1 hd
            have hq0 : 0 ≤ b.tdiv p := Int.tdiv_nonneg (by omega) (by omega)
            have hediv : b.tdiv p = b / p := Int.tdiv_eq_ediv_of_nonneg (by omega)
            have hdd : (b % p == 0) = true := by rw [← tmod_emod (by omega), hd]; rfl
            have HQ := Lib.hid (show (gs ++ [p]) ++ (List.replicate (expo (b / p) p) p ++ facs (p + 1) (cof (b / p) p)) = facs 2 n by
              rw [← he', ← hediv, hy.1, hy.2, List.replicate_succ]; simp)
            have hq1 : 1 ≤ b / p := by rw [← hediv]; omega
            have hq2 : b / p ≤ 1000000 := by rw [← hediv]; omega
            have hq3 : (b / p).natAbs < b.natAbs := by rw [← hediv]; exact hlt
            clear hy hlt hne hprod hq0 hediv hd he'
            go_wp2_with (at_builtin; refine wpList_app1 _ rfl (.tmp 19) (.tmp 21) 32 rfl 2 (.int .i64 0) 8 Try.underlying32 int_info' rfl (by omega) w.heap.size A' k' c' (ints gs) rfl ho'.os (.int .i64 p) rfl rfl (by omega) hw'.size ?_; intro A2 c2 w2 ho2 hg2 hn2)
            have hw2 := below_own hw' hg2 hw'.size (fun b hb => (ho'.os.lt hb).1)
            have ho3 := OI.snoc ho2 ho'.all (z := p) ⟨by omega, by omega⟩
            clear ho2 hg2 hn2 ho' hw'
            go_wp2
            go_roundw
            case rel => exact ⟨b / p, gs ++ [p], A2, k' + 1, c2, rfl, rfl, hq1, hq2, HQ.out, ho3, hw2⟩
            case measure => simpa [intOf] using hq3
          · have hdd : (b % p == 0) = false := by rw [← tmod_emod (by omega)]; simpa using hd
            have hy := expo_no hd
            have HQ := Lib.hid (show gs ++ facs (p + 1) b = facs 2 n by rw [← he', hy.1, hy.2]; simp)
            clear hy hd he'
            go_wp2
            go_roundw
            case rel => exact ⟨b, p + 1, gs, A', k', c', rfl, rfl, rfl, hb1, hb2, by omega, by omega, HQ.out, ho', hw'⟩
            case measure => simp [intOf]; omega
      · have hkl : k ≤ 19 := by
          have h1 := ho.len
          have h2 := congrArg List.length he
          rw [List.length_append] at h2
          omega
        by_cases hm : 1 < m
        · have HE := Lib.hid (show fs ++ [m] = facsOf n by rw [HF.out, ← he, facs_eq hp1 (by omega), if_neg hsq, if_pos hm])
          clear he
          go_wp2_with (at_builtin; refine wpList_app1 _ rfl (.tmp 28) (.tmp 30) 32 rfl 2 (.int .i64 0) 8 Try.underlying32 int_info' rfl (by omega) w.heap.size A k c (ints fs) rfl ho.os (.int .i64 m) rfl rfl (by omega) hw.size ?_; intro A2 c2 w2 ho2 hg2 hn2)
          have hw2 := below_own hw hg2 hw.size (fun b hb => (ho.os.lt hb).1)
          have ho3 := OI.snoc ho2 ho.all (z := m) ⟨by omega, by omega⟩
          go_wp2
          go_ret
          exact ⟨A2, k + 1, c2, rfl, by rw [← HE.out]; exact ho3, hw2⟩
        · have HE := Lib.hid (show fs = facsOf n by rw [HF.out, ← he, facs_eq hp1 (by omega), if_neg hsq, if_neg hm]; simp)
          clear he
          go_wp2
          go_ret
          exact ⟨A, k, c, rfl, by rw [← HE.out]; exact ho, hw⟩
  · have h' := inB_false h
    have HF := Lib.hid (show facsOf n = [] by simp [facsOf, h'])
    clear h
    go_enter Try.func59, Try.ntmps59
    go_wp2_with (go_at_call 37; refine (within_any _ _ _ _).mono ?_; rintro e w' ⟨rfl, rfl⟩)
    go_ret
    exact ⟨none, 0, 0, rfl, by rw [HF.out]; exact OI.nil_ _ _ _, Below.refl _ _⟩
structure OB (w : World) (B : Nat) (A : Option Addr) (n c : Nat) (vs : List Sl) (zss : List (List Int)) : Prop where
  os : OS w B 32 1 A n c (vs.map slv)
  len : vs.length = zss.length
  rows : ∀ (j : Nat) (v : Sl) (z : List Int), vs[j]? = some v → zss[j]? = some z → OI w B 2 v.1 v.2.1 v.2.2 z
section
variable {w w' : World} {B : Nat} {A : Option Addr} {n c : Nat} {vs : List Sl} {zss : List (List Int)}
theorem OB.slen (h : OB w B A n c vs zss) : vs.length = n ∧ zss.length = n := by have := h.os.len; have := h.len; simp at *; omega
theorem OB.below (h : OB w B A n c vs zss) (hb : Below w.heap.size w w') : OB w' B A n c vs zss := ⟨h.os.below hb, h.len, fun j v z hv hz => (h.rows j v z hv hz).below hb⟩
theorem OB.setLow (h : OB w B A n c vs zss) {p : Addr} (hp : p.block < B) (u : Value) : OB (w.setCell p u) B A n c vs zss := ⟨h.os.setLow hp u, h.len, fun j v z hv hz => (h.rows j v z hv hz).setLow hp u⟩
theorem OB.more {B' : Nat} (h : OB w B A n c vs zss) (hB : B' ≤ B) : OB w B' A n c vs zss := ⟨h.os.more hB, h.len, fun j v z hv hz => (h.rows j v z hv hz).more hB⟩
theorem OB.reads (h : OB w B A n c vs zss) : RR w A n zss := by
  refine ⟨h.slen.2, fun j z hz => ?_⟩
  have hj : j < vs.length := by rw [h.len]; exact (List.getElem?_eq_some_iff.1 hz).1
  have hv := List.getElem?_eq_getElem hj
  obtain ⟨ad, ha, hc⟩ := h.os.cells j (slv vs[j]) (by rw [List.getElem?_map, hv]; rfl)
  have ho := h.rows j _ z hv hz
  exact ⟨ad, _, ha, hc, _, _, _, rfl, ho.os.cap.1, ho.os.cap.2, ho.reads⟩
end
end Go.Proofs.Ytgnilbbblpkcoaa
