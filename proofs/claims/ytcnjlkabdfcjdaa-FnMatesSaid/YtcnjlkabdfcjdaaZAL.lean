/- Plain arithmetic modulo a monic polynomial that nothing divides: no product is 0 but of 0. No condition beyond those stated. -/
import Derived.Test.YtcnjlkabdfcjdaaZAK
set_option linter.unusedVariables false
set_option linter.unusedSimpArgs false
namespace Go.Proofs.Ytcnjlkabdfcjdaa
open Go.RowKit

theorem sumN_rev (n : Nat) (f : Nat → Int) : sumN n (fun j => f (n - 1 - j)) = sumN n f := by
  induction n generalizing f with
  | zero => rfl
  | succ n ih =>
    have h1 : ∀ (m : Nat) (g : Nat → Int), sumN (m + 1) g = g 0 + sumN m fun i => g (i + 1) := by
      intro m
      induction m with
      | zero => intro g; simp [sumN]
      | succ m ihm => intro g; rw [sumN, ihm, sumN]; omega
    rw [h1, sumN]
    have h2 : sumN n (fun i => f (n + 1 - 1 - (i + 1))) = sumN n f := by
      rw [← ih f]
      exact sumN_congr fun i hi => by rw [show n + 1 - 1 - (i + 1) = n - 1 - i from by omega]
    rw [h2, show n + 1 - 1 - 0 = n from by omega]
    omega
/-- the coefficients of the powers of x modulo a polynomial -/
def powX (f : List Int) : Nat → Nat → Int
  | 0, s => if s = 0 then 1 else 0
  | t + 1, s => (if s = 0 then 0 else powX f t (s - 1)) - powX f t (f.length - 2) * nth f s
/-- the linear form of multiplication by h -/
def psi (f : List Int) (h : Nat → Int) (s i : Nat) : Int := sumN (f.length - 1) fun j => h j * powX f (i + j) s
section
variable {f : List Int} {k : Nat} (hk : f.length = k + 1) (k1 : 1 ≤ k)
include hk k1
theorem powX_low {t s : Nat} (ht : t < k) (hs : s < k) : powX f t s = if s = t then 1 else 0 := by
  induction t generalizing s with
  | zero => rfl
  | succ t ih =>
    rw [powX, hk, show k + 1 - 2 = k - 1 from by omega, ih (s := k - 1) (by omega) (by omega), if_neg (show ¬ k - 1 = t from by omega), Int.zero_mul, Int.sub_zero]
    by_cases e : s = 0
    · subst e; rw [if_pos rfl, if_neg (by omega)]
    · rw [if_neg e, ih (s := s - 1) (by omega) (by omega)]
      by_cases e2 : s = t + 1
      · rw [if_pos e2, if_pos (by omega)]
      · rw [if_neg e2, if_neg (by omega)]
theorem powX_rec (hm : nth f k = 1) (o : Nat) {s : Nat} (hs : s < k) : sumN (k + 1) (fun t => nth f t * powX f (o + t) s) = 0 := by
  induction o generalizing s with
  | zero =>
    rw [sumN, hm, Int.one_mul, sumN_congr (g := fun t => if t = s then nth f s else 0) (fun t ht => by
      rw [Nat.zero_add, powX_low hk k1 ht hs]
      by_cases e : t = s
      · subst e; simp
      · rw [if_neg (fun h => e h.symm), if_neg e, Int.mul_zero]), sumN_at hs]
    obtain ⟨k', rfl⟩ : ∃ k', k = k' + 1 := ⟨k - 1, by omega⟩
    rw [Nat.zero_add, powX, hk, show k' + 1 + 1 - 2 = k' from by omega, powX_low hk k1 (t := k') (s := k') (by omega) (by omega), if_pos rfl, Int.one_mul]
    by_cases e : s = 0
    · rw [if_pos e]; omega
    · rw [if_neg e, powX_low hk k1 (by omega) (by omega), if_neg (by omega)]; omega
  | succ o ih =>
    have e : ∀ t, nth f t * powX f (o + 1 + t) s = (if s = 0 then 0 else nth f t * powX f (o + t) (s - 1)) - nth f s * (nth f t * powX f (o + t) (k - 1)) := fun t => by
      rw [show o + 1 + t = (o + t) + 1 from by omega, powX, hk, show k + 1 - 2 = k - 1 from by omega, Int.mul_sub]
      congr 1
      · by_cases e : s = 0
        · rw [if_pos e, if_pos e, Int.mul_zero]
        · rw [if_neg e, if_neg e]
      · rw [Int.mul_comm (powX f (o + t) (k - 1)), Int.mul_left_comm]
    rw [sumN_congr fun t _ => e t, sumN_sub, sumN_mul, ih (s := k - 1) (by omega), Int.mul_zero, Int.sub_zero]
    by_cases e : s = 0
    · exact sumN_zero fun t _ => by rw [if_pos e]
    · rw [sumN_congr (g := fun t => nth f t * powX f (o + t) (s - 1)) (fun t _ => by rw [if_neg e])]
      exact ih (by omega)
theorem psi_zero (h : Nat → Int) {s : Nat} (hs : s < k) : psi f h s 0 = h s := by
  rw [psi, hk, show k + 1 - 1 = k from by omega, sumN_congr (g := fun j => if j = s then h s else 0) (fun j hj => by
    rw [Nat.zero_add, powX_low hk k1 hj hs]
    by_cases e : j = s
    · subst e; simp
    · rw [if_neg (fun q => e q.symm), if_neg e, Int.mul_zero]), sumN_at hs]
theorem psi_succ (h : Nat → Int) (s i : Nat) : psi f h s (i + 1) = (if s = 0 then 0 else psi f h (s - 1) i) - nth f s * psi f h (k - 1) i := by
  unfold psi
  rw [hk, show k + 1 - 1 = k from by omega]
  have e : ∀ j, h j * powX f (i + 1 + j) s = (if s = 0 then 0 else h j * powX f (i + j) (s - 1)) - nth f s * (h j * powX f (i + j) (k - 1)) := fun j => by
    rw [show i + 1 + j = (i + j) + 1 from by omega, powX, hk, show k + 1 - 2 = k - 1 from by omega, Int.mul_sub]
    congr 1
    · by_cases e : s = 0
      · rw [if_pos e, if_pos e, Int.mul_zero]
      · rw [if_neg e, if_neg e]
    · rw [Int.mul_comm (powX f (i + j) (k - 1)), Int.mul_left_comm]
  rw [sumN_congr fun j _ => e j, sumN_sub, sumN_mul]
  congr 1
  by_cases e : s = 0
  · rw [if_pos e]; exact sumN_zero fun j _ => by rw [if_pos e]
  · rw [if_neg e]; exact sumN_congr fun j _ => by rw [if_neg e]
end
/-- r times h is 0 modulo f -/
def Ann (p : Int) (f : List Int) (h : Nat → Int) (r : List Int) : Prop := ∀ s, s < f.length - 1 → Cg p (linF r (psi f h s)) 0
section
variable {p : Int} {f : List Int} {k : Nat} (hk : f.length = k + 1) (k1 : 1 ≤ k) (hm : nth f k = 1)
include hk k1
theorem Ann.shift {h : Nat → Int} {g : List Int} (ha : Ann p f h g) (o : Nat) {s : Nat} (hs : s < k) : Cg p (sumN g.length fun t => nth g t * psi f h s (o + t)) 0 := by
  induction o generalizing s with
  | zero =>
    have := ha s (by omega)
    refine Cg.trans (Cg.of_eq ?_) this
    exact sumN_congr fun t _ => by rw [Nat.zero_add]
  | succ o ih =>
    have e : ∀ t, nth g t * psi f h s (o + 1 + t) = (if s = 0 then 0 else nth g t * psi f h (s - 1) (o + t)) - nth f s * (nth g t * psi f h (k - 1) (o + t)) := fun t => by
      rw [show o + 1 + t = (o + t) + 1 from by omega, psi_succ hk k1, Int.mul_sub]
      congr 1
      · by_cases e : s = 0
        · rw [if_pos e, if_pos e, Int.mul_zero]
        · rw [if_neg e, if_neg e]
      · rw [Int.mul_left_comm]
    rw [sumN_congr fun t _ => e t, sumN_sub, sumN_mul]
    have h2 := (ih (s := k - 1) (by omega)).mul_left (nth f s)
    rw [Int.mul_zero] at h2
    by_cases e : s = 0
    · have h1 : Cg p (sumN g.length fun t => if s = 0 then 0 else nth g t * psi f h (s - 1) (o + t)) 0 := Cg.of_eq (sumN_zero fun t _ => by rw [if_pos e])
      exact h1.sub h2
    · have h1 : Cg p (sumN g.length fun t => if s = 0 then 0 else nth g t * psi f h (s - 1) (o + t)) 0 := by
        rw [sumN_congr (g := fun t => nth g t * psi f h (s - 1) (o + t)) (fun t _ => by rw [if_neg e])]
        exact ih (by omega)
      exact h1.sub h2
include hm
theorem ann_self (p : Int) (h : Nat → Int) : Ann p f h f := fun s hs => by
  refine Cg.of_eq ?_
  unfold linF psi
  rw [hk, show k + 1 - 1 = k from by omega, sumN_congr (g := fun t => sumN k fun j => nth f t * (h j * powX f (t + j) s)) (fun t _ => by rw [sumN_mul]), sumN_swap]
  refine sumN_zero fun j _ => ?_
  rw [sumN_congr (g := fun t => h j * (nth f t * powX f (j + t) s)) (fun t _ => by rw [Int.mul_left_comm, Nat.add_comm t j]), sumN_mul, powX_rec hk k1 hm j (by omega), Int.mul_zero]
end
/-- a monic polynomial of degree d that takes h to 0 -/
def Mon (p : Int) (f : List Int) (h : Nat → Int) (d : Nat) (g : List Int) : Prop := g.length = d + 1 ∧ Dg p g ∧ nth g d = 1 ∧ Ann p f h g
theorem least_ {P : Nat → Prop} : ∀ {n : Nat}, P n → ∃ d, d ≤ n ∧ P d ∧ ∀ e, e < d → ¬ P e := by
  intro n
  induction n using Nat.strongRecOn with
  | ind n ih =>
    intro h
    by_cases h2 : ∃ e, e < n ∧ P e
    · obtain ⟨e, he, hp⟩ := h2
      obtain ⟨d, hd, r⟩ := ih e he hp
      exact ⟨d, by omega, r⟩
    · exact ⟨n, Nat.le_refl _, h, fun e he hp => h2 ⟨e, he, hp⟩⟩
theorem most_ {P : Nat → Prop} : ∀ (n : Nat), (∃ i, i < n ∧ P i) → ∃ i, i < n ∧ P i ∧ ∀ j, i < j → j < n → ¬ P j
  | 0, ⟨i, hi, _⟩ => by omega
  | n + 1, ⟨i, hi, hp⟩ => by
    by_cases h : P n
    · exact ⟨n, by omega, h, fun j h1 h2 => by omega⟩
    · have : i ≠ n := fun e => h (e ▸ hp)
      obtain ⟨a, b, c, d⟩ := most_ n ⟨i, by omega, hp⟩
      exact ⟨a, by omega, c, fun j h1 h2 => by
        by_cases e : j = n
        · rw [e]; exact h
        · exact d j h1 (by omega)⟩
/-- numbers below p have inverses -/
def Inv (p : Int) : Prop := ∀ c, 0 < c → c < p → ∃ c', Cg p (c * c') 1
theorem nth_map_range (n : Nat) (F : Nat → Int) (t : Nat) : nth ((List.range n).map F) t = if t < n then F t else 0 := by
  unfold nth
  by_cases h : t < n
  · simp [List.getD, h]
  · simp [List.getD, h]
section
variable {p : Int} (p2 : 1 < p) (hinv : Inv p) {f : List Int}
include p2
theorem cg_zero {a : Int} (h0 : 0 ≤ a) (h1 : a < p) (h : Cg p a 0) : a = 0 := h.eq h0 h1 (by omega) (by omega)
include hinv
theorem norm {h : Nat → Int} {r : List Int} (ha : Ann p f h r) (hn : ∃ i, i < r.length ∧ ¬ Cg p (nth r i) 0) : ∃ d g, d < r.length ∧ Mon p f h d g := by
  obtain ⟨i, hi, hne, hz⟩ := most_ (P := fun i => ¬ Cg p (nth r i) 0) r.length hn
  have c0 : 0 ≤ nth r i % p := Int.emod_nonneg _ (by omega)
  have c1 : nth r i % p < p := Int.emod_lt_of_pos _ (by omega)
  have cn : nth r i % p ≠ 0 := fun e => hne (Cg.iff.2 (by rw [e]; simp))
  obtain ⟨c', hc⟩ := hinv (nth r i % p) (by omega) c1
  have hc2 : Cg p (c' * nth r i) 1 := by
    rw [Int.mul_comm]
    exact ((Cg.mod p (nth r i)).symm.mul_right c').trans hc
  refine ⟨i, (List.range (i + 1)).map fun t => (c' * nth r t) % p, hi, by simp, ?_, ?_, fun s hs => ?_⟩
  · refine Dg.of (by omega) fun t ht => ?_
    rw [nth_map_range]
    split
    · exact ⟨Int.emod_nonneg _ (by omega), Int.emod_lt_of_pos _ (by omega)⟩
    · omega
  · rw [nth_map_range, if_pos (by omega)]
    have := Cg.iff.1 hc2
    rw [this, Int.emod_eq_of_lt (by omega) p2]
  · have h1 : Cg p (linF ((List.range (i + 1)).map fun t => (c' * nth r t) % p) (psi f h s)) (c' * sumN (i + 1) fun t => nth r t * psi f h s t) := by
      rw [← sumN_mul]
      unfold linF
      rw [List.length_map, List.length_range]
      refine Cg.sum fun t ht => ?_
      rw [nth_map_range, if_pos ht, ← Int.mul_assoc]
      exact (Cg.mod p _).mul_right _
    have h2 : Cg p (sumN (i + 1) fun t => nth r t * psi f h s t) (linF r (psi f h s)) := by
      have e : sumN r.length (fun t => if t < i + 1 then nth r t * psi f h s t else 0) = sumN (i + 1) fun t => nth r t * psi f h s t := by
        rw [sumN_more (n := i + 1) (by omega) (fun t a _ => by rw [if_neg (by omega)])]
        exact sumN_congr fun t ht => by rw [if_pos ht]
      rw [← e]
      refine Cg.sum fun t ht => ?_
      by_cases e : t < i + 1
      · rw [if_pos e]; exact Cg.rfl_ _ _
      · rw [if_neg e]
        have hh : Cg p (nth r t) 0 := Classical.not_not.1 (hz t (by omega) ht)
        have := hh.mul_right (psi f h s t)
        rw [Int.zero_mul] at this
        exact this.symm
    have h3 := (h2.trans (ha s hs)).mul_left c'
    rw [Int.mul_zero] at h3
    exact h1.trans h3
end
/-- no monic polynomial of a degree from 1 to the half divides f -/
def Irr (p : Int) (f : List Int) : Prop := ∀ d g, 1 ≤ d → 2 * d ≤ f.length - 1 → g.length = d + 1 → Dg p g → nth g d = 1 → ∃ t, nth (remP p g f) t ≠ 0
section
variable {p : Int} (p2 : 1 < p)
include p2
/-- what a division says, in one row -/
theorem remP_lin {g u : List Int} {d n : Nat} (hg : g.length = d + 1) (hm : nth g d = 1) (hu : u.length = n + 1) (hd : d ≤ n) (hD : Dg p u) :
    (remP p g u).length = d ∧ Dg p (remP p g u) ∧ ∃ q : Nat → Int, q (n - d) = nth u n ∧ ∀ ψ : Nat → Int, Cg p (linF (remP p g u) ψ + sumN (n + 1 - d) fun o => q o * sumN (d + 1) fun t => nth g t * ψ (o + t)) (linF u ψ) := by
  have hp0 : 0 < p := by omega
  obtain ⟨a, b, q, -, q2, q3⟩ := remTo_inv hp0 (by_ := g) (u := u) (by omega) (by rw [hg, show d + 1 - 1 = d from by omega]; exact hm) hD (u.length - (g.length - 1)) (Nat.le_refl _)
  rw [hu, hg, show d + 1 - 1 = d from by omega] at a b q2 q3
  rw [show n + 1 - (d + 1) = n - d from by omega, show n + 1 - 1 = n from by omega] at q2
  have er : remP p g u = (remTo p g u (n + 1 - d)).take d := by unfold remP; rw [hu, hg, show d + 1 - 1 = d from by omega]
  refine ⟨by rw [er, List.length_take, remTo_len, hu]; omega, ?_, q, q2 (by omega), fun ψ => ?_⟩
  · rw [er]
    intro t
    rw [nth_takeI]
    split
    · exact a t
    · omega
  · have h1 := q3 ψ
    rw [er, linF_take (by rw [remTo_len, hu]; exact fun t h1 h2 => b t (by omega) h2)]
    refine Cg.trans (Cg.of_eq ?_) h1
    congr 1
    rw [← sumN_rev (n + 1 - d)]
    exact sumN_congr fun j hj => by rw [show n + 1 - d - 1 - j = n + 1 - (d + 1) - j from by omega]
variable (hinv : Inv p) {f : List Int} {k : Nat} (hk : f.length = k + 1) (k1 : 1 ≤ k) (hm : nth f k = 1) (hD : Dg p f) (hi : Irr p f)
include hinv hk k1 hm hD
/-- the least monic polynomial that takes h to 0 divides f -/
theorem min_divides {h : Nat → Int} {d : Nat} {g : List Int} (hg : Mon p f h d g) (hl : ∀ e, e < d → ∀ g, ¬ Mon p f h e g) (hd : d ≤ k) : (∀ t, nth (remP p g f) t = 0) ∧
    ∃ q : Nat → Int, q (k - d) = 1 ∧ ∀ ψ : Nat → Int, Cg p (sumN (k + 1 - d) fun o => q o * sumN (d + 1) fun t => nth g t * ψ (o + t)) (linF f ψ) := by
  obtain ⟨g1, g2, g3, g4⟩ := hg
  obtain ⟨r1, r2, q, q1, q2⟩ := remP_lin p2 g1 g3 hk hd hD
  have hz : ∀ t, nth (remP p g f) t = 0 := by
    refine Classical.byContradiction fun hn => ?_
    obtain ⟨t, ht⟩ := Classical.not_forall.1 hn
    have hlt : t < (remP p g f).length := Classical.byContradiction fun e => ht (nth_beyond (by omega))
    have hAnn : Ann p f h (remP p g f) := fun s hs => by
      have e1 := q2 (psi f h s)
      have e2 : Cg p (sumN (k + 1 - d) fun o => q o * sumN (d + 1) fun t => nth g t * psi f h s (o + t)) 0 := by
        have : Cg p (sumN (k + 1 - d) fun o => q o * sumN (d + 1) fun t => nth g t * psi f h s (o + t)) (sumN (k + 1 - d) fun _ => 0) := Cg.sum fun o _ => by
          have := (Ann.shift hk k1 g4 o (s := s) (by omega)).mul_left (q o)
          rw [g1, Int.mul_zero] at this
          exact this
        exact this.trans (Cg.of_eq (sumN_zero fun _ _ => rfl))
      have e3 := ann_self hk k1 hm p h s hs
      have e4 := (e1.trans e3).sub e2
      refine Cg.trans (Cg.of_eq ?_) e4
      omega
    obtain ⟨e, g', he, hg'⟩ := norm p2 hinv hAnn ⟨t, hlt, fun hc => ht (cg_zero p2 (r2 t).1 (r2 t).2 hc)⟩
    exact hl e (by omega) g' hg'
  refine ⟨hz, q, by rw [q1]; exact hm, fun ψ => ?_⟩
  have e1 := q2 ψ
  have e0 : linF (remP p g f) ψ = 0 := sumN_zero fun t _ => by rw [hz, Int.zero_mul]
  rw [e0, Int.zero_add] at e1
  exact e1
include hi
/-- no product is 0 but of 0 -/
theorem no_zero {h : Nat → Int} {r : List Int} (hr : r.length ≤ k) (ha : Ann p f h r) (hn : ∃ i, i < r.length ∧ ¬ Cg p (nth r i) 0) : ∀ j, j < k → Cg p (h j) 0 := by
  refine fun j hj => Classical.byContradiction fun hne => ?_
  -- a least divisor of degree at least 1
  have low : ∀ {h : Nat → Int} {n : Nat}, (∃ j, j < k ∧ ¬ Cg p (h j) 0) → (∃ g, Mon p f h n g) → n ≤ k → ∃ d g, d ≤ n ∧ 1 ≤ d ∧ Mon p f h d g ∧ ∀ e, e < d → ∀ g, ¬ Mon p f h e g := by
    intro h n ⟨j, hj, hne⟩ hg hnk
    obtain ⟨d, d1, ⟨g, d2⟩, d3⟩ := least_ (P := fun n => ∃ g, Mon p f h n g) hg
    refine ⟨d, g, d1, ?_, d2, fun e he g hg => d3 e he ⟨g, hg⟩⟩
    by_cases e : d = 0
    · subst e
      exfalso
      have := d2.2.2.2 j (by omega)
      unfold linF at this
      rw [d2.1, sumN, sumN, d2.2.2.1, psi_zero hk k1 h hj, Int.one_mul, Int.zero_add] at this
      exact hne this
    · omega
  obtain ⟨d0, g0, hd0, hg0⟩ := norm p2 hinv ha hn
  obtain ⟨d, g, d1, d2, d3, d4⟩ := low ⟨j, hj, hne⟩ ⟨g0, hg0⟩ (by omega)
  obtain ⟨z, q, q1, q2⟩ := min_divides p2 hinv hk k1 hm hD d3 d4 (by omega)
  by_cases hh : 2 * d ≤ k
  · obtain ⟨t, ht⟩ := hi d g d2 (by omega) d3.1 d3.2.1 d3.2.2.1
    exact ht (z t)
  · -- the quotient takes g to 0
    have hQ : Ann p f (nth g) ((List.range (k + 1 - d)).map q) := fun s hs => by
      have e1 := q2 fun t => powX f t s
      have e2 : linF f (fun t => powX f t s) = 0 := by
        have := powX_rec hk k1 hm 0 (s := s) (by omega)
        unfold linF
        rw [hk]
        refine Eq.trans (sumN_congr fun t _ => ?_) this
        rw [Nat.zero_add]
      rw [e2] at e1
      refine Cg.trans (Cg.of_eq ?_) e1
      unfold linF psi
      rw [List.length_map, List.length_range]
      refine sumN_congr fun o ho => ?_
      rw [nth_map_range, if_pos ho, hk, show k + 1 - 1 = k from by omega]
      congr 1
      exact sumN_more (by omega) fun t h1 h2 => by rw [nth_beyond (by rw [d3.1]; omega), Int.zero_mul]
    have one_ne : ¬ Cg p 1 0 := fun hc => by have := cg_zero p2 (by omega) p2 hc; omega
    obtain ⟨e0, g1, he0, hg1⟩ := norm p2 hinv hQ ⟨k - d, by simp; omega, by rw [nth_map_range, if_pos (by omega), q1]; exact one_ne⟩
    rw [List.length_map, List.length_range] at he0
    obtain ⟨e, g', e1, e2, e3, e4⟩ := low (h := nth g) ⟨d, by omega, by rw [d3.2.2.1]; exact one_ne⟩ ⟨g1, hg1⟩ (by omega)
    obtain ⟨z', -⟩ := min_divides p2 hinv hk k1 hm hD e3 e4 (by omega)
    obtain ⟨t, ht⟩ := hi e g' e2 (by omega) e3.1 e3.2.1 e3.2.2.1
    exact ht (z' t)
end
end Go.Proofs.Ytcnjlkabdfcjdaa
