/- Plain arithmetic of polynomials modulo a number: sums, the linear form of a list, division by a monic polynomial. No condition beyond those stated. -/
import Derived.Test.YtdkbcjdimhgmnaaGreatSGG
set_option linter.unusedVariables false
set_option linter.unusedSimpArgs false
namespace Go.Proofs.YtdkbcjdimhgmnaaGreat
open Go.RowKit
def sumN : Nat → (Nat → Int) → Int
  | 0, _ => 0
  | n + 1, f => sumN n f + f n
theorem sumN_congr {n : Nat} {f g : Nat → Int} (h : ∀ i, i < n → f i = g i) : sumN n f = sumN n g := by
  induction n with
  | zero => rfl
  | succ n ih => rw [sumN, sumN, ih fun i hi => h i (by omega), h n (by omega)]
theorem sumN_zero {n : Nat} {f : Nat → Int} (h : ∀ i, i < n → f i = 0) : sumN n f = 0 := by
  induction n with
  | zero => rfl
  | succ n ih => rw [sumN, ih fun i hi => h i (by omega), h n (by omega)]; rfl
theorem sumN_add (n : Nat) (f g : Nat → Int) : sumN n (fun i => f i + g i) = sumN n f + sumN n g := by
  induction n with
  | zero => rfl
  | succ n ih => rw [sumN, sumN, sumN, ih]; omega
theorem sumN_mul (n : Nat) (c : Int) (f : Nat → Int) : sumN n (fun i => c * f i) = c * sumN n f := by
  induction n with
  | zero => simp [sumN]
  | succ n ih => rw [sumN, sumN, ih, Int.mul_add]
theorem sumN_sub (n : Nat) (f g : Nat → Int) : sumN n (fun i => f i - g i) = sumN n f - sumN n g := by
  induction n with
  | zero => rfl
  | succ n ih => rw [sumN, sumN, sumN, ih]; omega
theorem sumN_swap (n m : Nat) (f : Nat → Nat → Int) : sumN n (fun i => sumN m (f i)) = sumN m (fun j => sumN n fun i => f i j) := by
  induction n with
  | zero => rw [sumN]; exact (sumN_zero fun _ _ => rfl).symm
  | succ n ih =>
    rw [sumN, ih, ← sumN_add]
    exact sumN_congr fun j _ => rfl
theorem sumN_more {n m : Nat} (h : n ≤ m) {f : Nat → Int} (hz : ∀ i, n ≤ i → i < m → f i = 0) : sumN m f = sumN n f := by
  induction m with
  | zero => obtain rfl : n = 0 := by omega
            rfl
  | succ m ih =>
    by_cases e : n = m + 1
    · rw [e]
    · rw [sumN, hz m (by omega) (by omega), ih (by omega) fun i h1 h2 => hz i h1 (by omega), Int.add_zero]
theorem sumN_one {n k : Nat} (hk : k < n) {f : Nat → Int} (h : ∀ i, i < n → i ≠ k → f i = 0) : sumN n f = f k := by
  induction n with
  | zero => omega
  | succ n ih =>
    by_cases e : k = n
    · subst e
      rw [sumN, sumN_zero fun i hi => h i (by omega) (by omega), Int.zero_add]
    · rw [sumN, ih (by omega) fun i hi => h i (by omega), h n (by omega) (by omega), Int.add_zero]
theorem sumN_at {n k : Nat} (hk : k < n) (c : Int) : sumN n (fun t => if t = k then c else 0) = c := by
  rw [sumN_one hk (fun t _ e => if_neg e), if_pos rfl]
def Cg (p a b : Int) : Prop := ∃ t : Int, a = b + p * t
theorem Cg.rfl_ (p a : Int) : Cg p a a := ⟨0, by omega⟩
theorem Cg.of_eq {p a b : Int} (h : a = b) : Cg p a b := h ▸ Cg.rfl_ p a
theorem Cg.symm {p a b : Int} (h : Cg p a b) : Cg p b a := by
  obtain ⟨t, rfl⟩ := h
  exact ⟨-t, by rw [Int.mul_neg]; omega⟩
theorem Cg.trans {p a b c : Int} (h : Cg p a b) (k : Cg p b c) : Cg p a c := by
  obtain ⟨t, rfl⟩ := h
  obtain ⟨u, rfl⟩ := k
  exact ⟨u + t, by rw [Int.mul_add]; omega⟩
theorem Cg.add {p a b c d : Int} (h : Cg p a b) (k : Cg p c d) : Cg p (a + c) (b + d) := by
  obtain ⟨t, rfl⟩ := h
  obtain ⟨u, rfl⟩ := k
  exact ⟨t + u, by rw [Int.mul_add]; omega⟩
theorem Cg.mul_left {p a b : Int} (h : Cg p a b) (c : Int) : Cg p (c * a) (c * b) := by
  obtain ⟨t, rfl⟩ := h
  exact ⟨c * t, by rw [Int.mul_add, Int.mul_left_comm]⟩
theorem Cg.mul_right {p a b : Int} (h : Cg p a b) (c : Int) : Cg p (a * c) (b * c) := by
  rw [Int.mul_comm a, Int.mul_comm b]; exact h.mul_left c
theorem Cg.neg {p a b : Int} (h : Cg p a b) : Cg p (-a) (-b) := by
  have := h.mul_left (-1)
  simpa using this
theorem Cg.sub {p a b c d : Int} (h : Cg p a b) (k : Cg p c d) : Cg p (a - c) (b - d) := by
  have := h.add k.neg
  simpa [Int.sub_eq_add_neg] using this
theorem Cg.mod (p a : Int) : Cg p (a % p) a := ⟨-(a / p), by rw [Int.mul_neg]; have := Int.mul_ediv_add_emod a p; omega⟩
theorem Cg.iff {p a b : Int} : Cg p a b ↔ a % p = b % p := by
  constructor
  · rintro ⟨t, rfl⟩
    exact Int.add_mul_emod_self_left b p t
  · intro h
    exact (Cg.mod p a).symm.trans ((Cg.of_eq h).trans (Cg.mod p b))
theorem Cg.eq {p a b : Int} (h : Cg p a b) (ha : 0 ≤ a) (ha2 : a < p) (hb : 0 ≤ b) (hb2 : b < p) : a = b := by
  have := Cg.iff.1 h
  rwa [Int.emod_eq_of_lt ha ha2, Int.emod_eq_of_lt hb hb2] at this
theorem Cg.sum {p : Int} {n : Nat} {f g : Nat → Int} (h : ∀ i, i < n → Cg p (f i) (g i)) : Cg p (sumN n f) (sumN n g) := by
  induction n with
  | zero => exact Cg.rfl_ _ _
  | succ n ih => rw [sumN, sumN]; exact (ih fun i hi => h i (by omega)).add (h n (by omega))
def linF (u : List Int) (ψ : Nat → Int) : Int := sumN u.length fun t => nth u t * ψ t
theorem nth_beyond {u : List Int} {t : Nat} (h : u.length ≤ t) : nth u t = 0 := by simp [nth, List.getD, List.getElem?_eq_none h]
theorem linF_more {u : List Int} {n : Nat} (h : u.length ≤ n) (ψ : Nat → Int) : sumN n (fun t => nth u t * ψ t) = linF u ψ :=
  sumN_more h fun i hi _ => by rw [nth_beyond hi, Int.zero_mul]
theorem nth_setI {u : List Int} {j t : Nat} {x : Int} (hj : j < u.length) : nth (u.set j x) t = if t = j then x else nth u t := by
  unfold nth
  simp only [List.getD, List.getElem?_set]
  by_cases e : t = j
  · subst e; simp [hj]
  · rw [if_neg (fun h => e h.symm), if_neg e]
def stepTo (p : Int) (by_ : List Int) (c : Int) (o : Nat) (u : List Int) : Nat → List Int
  | 0 => u
  | j + 1 => (stepTo p by_ c o u j).set (o + j) ((nth (stepTo p by_ c o u j) (o + j) + (p - c) * nth by_ j) % p)
theorem stepTo_len (p : Int) (by_ : List Int) (c : Int) (o : Nat) (u : List Int) (j : Nat) : (stepTo p by_ c o u j).length = u.length := by
  induction j with
  | zero => rfl
  | succ j ih => rw [stepTo, List.length_set, ih]
theorem stepTo_nth (p : Int) (by_ : List Int) (c : Int) (o : Nat) (u : List Int) (j : Nat) (hj : o + j ≤ u.length) (t : Nat) :
    nth (stepTo p by_ c o u j) t = if o ≤ t ∧ t < o + j then (nth u t + (p - c) * nth by_ (t - o)) % p else nth u t := by
  induction j with
  | zero => rw [stepTo, if_neg (by omega)]
  | succ j ih =>
    rw [stepTo, nth_setI (by rw [stepTo_len]; omega)]
    by_cases e : t = o + j
    · subst e
      rw [if_pos rfl, if_pos (by omega), ih (by omega), if_neg (by omega), show o + j - o = j from by omega]
    · rw [if_neg e, ih (by omega)]
      by_cases h : o ≤ t ∧ t < o + j
      · rw [if_pos h, if_pos (by omega)]
      · rw [if_neg h, if_neg (by omega)]
def Dg (p : Int) (u : List Int) : Prop := ∀ t, 0 ≤ nth u t ∧ nth u t < p
theorem Dg.of {p : Int} (h0 : 0 < p) {u : List Int} (h : ∀ t, t < u.length → 0 ≤ nth u t ∧ nth u t < p) : Dg p u := fun t => by
  by_cases ht : t < u.length
  · exact h t ht
  · rw [nth_beyond (by omega)]; omega
theorem stepTo_dg {p : Int} (h0 : 0 < p) {by_ : List Int} {c : Int} {o : Nat} {u : List Int} (h : Dg p u) {j : Nat} (hj : o + j ≤ u.length) : Dg p (stepTo p by_ c o u j) := fun t => by
  rw [stepTo_nth p by_ c o u j hj]
  split
  · exact ⟨Int.emod_nonneg _ (by omega), Int.emod_lt_of_pos _ h0⟩
  · exact h t
theorem stepTo_lin {p : Int} (by_ : List Int) (c : Int) (o : Nat) (u : List Int) {j : Nat} (hj : o + j ≤ u.length) (ψ : Nat → Int) :
    Cg p (linF (stepTo p by_ c o u j) ψ + c * sumN j (fun t => nth by_ t * ψ (o + t))) (linF u ψ) := by
  induction j with
  | zero => exact Cg.of_eq (by rw [stepTo, sumN]; omega)
  | succ j ih =>
    refine Cg.trans ?_ (ih (by omega))
    have hl : o + j < (stepTo p by_ c o u j).length := by rw [stepTo_len]; omega
    -- only place o + j changes
    have key : Cg p (linF (stepTo p by_ c o u (j + 1)) ψ) (linF (stepTo p by_ c o u j) ψ - c * (nth by_ j * ψ (o + j))) := by
      have e : linF (stepTo p by_ c o u (j + 1)) ψ = linF (stepTo p by_ c o u j) ψ + ((nth (stepTo p by_ c o u j) (o + j) + (p - c) * nth by_ j) % p - nth (stepTo p by_ c o u j) (o + j)) * ψ (o + j) := by
        unfold linF
        rw [stepTo, List.length_set]
        have h1 : ∀ t, nth ((stepTo p by_ c o u j).set (o + j) ((nth (stepTo p by_ c o u j) (o + j) + (p - c) * nth by_ j) % p)) t * ψ t = nth (stepTo p by_ c o u j) t * ψ t + (if t = o + j then ((nth (stepTo p by_ c o u j) (o + j) + (p - c) * nth by_ j) % p - nth (stepTo p by_ c o u j) (o + j)) * ψ (o + j) else 0) := fun t => by
          rw [nth_setI hl]
          by_cases e : t = o + j
          · subst e; rw [if_pos rfl, if_pos rfl]; exact (show ∀ X y z : Int, X * z = y * z + (X - y) * z from fun X y z => by rw [Int.sub_mul]; omega) _ _ _
          · rw [if_neg e, if_neg e, Int.add_zero]
        rw [sumN_congr fun t _ => h1 t, sumN_add, sumN_at hl]
      rw [e]
      have m : Cg p ((nth (stepTo p by_ c o u j) (o + j) + (p - c) * nth by_ j) % p - nth (stepTo p by_ c o u j) (o + j)) (-(c * nth by_ j)) := by
        refine ((Cg.mod p _).sub (Cg.rfl_ p _)).trans ⟨nth by_ j, ?_⟩
        rw [Int.sub_mul]; omega
      refine ((Cg.rfl_ p _).add (m.mul_right (ψ (o + j)))).trans (Cg.of_eq ?_)
      rw [Int.neg_mul, Int.mul_assoc]; omega
    have : sumN (j + 1) (fun t => nth by_ t * ψ (o + t)) = sumN j (fun t => nth by_ t * ψ (o + t)) + nth by_ j * ψ (o + j) := rfl
    rw [this, Int.mul_add]
    refine (key.add (Cg.rfl_ p _)).trans (Cg.of_eq ?_)
    omega
def remTo (p : Int) (by_ : List Int) (u : List Int) : Nat → List Int
  | 0 => u
  | r + 1 => stepTo p by_ (nth (remTo p by_ u r) (u.length - 1 - r)) (u.length - 1 - r - (by_.length - 1)) (remTo p by_ u r) by_.length
theorem remTo_len (p : Int) (by_ u : List Int) (r : Nat) : (remTo p by_ u r).length = u.length := by
  induction r with
  | zero => rfl
  | succ r ih => rw [remTo, stepTo_len, ih]
def remP (p : Int) (by_ u : List Int) : List Int := (remTo p by_ u (u.length - (by_.length - 1))).take (by_.length - 1)
theorem nth_takeI {u : List Int} {k t : Nat} : nth (u.take k) t = if t < k then nth u t else 0 := by
  unfold nth
  simp only [List.getD, List.getElem?_take]
  split <;> simp
theorem linF_take {u : List Int} {d : Nat} (h : ∀ t, d ≤ t → t < u.length → nth u t = 0) (ψ : Nat → Int) : linF (u.take d) ψ = linF u ψ := by
  rw [← linF_more (u := u.take d) (n := u.length) (by rw [List.length_take]; omega)]
  refine sumN_congr fun t ht => ?_
  rw [nth_takeI]
  by_cases e : t < d
  · rw [if_pos e]
  · rw [if_neg e, h t (by omega) ht]
section
variable {p : Int} (h0 : 0 < p) {by_ u : List Int} (hby : 0 < by_.length) (hl : nth by_ (by_.length - 1) = 1)
include h0 hby hl
theorem remTo_inv (hu : Dg p u) : ∀ r, r ≤ u.length - (by_.length - 1) → Dg p (remTo p by_ u r) ∧ (∀ t, u.length - r ≤ t → t < u.length → nth (remTo p by_ u r) t = 0) ∧
    ∃ q : Nat → Int, (∀ o, u.length - (by_.length - 1) - r ≤ o → 0 ≤ q o ∧ q o < p) ∧ (0 < r → q (u.length - by_.length) = nth u (u.length - 1)) ∧ ∀ ψ : Nat → Int,
      Cg p (linF (remTo p by_ u r) ψ + sumN r (fun j => q (u.length - by_.length - j) * sumN by_.length (fun t => nth by_ t * ψ (u.length - by_.length - j + t)))) (linF u ψ) := by
  intro r
  induction r with
  | zero => exact fun _ => ⟨hu, fun t h1 h2 => by omega, fun _ => 0, fun _ _ => ⟨Int.le_refl 0, h0⟩, fun h => by omega, fun ψ => Cg.of_eq (by rw [remTo, sumN]; omega)⟩
  | succ r ih =>
    intro hr
    obtain ⟨d1, z1, q, q1, q2, q3⟩ := ih (by omega)
    have ho : u.length - 1 - r - (by_.length - 1) = u.length - by_.length - r := by omega
    have hob : u.length - 1 - r - (by_.length - 1) + by_.length ≤ (remTo p by_ u r).length := by rw [remTo_len]; omega
    refine ⟨?_, ?_, fun o => if o = u.length - by_.length - r then nth (remTo p by_ u r) (u.length - 1 - r) else q o, ?_, ?_, ?_⟩
    · rw [remTo]; exact stepTo_dg h0 d1 hob
    · intro t h1 h2
      rw [remTo, stepTo_nth _ _ _ _ _ _ hob]
      by_cases e : t = u.length - 1 - r
      · subst e
        rw [if_pos (by omega), show u.length - 1 - r - (u.length - 1 - r - (by_.length - 1)) = by_.length - 1 from by omega, hl, Int.mul_one, show ∀ a : Int, a + (p - a) = p from fun a => by omega, Int.emod_self]
      · rw [if_neg (by omega)]
        exact z1 t (by omega) h2
    · intro o h1
      dsimp only
      split
      · exact d1 _
      · exact q1 o (by omega)
    · intro _
      dsimp only
      by_cases e : r = 0
      · subst e
        rw [if_pos (by omega)]
        show nth (remTo p by_ u 0) _ = _
        rw [remTo]; rfl
      · rw [if_neg (by omega)]
        exact q2 (by omega)
    · intro ψ
      have k1 := stepTo_lin (p := p) by_ (nth (remTo p by_ u r) (u.length - 1 - r)) (u.length - 1 - r - (by_.length - 1)) (remTo p by_ u r) hob ψ
      rw [remTo, sumN]
      dsimp only
      rw [if_pos rfl]
      have k2 : sumN r (fun j => (if u.length - by_.length - j = u.length - by_.length - r then nth (remTo p by_ u r) (u.length - 1 - r) else q (u.length - by_.length - j)) * sumN by_.length (fun t => nth by_ t * ψ (u.length - by_.length - j + t))) =
          sumN r (fun j => q (u.length - by_.length - j) * sumN by_.length (fun t => nth by_ t * ψ (u.length - by_.length - j + t))) := sumN_congr fun j hj => by rw [if_neg (by omega)]
      rw [k2]
      refine Cg.trans ?_ (q3 ψ)
      rw [ho] at k1 ⊢
      have k3 := k1.add (Cg.rfl_ p (sumN r (fun j => q (u.length - by_.length - j) * sumN by_.length (fun t => nth by_ t * ψ (u.length - by_.length - j + t)))))
      refine Cg.trans (Cg.of_eq ?_) k3
      omega
end
theorem sumN_rev (n : Nat) (f : Nat → Int) : sumN n (fun j => f (n - 1 - j)) = sumN n f := by
  induction n generalizing f with
  | zero => rfl
  | succ n ih =>
    have h1 : ∀ (m : Nat) (g : Nat → Int), sumN (m + 1) g = g 0 + sumN m fun i => g (i + 1) := by
      intro m
      induction m with
      | zero => intro g; simp [sumN]
      | succ m ihm => intro g; rw [sumN, ihm, sumN]; omega
    rw [h1, sumN]
    have h2 : sumN n (fun i => f (n + 1 - 1 - (i + 1))) = sumN n f := by
      rw [← ih f]
      exact sumN_congr fun i hi => by rw [show n + 1 - 1 - (i + 1) = n - 1 - i from by omega]
    rw [h2, show n + 1 - 1 - 0 = n from by omega]
    omega
def powX (f : List Int) : Nat → Nat → Int
  | 0, s => if s = 0 then 1 else 0
  | t + 1, s => (if s = 0 then 0 else powX f t (s - 1)) - powX f t (f.length - 2) * nth f s
def psi (f : List Int) (h : Nat → Int) (s i : Nat) : Int := sumN (f.length - 1) fun j => h j * powX f (i + j) s
section
variable {f : List Int} {k : Nat} (hk : f.length = k + 1) (k1 : 1 ≤ k)
include hk k1
theorem powX_low {t s : Nat} (ht : t < k) (hs : s < k) : powX f t s = if s = t then 1 else 0 := by
  induction t generalizing s with
  | zero => rfl
  | succ t ih =>
    rw [powX, hk, show k + 1 - 2 = k - 1 from by omega, ih (s := k - 1) (by omega) (by omega), if_neg (show ¬ k - 1 = t from by omega), Int.zero_mul, Int.sub_zero]
    by_cases e : s = 0
    · subst e; rw [if_pos rfl, if_neg (by omega)]
    · rw [if_neg e, ih (s := s - 1) (by omega) (by omega)]
      by_cases e2 : s = t + 1
      · rw [if_pos e2, if_pos (by omega)]
      · rw [if_neg e2, if_neg (by omega)]
theorem powX_rec (hm : nth f k = 1) (o : Nat) {s : Nat} (hs : s < k) : sumN (k + 1) (fun t => nth f t * powX f (o + t) s) = 0 := by
  induction o generalizing s with
  | zero =>
    rw [sumN, hm, Int.one_mul, sumN_congr (g := fun t => if t = s then nth f s else 0) (fun t ht => by
      rw [Nat.zero_add, powX_low hk k1 ht hs]
      by_cases e : t = s
      · subst e; simp
      · rw [if_neg (fun h => e h.symm), if_neg e, Int.mul_zero]), sumN_at hs]
    obtain ⟨k', rfl⟩ : ∃ k', k = k' + 1 := ⟨k - 1, by omega⟩
    rw [Nat.zero_add, powX, hk, show k' + 1 + 1 - 2 = k' from by omega, powX_low hk k1 (t := k') (s := k') (by omega) (by omega), if_pos rfl, Int.one_mul]
    by_cases e : s = 0
    · rw [if_pos e]; omega
    · rw [if_neg e, powX_low hk k1 (by omega) (by omega), if_neg (by omega)]; omega
  | succ o ih =>
    have e : ∀ t, nth f t * powX f (o + 1 + t) s = (if s = 0 then 0 else nth f t * powX f (o + t) (s - 1)) - nth f s * (nth f t * powX f (o + t) (k - 1)) := fun t => by
      rw [show o + 1 + t = (o + t) + 1 from by omega, powX, hk, show k + 1 - 2 = k - 1 from by omega, Int.mul_sub]
      congr 1
      · by_cases e : s = 0
        · rw [if_pos e, if_pos e, Int.mul_zero]
        · rw [if_neg e, if_neg e]
      · rw [Int.mul_comm (powX f (o + t) (k - 1)), Int.mul_left_comm]
    rw [sumN_congr fun t _ => e t, sumN_sub, sumN_mul, ih (s := k - 1) (by omega), Int.mul_zero, Int.sub_zero]
    by_cases e : s = 0
    · exact sumN_zero fun t _ => by rw [if_pos e]
    · rw [sumN_congr (g := fun t => nth f t * powX f (o + t) (s - 1)) (fun t _ => by rw [if_neg e])]
      exact ih (by omega)
theorem psi_zero (h : Nat → Int) {s : Nat} (hs : s < k) : psi f h s 0 = h s := by
  rw [psi, hk, show k + 1 - 1 = k from by omega, sumN_congr (g := fun j => if j = s then h s else 0) (fun j hj => by
    rw [Nat.zero_add, powX_low hk k1 hj hs]
    by_cases e : j = s
    · subst e; simp
    · rw [if_neg (fun q => e q.symm), if_neg e, Int.mul_zero]), sumN_at hs]
theorem psi_succ (h : Nat → Int) (s i : Nat) : psi f h s (i + 1) = (if s = 0 then 0 else psi f h (s - 1) i) - nth f s * psi f h (k - 1) i := by
  unfold psi
  rw [hk, show k + 1 - 1 = k from by omega]
  have e : ∀ j, h j * powX f (i + 1 + j) s = (if s = 0 then 0 else h j * powX f (i + j) (s - 1)) - nth f s * (h j * powX f (i + j) (k - 1)) := fun j => by
    rw [show i + 1 + j = (i + j) + 1 from by omega, powX, hk, show k + 1 - 2 = k - 1 from by omega, Int.mul_sub]
    congr 1
    · by_cases e : s = 0
      · rw [if_pos e, if_pos e, Int.mul_zero]
      · rw [if_neg e, if_neg e]
    · rw [Int.mul_comm (powX f (i + j) (k - 1)), Int.mul_left_comm]
  rw [sumN_congr fun j _ => e j, sumN_sub, sumN_mul]
  congr 1
  by_cases e : s = 0
  · rw [if_pos e]; exact sumN_zero fun j _ => by rw [if_pos e]
  · rw [if_neg e]; exact sumN_congr fun j _ => by rw [if_neg e]
end
def Ann (p : Int) (f : List Int) (h : Nat → Int) (r : List Int) : Prop := ∀ s, s < f.length - 1 → Cg p (linF r (psi f h s)) 0
section
variable {p : Int} {f : List Int} {k : Nat} (hk : f.length = k + 1) (k1 : 1 ≤ k) (hm : nth f k = 1)
include hk k1
theorem Ann.shift {h : Nat → Int} {g : List Int} (ha : Ann p f h g) (o : Nat) {s : Nat} (hs : s < k) : Cg p (sumN g.length fun t => nth g t * psi f h s (o + t)) 0 := by
  induction o generalizing s with
  | zero =>
    have := ha s (by omega)
    refine Cg.trans (Cg.of_eq ?_) this
    exact sumN_congr fun t _ => by rw [Nat.zero_add]
  | succ o ih =>
    have e : ∀ t, nth g t * psi f h s (o + 1 + t) = (if s = 0 then 0 else nth g t * psi f h (s - 1) (o + t)) - nth f s * (nth g t * psi f h (k - 1) (o + t)) := fun t => by
      rw [show o + 1 + t = (o + t) + 1 from by omega, psi_succ hk k1, Int.mul_sub]
      congr 1
      · by_cases e : s = 0
        · rw [if_pos e, if_pos e, Int.mul_zero]
        · rw [if_neg e, if_neg e]
      · rw [Int.mul_left_comm]
    rw [sumN_congr fun t _ => e t, sumN_sub, sumN_mul]
    have h2 := (ih (s := k - 1) (by omega)).mul_left (nth f s)
    rw [Int.mul_zero] at h2
    by_cases e : s = 0
    · have h1 : Cg p (sumN g.length fun t => if s = 0 then 0 else nth g t * psi f h (s - 1) (o + t)) 0 := Cg.of_eq (sumN_zero fun t _ => by rw [if_pos e])
      exact h1.sub h2
    · have h1 : Cg p (sumN g.length fun t => if s = 0 then 0 else nth g t * psi f h (s - 1) (o + t)) 0 := by
        rw [sumN_congr (g := fun t => nth g t * psi f h (s - 1) (o + t)) (fun t _ => by rw [if_neg e])]
        exact ih (by omega)
      exact h1.sub h2
include hm
theorem ann_self (p : Int) (h : Nat → Int) : Ann p f h f := fun s hs => by
  refine Cg.of_eq ?_
  unfold linF psi
  rw [hk, show k + 1 - 1 = k from by omega, sumN_congr (g := fun t => sumN k fun j => nth f t * (h j * powX f (t + j) s)) (fun t _ => by rw [sumN_mul]), sumN_swap]
  refine sumN_zero fun j _ => ?_
  rw [sumN_congr (g := fun t => h j * (nth f t * powX f (j + t) s)) (fun t _ => by rw [Int.mul_left_comm, Nat.add_comm t j]), sumN_mul, powX_rec hk k1 hm j (by omega), Int.mul_zero]
end
def Mon (p : Int) (f : List Int) (h : Nat → Int) (d : Nat) (g : List Int) : Prop := g.length = d + 1 ∧ Dg p g ∧ nth g d = 1 ∧ Ann p f h g
theorem least_ {P : Nat → Prop} : ∀ {n : Nat}, P n → ∃ d, d ≤ n ∧ P d ∧ ∀ e, e < d → ¬ P e := by
  intro n
  induction n using Nat.strongRecOn with
  | ind n ih =>
    intro h
    by_cases h2 : ∃ e, e < n ∧ P e
    · obtain ⟨e, he, hp⟩ := h2
      obtain ⟨d, hd, r⟩ := ih e he hp
      exact ⟨d, by omega, r⟩
    · exact ⟨n, Nat.le_refl _, h, fun e he hp => h2 ⟨e, he, hp⟩⟩
theorem most_ {P : Nat → Prop} : ∀ (n : Nat), (∃ i, i < n ∧ P i) → ∃ i, i < n ∧ P i ∧ ∀ j, i < j → j < n → ¬ P j
  | 0, ⟨i, hi, _⟩ => by omega
  | n + 1, ⟨i, hi, hp⟩ => by
    by_cases h : P n
    · exact ⟨n, by omega, h, fun j h1 h2 => by omega⟩
    · have : i ≠ n := fun e => h (e ▸ hp)
      obtain ⟨a, b, c, d⟩ := most_ n ⟨i, by omega, hp⟩
      exact ⟨a, by omega, c, fun j h1 h2 => by
        by_cases e : j = n
        · rw [e]; exact h
        · exact d j h1 (by omega)⟩
def Inv (p : Int) : Prop := ∀ c, 0 < c → c < p → ∃ c', Cg p (c * c') 1
theorem nth_map_range (n : Nat) (F : Nat → Int) (t : Nat) : nth ((List.range n).map F) t = if t < n then F t else 0 := by
  unfold nth
  by_cases h : t < n
  · simp [List.getD, h]
  · simp [List.getD, h]
section
variable {p : Int} (p2 : 1 < p) (hinv : Inv p) {f : List Int}
include p2
theorem cg_zero {a : Int} (h0 : 0 ≤ a) (h1 : a < p) (h : Cg p a 0) : a = 0 := h.eq h0 h1 (by omega) (by omega)
include hinv
theorem norm {h : Nat → Int} {r : List Int} (ha : Ann p f h r) (hn : ∃ i, i < r.length ∧ ¬ Cg p (nth r i) 0) : ∃ d g, d < r.length ∧ Mon p f h d g := by
  obtain ⟨i, hi, hne, hz⟩ := most_ (P := fun i => ¬ Cg p (nth r i) 0) r.length hn
  have c0 : 0 ≤ nth r i % p := Int.emod_nonneg _ (by omega)
  have c1 : nth r i % p < p := Int.emod_lt_of_pos _ (by omega)
  have cn : nth r i % p ≠ 0 := fun e => hne (Cg.iff.2 (by rw [e]; simp))
  obtain ⟨c', hc⟩ := hinv (nth r i % p) (by omega) c1
  have hc2 : Cg p (c' * nth r i) 1 := by
    rw [Int.mul_comm]
    exact ((Cg.mod p (nth r i)).symm.mul_right c').trans hc
  refine ⟨i, (List.range (i + 1)).map fun t => (c' * nth r t) % p, hi, by simp, ?_, ?_, fun s hs => ?_⟩
  · refine Dg.of (by omega) fun t ht => ?_
    rw [nth_map_range]
    split
    · exact ⟨Int.emod_nonneg _ (by omega), Int.emod_lt_of_pos _ (by omega)⟩
    · omega
  · rw [nth_map_range, if_pos (by omega)]
    have := Cg.iff.1 hc2
    rw [this, Int.emod_eq_of_lt (by omega) p2]
  · have h1 : Cg p (linF ((List.range (i + 1)).map fun t => (c' * nth r t) % p) (psi f h s)) (c' * sumN (i + 1) fun t => nth r t * psi f h s t) := by
      rw [← sumN_mul]
      unfold linF
      rw [List.length_map, List.length_range]
      refine Cg.sum fun t ht => ?_
      rw [nth_map_range, if_pos ht, ← Int.mul_assoc]
      exact (Cg.mod p _).mul_right _
    have h2 : Cg p (sumN (i + 1) fun t => nth r t * psi f h s t) (linF r (psi f h s)) := by
      have e : sumN r.length (fun t => if t < i + 1 then nth r t * psi f h s t else 0) = sumN (i + 1) fun t => nth r t * psi f h s t := by
        rw [sumN_more (n := i + 1) (by omega) (fun t a _ => by rw [if_neg (by omega)])]
        exact sumN_congr fun t ht => by rw [if_pos ht]
      rw [← e]
      refine Cg.sum fun t ht => ?_
      by_cases e : t < i + 1
      · rw [if_pos e]; exact Cg.rfl_ _ _
      · rw [if_neg e]
        have hh : Cg p (nth r t) 0 := Classical.not_not.1 (hz t (by omega) ht)
        have := hh.mul_right (psi f h s t)
        rw [Int.zero_mul] at this
        exact this.symm
    have h3 := (h2.trans (ha s hs)).mul_left c'
    rw [Int.mul_zero] at h3
    exact h1.trans h3
end
def Irr (p : Int) (f : List Int) : Prop := ∀ d g, 1 ≤ d → 2 * d ≤ f.length - 1 → g.length = d + 1 → Dg p g → nth g d = 1 → ∃ t, nth (remP p g f) t ≠ 0
section
variable {p : Int} (p2 : 1 < p)
include p2
theorem remP_lin {g u : List Int} {d n : Nat} (hg : g.length = d + 1) (hm : nth g d = 1) (hu : u.length = n + 1) (hd : d ≤ n) (hD : Dg p u) :
    (remP p g u).length = d ∧ Dg p (remP p g u) ∧ ∃ q : Nat → Int, q (n - d) = nth u n ∧ ∀ ψ : Nat → Int, Cg p (linF (remP p g u) ψ + sumN (n + 1 - d) fun o => q o * sumN (d + 1) fun t => nth g t * ψ (o + t)) (linF u ψ) := by
  have hp0 : 0 < p := by omega
  obtain ⟨a, b, q, -, q2, q3⟩ := remTo_inv hp0 (by_ := g) (u := u) (by omega) (by rw [hg, show d + 1 - 1 = d from by omega]; exact hm) hD (u.length - (g.length - 1)) (Nat.le_refl _)
  rw [hu, hg, show d + 1 - 1 = d from by omega] at a b q2 q3
  rw [show n + 1 - (d + 1) = n - d from by omega, show n + 1 - 1 = n from by omega] at q2
  have er : remP p g u = (remTo p g u (n + 1 - d)).take d := by unfold remP; rw [hu, hg, show d + 1 - 1 = d from by omega]
  refine ⟨by rw [er, List.length_take, remTo_len, hu]; omega, ?_, q, q2 (by omega), fun ψ => ?_⟩
  · rw [er]
    intro t
    rw [nth_takeI]
    split
    · exact a t
    · omega
  · have h1 := q3 ψ
    rw [er, linF_take (by rw [remTo_len, hu]; exact fun t h1 h2 => b t (by omega) h2)]
    refine Cg.trans (Cg.of_eq ?_) h1
    congr 1
    rw [← sumN_rev (n + 1 - d)]
    exact sumN_congr fun j hj => by rw [show n + 1 - d - 1 - j = n + 1 - (d + 1) - j from by omega]
variable (hinv : Inv p) {f : List Int} {k : Nat} (hk : f.length = k + 1) (k1 : 1 ≤ k) (hm : nth f k = 1) (hD : Dg p f) (hi : Irr p f)
include hinv hk k1 hm hD
theorem min_divides {h : Nat → Int} {d : Nat} {g : List Int} (hg : Mon p f h d g) (hl : ∀ e, e < d → ∀ g, ¬ Mon p f h e g) (hd : d ≤ k) : (∀ t, nth (remP p g f) t = 0) ∧
    ∃ q : Nat → Int, q (k - d) = 1 ∧ ∀ ψ : Nat → Int, Cg p (sumN (k + 1 - d) fun o => q o * sumN (d + 1) fun t => nth g t * ψ (o + t)) (linF f ψ) := by
  obtain ⟨g1, g2, g3, g4⟩ := hg
  obtain ⟨r1, r2, q, q1, q2⟩ := remP_lin p2 g1 g3 hk hd hD
  have hz : ∀ t, nth (remP p g f) t = 0 := by
    refine Classical.byContradiction fun hn => ?_
    obtain ⟨t, ht⟩ := Classical.not_forall.1 hn
    have hlt : t < (remP p g f).length := Classical.byContradiction fun e => ht (nth_beyond (by omega))
    have hAnn : Ann p f h (remP p g f) := fun s hs => by
      have e1 := q2 (psi f h s)
      have e2 : Cg p (sumN (k + 1 - d) fun o => q o * sumN (d + 1) fun t => nth g t * psi f h s (o + t)) 0 := by
        have : Cg p (sumN (k + 1 - d) fun o => q o * sumN (d + 1) fun t => nth g t * psi f h s (o + t)) (sumN (k + 1 - d) fun _ => 0) := Cg.sum fun o _ => by
          have := (Ann.shift hk k1 g4 o (s := s) (by omega)).mul_left (q o)
          rw [g1, Int.mul_zero] at this
          exact this
        exact this.trans (Cg.of_eq (sumN_zero fun _ _ => rfl))
      have e3 := ann_self hk k1 hm p h s hs
      have e4 := (e1.trans e3).sub e2
      refine Cg.trans (Cg.of_eq ?_) e4
      omega
    obtain ⟨e, g', he, hg'⟩ := norm p2 hinv hAnn ⟨t, hlt, fun hc => ht (cg_zero p2 (r2 t).1 (r2 t).2 hc)⟩
    exact hl e (by omega) g' hg'
  refine ⟨hz, q, by rw [q1]; exact hm, fun ψ => ?_⟩
  have e1 := q2 ψ
  have e0 : linF (remP p g f) ψ = 0 := sumN_zero fun t _ => by rw [hz, Int.zero_mul]
  rw [e0, Int.zero_add] at e1
  exact e1
include hi
theorem no_zero {h : Nat → Int} {r : List Int} (hr : r.length ≤ k) (ha : Ann p f h r) (hn : ∃ i, i < r.length ∧ ¬ Cg p (nth r i) 0) : ∀ j, j < k → Cg p (h j) 0 := by
  refine fun j hj => Classical.byContradiction fun hne => ?_
  -- a least divisor of degree at least 1
  have low : ∀ {h : Nat → Int} {n : Nat}, (∃ j, j < k ∧ ¬ Cg p (h j) 0) → (∃ g, Mon p f h n g) → n ≤ k → ∃ d g, d ≤ n ∧ 1 ≤ d ∧ Mon p f h d g ∧ ∀ e, e < d → ∀ g, ¬ Mon p f h e g := by
    intro h n ⟨j, hj, hne⟩ hg hnk
    obtain ⟨d, d1, ⟨g, d2⟩, d3⟩ := least_ (P := fun n => ∃ g, Mon p f h n g) hg
    refine ⟨d, g, d1, ?_, d2, fun e he g hg => d3 e he ⟨g, hg⟩⟩
    by_cases e : d = 0
    · subst e
      exfalso
      have := d2.2.2.2 j (by omega)
      unfold linF at this
      rw [d2.1, sumN, sumN, d2.2.2.1, psi_zero hk k1 h hj, Int.one_mul, Int.zero_add] at this
      exact hne this
    · omega
  obtain ⟨d0, g0, hd0, hg0⟩ := norm p2 hinv ha hn
  obtain ⟨d, g, d1, d2, d3, d4⟩ := low ⟨j, hj, hne⟩ ⟨g0, hg0⟩ (by omega)
  obtain ⟨z, q, q1, q2⟩ := min_divides p2 hinv hk k1 hm hD d3 d4 (by omega)
  by_cases hh : 2 * d ≤ k
  · obtain ⟨t, ht⟩ := hi d g d2 (by omega) d3.1 d3.2.1 d3.2.2.1
    exact ht (z t)
  · -- the quotient takes g to 0
    have hQ : Ann p f (nth g) ((List.range (k + 1 - d)).map q) := fun s hs => by
      have e1 := q2 fun t => powX f t s
      have e2 : linF f (fun t => powX f t s) = 0 := by
        have := powX_rec hk k1 hm 0 (s := s) (by omega)
        unfold linF
        rw [hk]
        refine Eq.trans (sumN_congr fun t _ => ?_) this
        rw [Nat.zero_add]
      rw [e2] at e1
      refine Cg.trans (Cg.of_eq ?_) e1
      unfold linF psi
      rw [List.length_map, List.length_range]
      refine sumN_congr fun o ho => ?_
      rw [nth_map_range, if_pos ho, hk, show k + 1 - 1 = k from by omega]
      congr 1
      exact sumN_more (by omega) fun t h1 h2 => by rw [nth_beyond (by rw [d3.1]; omega), Int.zero_mul]
    have one_ne : ¬ Cg p 1 0 := fun hc => by have := cg_zero p2 (by omega) p2 hc; omega
    obtain ⟨e0, g1, he0, hg1⟩ := norm p2 hinv hQ ⟨k - d, by simp; omega, by rw [nth_map_range, if_pos (by omega), q1]; exact one_ne⟩
    rw [List.length_map, List.length_range] at he0
    obtain ⟨e, g', e1, e2, e3, e4⟩ := low (h := nth g) ⟨d, by omega, by rw [d3.2.2.1]; exact one_ne⟩ ⟨g1, hg1⟩ (by omega)
    obtain ⟨z', -⟩ := min_divides p2 hinv hk k1 hm hD e3 e4 (by omega)
    obtain ⟨t, ht⟩ := hi e g' e2 (by omega) e3.1 e3.2.1 e3.2.2.1
    exact ht (z' t)
end
/-! digits -/
def divN (a p : Int) : Nat → Int
  | 0 => a
  | j + 1 => divN a p j / p
def digsP (a p : Int) (n : Nat) : List Int := (List.range n).map fun i => divN a p i % p
def numR : List Int → Int → Int
  | [], _ => 0
  | d :: l, p => d + p * numR l p
theorem digs_len (a p : Int) (n : Nat) : (digsP a p n).length = n := by simp [digsP]
theorem digs_nth (a p : Int) (n i : Nat) : nth (digsP a p n) i = if i < n then divN a p i % p else 0 := nth_map_range n _ i
theorem digs_dg {p : Int} (h0 : 0 < p) (a : Int) (n : Nat) : Dg p (digsP a p n) := fun t => by
  rw [digs_nth]
  split
  · exact ⟨Int.emod_nonneg _ (by omega), Int.emod_lt_of_pos _ h0⟩
  · omega
theorem divN_succ (a p : Int) (i : Nat) : divN a p (i + 1) = divN (a / p) p i := by
  induction i with
  | zero => rfl
  | succ i ih => rw [divN, ih, divN]
theorem digs_succ (a p : Int) (n : Nat) : digsP a p (n + 1) = a % p :: digsP (a / p) p n := by
  unfold digsP
  rw [List.range_succ_eq_map, List.map_cons, List.map_map]
  congr 1
  exact List.map_congr_left fun i _ => by simp only [Function.comp]; rw [Nat.succ_eq_add_one, divN_succ]
theorem digs_take {a p : Int} {n j : Nat} (h : j < n) : (digsP a p n).take (j + 1) = (digsP a p n).take j ++ [divN a p j % p] := by
  rw [List.take_succ_eq_append_getElem (by rw [digs_len]; exact h)]
  congr 2
  rw [← nth_get, digs_nth, if_pos h]
theorem pow_succ_int (p : Int) (n : Nat) : p ^ (n + 1) = p * p ^ n := by rw [Int.pow_succ, Int.mul_comm]
theorem num_digs {p : Int} (h0 : 0 < p) : ∀ (n : Nat) (a : Int), 0 ≤ a → a < p ^ n → numR (digsP a p n) p = a
  | 0, a, h1, h2 => by
    rw [Int.pow_zero] at h2
    show (0 : Int) = a
    omega
  | n + 1, a, h1, h2 => by
    rw [digs_succ, numR, num_digs h0 n (a / p) (Int.ediv_nonneg h1 (by omega)) (by
      rw [pow_succ_int] at h2
      exact Int.ediv_lt_of_lt_mul h0 (by rw [Int.mul_comm]; exact h2))]
    have := Int.mul_ediv_add_emod a p
    omega
theorem Dg.tail {p d : Int} {l : List Int} (h : Dg p (d :: l)) : Dg p l := fun t => h (t + 1)
theorem num_bd {p : Int} (h0 : 0 < p) : ∀ {l : List Int}, Dg p l → 0 ≤ numR l p ∧ numR l p < p ^ l.length
  | [], _ => by simp [numR]
  | d :: l, h => by
    obtain ⟨a, b⟩ := num_bd h0 h.tail
    obtain ⟨c, e⟩ := h 0
    change 0 ≤ d at c
    change d < p at e
    rw [numR, List.length_cons, pow_succ_int]
    have h1 : 0 ≤ p * numR l p := Int.mul_nonneg (by omega) a
    have h2 : p * (numR l p + 1) ≤ p * p ^ l.length := Int.mul_le_mul_of_nonneg_left (by omega) (by omega)
    rw [Int.mul_add] at h2
    omega
theorem digs_num {p : Int} (h0 : 0 < p) : ∀ {l : List Int}, Dg p l → digsP (numR l p) p l.length = l
  | [], _ => rfl
  | d :: l, h => by
    obtain ⟨c, e⟩ := h 0
    change 0 ≤ d at c
    change d < p at e
    rw [List.length_cons, digs_succ, numR]
    have h1 : (d + p * numR l p) % p = d := by rw [Int.add_mul_emod_self_left, Int.emod_eq_of_lt c e]
    have h2 : (d + p * numR l p) / p = numR l p := by rw [Int.add_mul_ediv_left _ _ (by omega), Int.ediv_eq_zero_of_lt c e, Int.zero_add]
    rw [h1, h2, digs_num h0 h.tail]
theorem num_zero {p : Int} (h0 : 0 < p) : ∀ {l : List Int}, Dg p l → (numR l p = 0 ↔ ∀ t, nth l t = 0)
  | [], _ => by simp [numR, nth]
  | d :: l, h => by
    have ih := num_zero h0 h.tail
    obtain ⟨a, -⟩ := num_bd h0 h.tail
    obtain ⟨c, -⟩ := h 0
    change 0 ≤ d at c
    have h1 : 0 ≤ p * numR l p := Int.mul_nonneg (by omega) a
    rw [numR]
    constructor
    · intro e t
      have e1 : d = 0 := by omega
      have e2 : p * numR l p = 0 := by omega
      cases t with
      | zero => exact e1
      | succ t =>
        have e3 : numR l p = 0 := (Int.mul_eq_zero.1 e2).resolve_left (by omega)
        exact ih.1 e3 t
    · intro e
      have e1 : d = 0 := e 0
      have e2 : numR l p = 0 := ih.2 fun t => e (t + 1)
      rw [e1, e2, Int.mul_zero]; rfl
theorem num_drop {l : List Int} {p : Int} {k : Nat} (h : k < l.length) : numR (l.drop k) p = numR (l.drop (k + 1)) p * p + nth l k := by
  rw [List.drop_eq_getElem_cons h, numR, nth_get h, Int.mul_comm]; omega
theorem dg_drop {p : Int} {l : List Int} (h : Dg p l) (k : Nat) : Dg p (l.drop k) := fun t => by
  have : nth (l.drop k) t = nth l (k + t) := by simp [nth, List.getD]
  rw [this]; exact h _
theorem pow_mono {p : Int} (h0 : 0 < p) {m n : Nat} (h : m ≤ n) : p ^ m ≤ p ^ n := by
  induction n with
  | zero => obtain rfl : m = 0 := by omega
            exact Int.le_refl _
  | succ n ih =>
    by_cases e : m = n + 1
    · rw [e]; exact Int.le_refl _
    · have h1 := ih (by omega)
      rw [pow_succ_int]
      have h2 : 1 * p ^ n ≤ p * p ^ n := Int.mul_le_mul_of_nonneg_right (by omega) (Int.le_of_lt (Int.pow_pos h0))
      omega
/-! the primes below 64 -/
def PR : List Int := [2, 3, 5, 7, 11, 13, 17, 19, 23, 29, 31, 37, 41, 43, 47, 53, 59, 61]
theorem PR_inv : (PR.all fun p => (List.range p.toNat).all fun c => c == 0 || (List.range p.toNat).any fun d => (c * d) % p.toNat == 1) = true := by decide +kernel
theorem PR_bd {p : Int} (h : p ∈ PR) : 2 ≤ p ∧ p ≤ 61 := by
  have : (PR.all fun p => decide (2 ≤ p ∧ p ≤ 61)) = true := by decide +kernel
  simpa using List.all_eq_true.1 this p h
theorem inv_PR {p : Int} (h : p ∈ PR) : Inv p := fun c h0 h1 => by
  obtain ⟨b1, b2⟩ := PR_bd h
  have h2 := List.all_eq_true.1 (List.all_eq_true.1 PR_inv p h) c.toNat (List.mem_range.2 (by omega))
  rw [Bool.or_eq_true] at h2
  rcases h2 with h2 | h2
  · have : c.toNat = 0 := by simpa using h2
    omega
  · obtain ⟨d, hd, h3⟩ := List.any_eq_true.1 h2
    have h4 : (c.toNat * d) % p.toNat = 1 := by simpa using h3
    refine ⟨(d : Int), Cg.iff.2 ?_⟩
    have h5 : ((c.toNat * d : Nat) : Int) % (p.toNat : Int) = 1 := by rw [← Int.natCast_emod, h4]; rfl
    rw [Int.natCast_mul, Int.toNat_of_nonneg (by omega), Int.toNat_of_nonneg (by omega)] at h5
    rw [h5, Int.emod_eq_of_lt (by omega) (by omega)]
/-! a field -/
structure FldOk (p : Int) (k : Nat) (f : List Int) : Prop where
  pr : p ∈ PR
  k1 : 1 ≤ k
  q64 : p ^ k ≤ 64
  len : f.length = k + 1
  mon : nth f k = 1
  dg : Dg p f
  irr : ∀ d : Nat, 1 ≤ d → 2 * d ≤ k → ∀ n : Int, 0 ≤ n → n < p ^ d → ∃ t, nth (remP p (digsP n p d ++ [1]) f) t ≠ 0
theorem FldOk.p2 {p : Int} {k : Nat} {f : List Int} (h : FldOk p k f) : 1 < p := by have := PR_bd h.pr; omega
theorem nth_snoc {l : List Int} {x : Int} : nth (l ++ [x]) l.length = x := by simp [nth, List.getD]
theorem FldOk.irr' {p : Int} {k : Nat} {f : List Int} (h : FldOk p k f) : Irr p f := fun d g h1 h2 h3 h4 h5 => by
  have p0 : 0 < p := by have := h.p2; omega
  rw [h.len] at h2
  have e : g = g.take d ++ [1] := by
    rw [← List.take_append_drop d g]
    congr 1
    · rw [List.take_append_drop]
    · rw [List.drop_eq_getElem_cons (by omega), List.drop_eq_nil_of_le (by omega)]
      congr 1
      rw [← nth_get, h5]
  have hd : Dg p (g.take d) := fun t => by
    rw [nth_takeI]
    split
    · exact h4 t
    · omega
  have hl : (g.take d).length = d := by rw [List.length_take]; omega
  obtain ⟨b1, b2⟩ := num_bd p0 hd
  rw [hl] at b2
  have := h.irr d h1 (by omega) (numR (g.take d) p) b1 b2
  have e2 := digs_num p0 hd
  rw [hl] at e2
  rwa [e2, ← e] at this
def mulV (f : List Int) (k : Nat) (x y : Nat → Int) (s : Nat) : Int := sumN k fun i => sumN k fun j => x i * y j * powX f (i + j) s
def mulP (p : Int) (k : Nat) (f : List Int) (a b : Int) : Int := numR ((List.range k).map fun s => mulV f k (nth (digsP a p k)) (nth (digsP b p k)) s % p) p
def sumP (p : Int) (k : Nat) (c a b : Int) : Int := numR ((List.range k).map fun i => (nth (digsP a p k) i + c * nth (digsP b p k) i) % p) p
theorem map_dg {p : Int} (h0 : 0 < p) (k : Nat) (F : Nat → Int) : Dg p ((List.range k).map fun s => F s % p) := fun t => by
  rw [nth_map_range]
  split
  · exact ⟨Int.emod_nonneg _ (by omega), Int.emod_lt_of_pos _ h0⟩
  · omega
theorem mulP_comm (p : Int) (k : Nat) (f : List Int) (a b : Int) : mulP p k f a b = mulP p k f b a := by
  unfold mulP
  congr 1
  refine List.map_congr_left fun s _ => ?_
  congr 1
  unfold mulV
  rw [sumN_swap]
  refine sumN_congr fun i _ => sumN_congr fun j _ => ?_
  rw [Int.mul_comm (nth (digsP a p k) j), Nat.add_comm]
theorem digs_zero (p : Int) (n : Nat) : ∀ t, nth (digsP 0 p n) t = 0 := fun t => by
  rw [digs_nth]
  split
  · have : ∀ i, divN 0 p i = 0 := fun i => by
      induction i with
      | zero => rfl
      | succ i ih => rw [divN, ih]; simp
    rw [this]; simp
  · rfl
section
variable {p : Int} (h0 : 0 < p) (k : Nat) (f : List Int)
include h0
theorem mulP_bd (a b : Int) : 0 ≤ mulP p k f a b ∧ mulP p k f a b < p ^ k := by
  have := num_bd h0 (map_dg h0 k (mulV f k (nth (digsP a p k)) (nth (digsP b p k))))
  rwa [List.length_map, List.length_range] at this
theorem sumP_bd (c a b : Int) : 0 ≤ sumP p k c a b ∧ sumP p k c a b < p ^ k := by
  have := num_bd h0 (map_dg h0 k fun i => nth (digsP a p k) i + c * nth (digsP b p k) i)
  rwa [List.length_map, List.length_range] at this
theorem mulP_digs (a b : Int) : digsP (mulP p k f a b) p k = (List.range k).map fun s => mulV f k (nth (digsP a p k)) (nth (digsP b p k)) s % p := by
  have := digs_num h0 (map_dg h0 k (mulV f k (nth (digsP a p k)) (nth (digsP b p k))))
  rwa [List.length_map, List.length_range] at this
theorem sumP_digs (c a b : Int) : digsP (sumP p k c a b) p k = (List.range k).map fun i => (nth (digsP a p k) i + c * nth (digsP b p k) i) % p := by
  have := digs_num h0 (map_dg h0 k fun i => nth (digsP a p k) i + c * nth (digsP b p k) i)
  rwa [List.length_map, List.length_range] at this
theorem digs_inj {a b : Int} (ha : 0 ≤ a) (ha2 : a < p ^ k) (hb : 0 ≤ b) (hb2 : b < p ^ k) (h : digsP a p k = digsP b p k) : a = b := by
  rw [← num_digs h0 k a ha ha2, ← num_digs h0 k b hb hb2, h]
theorem sumP_zero {c a : Int} (ha : 0 ≤ a) (ha2 : a < p ^ k) : sumP p k c a 0 = a := by
  refine digs_inj h0 k (sumP_bd h0 k c a 0).1 (sumP_bd h0 k c a 0).2 ha ha2 ?_
  rw [sumP_digs h0]
  refine nth_ext (by simp [digs_len]) fun i hi => ?_
  rw [List.length_map, List.length_range] at hi
  rw [nth_map_range, if_pos hi, digs_zero p, Int.mul_zero, Int.add_zero]
  obtain ⟨x, y⟩ := digs_dg h0 a k i
  exact Int.emod_eq_of_lt x y
theorem mulP_zero (a : Int) : mulP p k f a 0 = 0 := by
  refine (num_zero h0 (map_dg h0 k _)).2 fun t => ?_
  rw [nth_map_range]
  split
  · have : mulV f k (nth (digsP a p k)) (nth (digsP 0 p k)) t = 0 := sumN_zero fun i _ => sumN_zero fun j _ => by rw [digs_zero p, Int.mul_zero, Int.zero_mul]
    rw [this]; simp
  · rfl
theorem sub_mul_two (v c w : Int) : sumP p k (p - 1) v (mulP p k f w c) = sumP p k 1 v (mulP p k f (sumP p k (p - 1) 0 c) w) := by
  unfold sumP
  congr 1
  refine List.map_congr_left fun s hs => ?_
  have hs' := List.mem_range.1 hs
  refine Cg.iff.1 ((Cg.rfl_ p _).add ?_)
  rw [mulP_digs h0, nth_map_range, if_pos hs']
  have e2 : digsP (numR ((List.range k).map fun i => (nth (digsP 0 p k) i + (p - 1) * nth (digsP c p k) i) % p) p) p k = (List.range k).map fun i => (nth (digsP 0 p k) i + (p - 1) * nth (digsP c p k) i) % p := sumP_digs h0 k (p - 1) 0 c
  rw [show digsP (mulP p k f (numR ((List.range k).map fun i => (nth (digsP 0 p k) i + (p - 1) * nth (digsP c p k) i) % p) p) w) p k = _ from mulP_digs h0 k f _ w, nth_map_range, if_pos hs', e2, Int.one_mul]
  -- both are - c w
  have a1 : Cg p ((p - 1) * (mulV f k (nth (digsP w p k)) (nth (digsP c p k)) s % p)) (-mulV f k (nth (digsP w p k)) (nth (digsP c p k)) s) := by
    refine ((Cg.mod p _).mul_left (p - 1)).trans ⟨mulV f k (nth (digsP w p k)) (nth (digsP c p k)) s, ?_⟩
    rw [Int.sub_mul]; omega
  have a2 : Cg p (mulV f k (nth ((List.range k).map fun i => (nth (digsP 0 p k) i + (p - 1) * nth (digsP c p k) i) % p)) (nth (digsP w p k)) s % p) (-mulV f k (nth (digsP w p k)) (nth (digsP c p k)) s) := by
    refine (Cg.mod p _).trans ?_
    have e3 : -mulV f k (nth (digsP w p k)) (nth (digsP c p k)) s = sumN k fun i => sumN k fun j => (-1) * (nth (digsP c p k) i * nth (digsP w p k) j * powX f (i + j) s) := by
      have : mulV f k (nth (digsP w p k)) (nth (digsP c p k)) s = sumN k fun i => sumN k fun j => nth (digsP c p k) i * nth (digsP w p k) j * powX f (i + j) s := by
        unfold mulV
        rw [sumN_swap]
        refine sumN_congr fun i _ => sumN_congr fun j _ => ?_
        rw [Int.mul_comm (nth (digsP w p k) j), Nat.add_comm]
      rw [this, show ∀ x : Int, -x = (-1) * x from fun x => by omega, ← sumN_mul]
      exact sumN_congr fun i _ => (sumN_mul _ _ _).symm
    rw [e3]
    refine Cg.sum fun i hi => Cg.sum fun j _ => ?_
    rw [nth_map_range, if_pos hi, digs_zero p, Int.zero_add, ← Int.mul_assoc, ← Int.mul_assoc]
    refine Cg.mul_right (Cg.mul_right ?_ _) _
    refine (Cg.mod p _).trans ⟨nth (digsP c p k) i, ?_⟩
    rw [Int.sub_mul]; omega
  exact a1.trans a2.symm
end
section
variable {p : Int} {k : Nat} {f : List Int} (h : FldOk p k f)
include h
theorem rem_digit {z : List Int} (hz : Dg p z) (hl : k ≤ z.length) {s : Nat} (hs : s < k) : nth (remP p f z) s = linF z (fun t => powX f t s) % p := by
  have p0 : 0 < p := by have := h.p2; omega
  by_cases e : z.length = k
  · have e1 : remP p f z = z := by
      unfold remP
      rw [h.len, e, show k + 1 - 1 = k from by omega, Nat.sub_self, remTo]
      exact List.take_of_length_le (by omega)
    rw [e1]
    have e2 : linF z (fun t => powX f t s) = nth z s := by
      unfold linF
      rw [e, sumN_congr (g := fun t => if t = s then nth z s else 0) (fun t ht => by
        show nth _ t * powX f t s = _
        rw [powX_low h.len h.k1 ht hs]
        by_cases e : t = s
        · subst e; simp
        · rw [if_neg (fun q => e q.symm), if_neg e, Int.mul_zero]), sumN_at hs]
    rw [e2, Int.emod_eq_of_lt (hz s).1 (hz s).2]
  · obtain ⟨n, hn⟩ : ∃ n, z.length = n + 1 := ⟨z.length - 1, by omega⟩
    obtain ⟨a, b, q, -, c⟩ := remP_lin h.p2 h.len h.mon hn (by omega) hz
    have c1 := c fun t => powX f t s
    have c2 : sumN (n + 1 - k) (fun o => q o * sumN (k + 1) fun t => nth f t * powX f (o + t) s) = 0 := sumN_zero fun o _ => by rw [powX_rec h.len h.k1 h.mon o hs, Int.mul_zero]
    rw [c2, Int.add_zero] at c1
    have e2 : linF (remP p f z) (fun t => powX f t s) = nth (remP p f z) s := by
      unfold linF
      rw [a, sumN_congr (g := fun t => if t = s then nth (remP p f z) s else 0) (fun t ht => by
        show nth _ t * powX f t s = _
        rw [powX_low h.len h.k1 ht hs]
        by_cases e : t = s
        · subst e; simp
        · rw [if_neg (fun q => e q.symm), if_neg e, Int.mul_zero]), sumN_at hs]
    rw [e2] at c1
    have := Cg.iff.1 c1
    rw [Int.emod_eq_of_lt (b s).1 (b s).2] at this
    exact this
theorem remP_len {z : List Int} (hl : k ≤ z.length) : (remP p f z).length = k := by
  unfold remP
  rw [List.length_take, remTo_len, h.len]; omega
theorem rem_mul {a b : Int} {z : List Int} (hz : Dg p z) (hl : k ≤ z.length)
    (hc : ∀ ψ : Nat → Int, Cg p (linF z ψ) (sumN k fun i => sumN k fun j => nth (digsP a p k) i * nth (digsP b p k) j * ψ (i + j))) : numR (remP p f z) p = mulP p k f a b := by
  unfold mulP
  congr 1
  refine nth_ext (by rw [remP_len h hl]; simp) fun s hs => ?_
  rw [remP_len h hl] at hs
  rw [rem_digit h hz hl hs, nth_map_range, if_pos hs]
  exact Cg.iff.1 (hc fun t => powX f t s)
theorem mul_inj {a b c : Int} (ha : 0 < a) (ha2 : a < p ^ k) (hb : 0 ≤ b) (hb2 : b < p ^ k) (hc : 0 ≤ c) (hc2 : c < p ^ k) (e : mulP p k f a b = mulP p k f a c) : b = c := by
  have p0 : 0 < p := by have := h.p2; omega
  have e1 : ∀ s, s < k → Cg p (mulV f k (nth (digsP a p k)) (nth (digsP b p k)) s) (mulV f k (nth (digsP a p k)) (nth (digsP c p k)) s) := fun s hs => by
    have h1 := mulP_digs p0 k f a b
    rw [e, mulP_digs p0 k f a c] at h1
    have h2 : nth ((List.range k).map fun s => mulV f k (nth (digsP a p k)) (nth (digsP c p k)) s % p) s = nth ((List.range k).map fun s => mulV f k (nth (digsP a p k)) (nth (digsP b p k)) s % p) s := by rw [h1]
    rw [nth_map_range, nth_map_range, if_pos hs, if_pos hs] at h2
    exact Cg.iff.2 h2.symm
  have hA : Ann p f (fun j => nth (digsP b p k) j - nth (digsP c p k) j) (digsP a p k) := fun s hs => by
    rw [h.len] at hs
    have h1 := (e1 s (by omega)).sub (Cg.rfl_ p (mulV f k (nth (digsP a p k)) (nth (digsP c p k)) s))
    refine Cg.trans (Cg.of_eq ?_) (h1.trans (Cg.of_eq (Int.sub_self _)))
    unfold linF psi mulV
    rw [digs_len, h.len, show k + 1 - 1 = k from by omega, ← sumN_sub]
    refine sumN_congr fun i _ => ?_
    rw [← sumN_mul, ← sumN_sub]
    refine sumN_congr fun j _ => ?_
    rw [Int.sub_mul, Int.mul_sub, Int.mul_assoc, Int.mul_assoc]
  have hn : ∃ i, i < (digsP a p k).length ∧ ¬ Cg p (nth (digsP a p k) i) 0 := by
    refine Classical.byContradiction fun hno => ?_
    have hz : ∀ t, nth (digsP a p k) t = 0 := fun t => by
      by_cases ht : t < (digsP a p k).length
      · refine Classical.byContradiction fun hne => hno ⟨t, ht, fun hcg => hne ?_⟩
        exact cg_zero h.p2 (digs_dg p0 a k t).1 (digs_dg p0 a k t).2 hcg
      · exact nth_beyond (by omega)
    have := (num_zero p0 (digs_dg p0 a k)).2 hz
    rw [num_digs p0 k a (by omega) ha2] at this
    omega
  have key := no_zero h.p2 (inv_PR h.pr) h.len h.k1 h.mon h.dg h.irr' (by rw [digs_len]; exact Nat.le_refl _) hA hn
  refine digs_inj p0 k hb hb2 hc hc2 (nth_ext (by rw [digs_len, digs_len]) fun j hj => ?_)
  rw [digs_len] at hj
  have h1 : Cg p (nth (digsP b p k) j) (nth (digsP c p k) j) := by
    have := (key j hj).add (Cg.rfl_ p (nth (digsP c p k) j))
    refine Cg.trans (Cg.of_eq ?_) (this.trans (Cg.of_eq (Int.zero_add _)))
    show _ = nth (digsP b p k) j - nth (digsP c p k) j + nth (digsP c p k) j
    omega
  exact h1.eq (digs_dg p0 b k j).1 (digs_dg p0 b k j).2 (digs_dg p0 c k j).1 (digs_dg p0 c k j).2
theorem FldOk.qnat : ∃ q : Nat, p ^ k = (q : Int) ∧ 2 ≤ q ∧ q ≤ 64 := by
  have p0 := h.p2
  have h1 : p ^ 1 ≤ p ^ k := pow_mono (by omega) h.k1
  rw [Int.pow_succ, Int.pow_zero, Int.one_mul] at h1
  have h2 := h.q64
  exact ⟨(p ^ k).toNat, by omega, by omega, by omega⟩
theorem inv_exists {a : Int} (ha : 0 < a) (ha2 : a < p ^ k) : ∃ b, 0 < b ∧ b < p ^ k ∧ mulP p k f a b = 1 := by
  have p0 : 0 < p := by have := h.p2; omega
  obtain ⟨q, hq, q2, q64⟩ := h.qnat
  have hP : Perm ((List.range q).map fun (b : Nat) => mulP p k f a (b : Int)) := by
    refine perm_of (n := q) (by simp) (fun v hv => ?_) (fun u v hu hv e => ?_)
    · rw [nth_map_range, if_pos hv]
      have := mulP_bd p0 k f a (v : Int)
      rw [hq] at this
      exact this
    · rw [nth_map_range, nth_map_range, if_pos hu, if_pos hv] at e
      have := mul_inj h ha ha2 (by omega) (by rw [hq]; omega) (by omega) (by rw [hq]; omega) e
      omega
  obtain ⟨v, hv, hv1⟩ := perm_surj hP (i := 1) (by simp; omega)
  simp at hv
  rw [nth_map_range, if_pos hv] at hv1
  refine ⟨(v : Int), ?_, by rw [hq]; omega, hv1⟩
  rcases Nat.eq_zero_or_pos v with e | e
  · subst e
    have := mulP_zero p0 k f a
    rw [show ((0 : Nat) : Int) = 0 from rfl, this] at hv1
    exact absurd hv1 (by decide)
  · omega
end
end Go.Proofs.YtdkbcjdimhgmnaaGreat
namespace Go.Proofs.YtdkbcjdimhgmnaaGreat
def expoF : Nat → Int → Int → Nat
  | 0, _, _ => 0
  | f + 1, a, p => if a.tmod p = 0 then expoF f (a.tdiv p) p + 1 else 0
def cofF : Nat → Int → Int → Int
  | 0, a, _ => a
  | f + 1, a, p => if a.tmod p = 0 then cofF f (a.tdiv p) p else a
def expo (a p : Int) : Nat := expoF a.natAbs a p
def cof (a p : Int) : Int := cofF a.natAbs a p
theorem tdiv_lt {a p : Int} (ha : a ≠ 0) (hp : 2 ≤ p) (h : a.tmod p = 0) : (a.tdiv p).natAbs < a.natAbs ∧ a.tdiv p ≠ 0 ∧ a = p * a.tdiv p := by
  have h1 : p * a.tdiv p = a := by have := Int.mul_tdiv_add_tmod a p; omega
  have h0 : a.tdiv p ≠ 0 := fun e => by rw [e] at h1; simp at h1; exact ha h1.symm
  refine ⟨?_, h0, h1.symm⟩
  have h2 : a.natAbs = p.natAbs * (a.tdiv p).natAbs := by rw [← Int.natAbs_mul, h1]
  have h3 : 0 < (a.tdiv p).natAbs := by omega
  have h4 : 2 ≤ p.natAbs := by omega
  rw [h2]
  calc (a.tdiv p).natAbs < 2 * (a.tdiv p).natAbs := by omega
    _ ≤ p.natAbs * (a.tdiv p).natAbs := Nat.mul_le_mul_right _ h4
theorem expoF_more {p : Int} (hp : 2 ≤ p) : ∀ (f g : Nat) (a : Int), a ≠ 0 → a.natAbs ≤ f → a.natAbs ≤ g → expoF f a p = expoF g a p ∧ cofF f a p = cofF g a p := by
  intro f
  induction f with
  | zero => intro g a ha h1 _; omega
  | succ f ih =>
    intro g a ha h1 h2
    cases g with
    | zero => omega
    | succ g =>
      unfold expoF cofF
      by_cases h : a.tmod p = 0
      · obtain ⟨h3, h4, _⟩ := tdiv_lt ha hp h
        have := ih g _ h4 (by omega) (by omega)
        rw [if_pos h, if_pos h, if_pos h, if_pos h, this.1, this.2]
        exact ⟨rfl, rfl⟩
      · rw [if_neg h, if_neg h, if_neg h, if_neg h]
        exact ⟨rfl, rfl⟩
theorem expo_yes {a p : Int} (ha : a ≠ 0) (hp : 2 ≤ p) (h : a.tmod p = 0) : expo a p = expo (a.tdiv p) p + 1 ∧ cof a p = cof (a.tdiv p) p := by
  obtain ⟨h3, h4, _⟩ := tdiv_lt ha hp h
  obtain ⟨f, hf⟩ : ∃ f, a.natAbs = f + 1 := ⟨a.natAbs - 1, by omega⟩
  have := expoF_more hp f (a.tdiv p).natAbs (a.tdiv p) h4 (by omega) (Nat.le_refl _)
  unfold expo cof
  rw [hf, show expoF (f + 1) a p = if a.tmod p = 0 then expoF f (a.tdiv p) p + 1 else 0 from rfl, show cofF (f + 1) a p = if a.tmod p = 0 then cofF f (a.tdiv p) p else a from rfl,
    if_pos h, if_pos h, this.1, this.2]
  exact ⟨rfl, rfl⟩
theorem expo_no {a p : Int} (h : a.tmod p ≠ 0) : expo a p = 0 ∧ cof a p = a := by
  unfold expo cof
  cases a.natAbs with
  | zero => exact ⟨rfl, rfl⟩
  | succ f => unfold expoF cofF; rw [if_neg h, if_neg h]; exact ⟨rfl, rfl⟩
theorem expo_ind {p : Int} (hp : 2 ≤ p) (Q : Int → Prop) (no : ∀ a, a ≠ 0 → a.tmod p ≠ 0 → Q a) (yes : ∀ a, a ≠ 0 → a.tmod p = 0 → Q (a.tdiv p) → Q a) : ∀ a, a ≠ 0 → Q a := by
  intro a
  generalize hn : a.natAbs = n
  induction n using Nat.strongRecOn generalizing a with
  | _ n ih =>
    intro ha
    by_cases h : a.tmod p = 0
    · obtain ⟨h3, h4, _⟩ := tdiv_lt ha hp h
      exact yes a ha h (ih _ (by omega) _ rfl h4)
    · exact no a ha h
theorem expo_spec {a p : Int} (ha : a ≠ 0) (hp : 2 ≤ p) : a = cof a p * p ^ expo a p ∧ (cof a p).tmod p ≠ 0 ∧ cof a p ≠ 0 := by
  refine expo_ind hp (fun a => a = cof a p * p ^ expo a p ∧ (cof a p).tmod p ≠ 0 ∧ cof a p ≠ 0) ?_ ?_ a ha
  · intro a h0 h
    rw [(expo_no h).1, (expo_no h).2]
    exact ⟨by simp, h, h0⟩
  · intro a h0 h ih
    obtain ⟨_, _, h5⟩ := tdiv_lt h0 hp h
    rw [(expo_yes h0 hp h).1, (expo_yes h0 hp h).2]
    refine ⟨?_, ih.2⟩
    rw [Int.pow_succ, ← Int.mul_assoc, ← ih.1, Int.mul_comm]
    exact h5
theorem expo_le {a p : Int} (ha : a ≠ 0) (hp : 2 ≤ p) : (2 : Nat) ^ expo a p ≤ a.natAbs ∧ (cof a p).natAbs ≤ a.natAbs := by
  refine expo_ind hp (fun a => (2 : Nat) ^ expo a p ≤ a.natAbs ∧ (cof a p).natAbs ≤ a.natAbs) ?_ ?_ a ha
  · intro a h0 h
    rw [(expo_no h).1, (expo_no h).2]
    exact ⟨by simp; omega, Nat.le_refl _⟩
  · intro a h0 h ih
    obtain ⟨h3, h4, h5⟩ := tdiv_lt h0 hp h
    rw [(expo_yes h0 hp h).1, (expo_yes h0 hp h).2]
    have h6 : a.natAbs = p.natAbs * (a.tdiv p).natAbs := by rw [← Int.natAbs_mul, ← h5]
    refine ⟨?_, by omega⟩
    rw [Nat.pow_succ, h6, Nat.mul_comm]
    exact Nat.mul_le_mul (by omega) ih.1
def facF : Nat → Int → Int → List Int
  | 0, _, _ => []
  | f + 1, p, n => if p * p ≤ n then List.replicate (expo n p) p ++ facF f (p + 1) (cof n p) else if 1 < n then [n] else []
def facs (p n : Int) : List Int := facF (n.toNat + 1) p n
theorem cof_pos {n p : Int} (hn : 0 < n) (hp : 2 ≤ p) : 0 < cof n p := by
  refine (expo_ind hp (fun a => 0 < a → 0 < cof a p) ?_ ?_ n (by omega)) hn
  · intro a h0 h ha; rw [(expo_no h).2]; exact ha
  · intro a h0 h ih ha
    rw [(expo_yes h0 hp h).2]
    refine ih ?_
    obtain ⟨_, h4, h5⟩ := tdiv_lt h0 hp h
    have : 0 ≤ a.tdiv p := Int.tdiv_nonneg (by omega) (by omega)
    omega
theorem cof_le {n p : Int} (hn : 0 < n) (hp : 2 ≤ p) : cof n p ≤ n := by
  have h1 := (expo_le (a := n) (p := p) (by omega) hp).2
  have h2 := cof_pos hn hp
  omega
theorem facF_more : ∀ (f g : Nat) (p n : Int), 2 ≤ p → 0 < n → (n + 1 - p).toNat < f → (n + 1 - p).toNat < g → facF f p n = facF g p n := by
  intro f
  induction f with
  | zero => intro g p n _ _ h _; omega
  | succ f ih =>
    intro g p n hp hn h1 h2
    cases g with
    | zero => omega
    | succ g =>
      unfold facF
      by_cases h : p * p ≤ n
      · have hpn : p ≤ n := by
          have : p * 1 ≤ p * p := Int.mul_le_mul_of_nonneg_left (by omega) (by omega)
          omega
        have h3 := cof_pos hn hp
        have h4 := cof_le hn hp
        rw [if_pos h, if_pos h, ih g (p + 1) (cof n p) (by omega) h3 (by omega) (by omega)]
      · rw [if_neg h, if_neg h]
theorem facs_eq {p n : Int} (hp : 2 ≤ p) (hn : 0 < n) : facs p n = if p * p ≤ n then List.replicate (expo n p) p ++ facs (p + 1) (cof n p) else if 1 < n then [n] else [] := by
  have h3 := cof_pos hn hp
  have h4 := cof_le hn hp
  unfold facs
  rw [show n.toNat + 1 = n.toNat.succ from rfl]
  conv => lhs; unfold facF
  by_cases h : p * p ≤ n
  · have hpn : p ≤ n := by
      have : p * 1 ≤ p * p := Int.mul_le_mul_of_nonneg_left (by omega) (by omega)
      omega
    rw [if_pos h, if_pos h, facF_more _ ((cof n p).toNat + 1) (p + 1) (cof n p) (by omega) h3 (by omega) (by omega)]
  · rw [if_neg h, if_neg h]
theorem facs_mem : ∀ (f : Nat) (p n : Int), 2 ≤ p → 0 < n → (n + 1 - p).toNat < f → (∀ d, 2 ≤ d → d < p → n.tmod d ≠ 0) → ∀ q ∈ facF f p n, 2 ≤ q ∧ q ≤ n := by
  intro f
  induction f with
  | zero => intro p n _ _ _ _ q hq; simp [facF] at hq
  | succ f ih =>
    intro p n hp hn h1 h2 q hq
    unfold facF at hq
    by_cases h : p * p ≤ n
    · have hpn : p ≤ n := by
        have : p * 1 ≤ p * p := Int.mul_le_mul_of_nonneg_left (by omega) (by omega)
        omega
      have h3 := cof_pos hn hp
      have h4 := cof_le hn hp
      rw [if_pos h] at hq
      rcases List.mem_append.1 hq with hq | hq
      · have := List.eq_of_mem_replicate hq
        omega
      · have hs := expo_spec (a := n) (p := p) (by omega) hp
        have := ih (p + 1) (cof n p) (by omega) h3 (by omega) (fun d hd1 hd2 => ?_) q hq
        · omega
        · by_cases e : d = p
          · subst e; exact hs.2.1
          · intro hd
            refine h2 d hd1 (by omega) ?_
            have hdv : d ∣ cof n p := Int.dvd_of_tmod_eq_zero hd
            rw [hs.1]
            exact Int.tmod_eq_zero_of_dvd (Int.dvd_trans hdv (Int.dvd_mul_right _ _))
    · rw [if_neg h] at hq
      by_cases h' : 1 < n
      · rw [if_pos h'] at hq
        simp at hq
        omega
      · rw [if_neg h'] at hq
        simp at hq
theorem facs_ge {n q : Int} (hn : 0 < n) (hq : q ∈ facs 2 n) : 2 ≤ q ∧ q ≤ n :=
  facs_mem _ 2 n (by omega) hn (by omega) (fun d h1 h2 => by omega) q hq
end Go.Proofs.YtdkbcjdimhgmnaaGreat
namespace Go.Proofs.YtdkbcjdimhgmnaaGreat
def noDivF : Nat → Int → Int → Bool
  | 0, _, _ => true
  | f + 1, d, n => if d * d ≤ n then (if n % d = 0 then false else noDivF f (d + 1) n) else true
def noDiv (d n : Int) : Bool := noDivF (n.toNat + 1) d n
theorem noDivF_more : ∀ (f g : Nat) (d n : Int), 2 ≤ d → (n + 1 - d).toNat < f → (n + 1 - d).toNat < g → noDivF f d n = noDivF g d n := by
  intro f
  induction f with
  | zero => intro g d n _ h _; omega
  | succ f ih =>
    intro g d n hd h1 h2
    cases g with
    | zero => omega
    | succ g =>
      unfold noDivF
      by_cases h : d * d ≤ n
      · have hpn : d ≤ n := by
          have : d * 1 ≤ d * d := Int.mul_le_mul_of_nonneg_left (by omega) (by omega)
          omega
        rw [if_pos h, if_pos h, ih g (d + 1) n (by omega) (by omega) (by omega)]
      · rw [if_neg h, if_neg h]
theorem noDiv_eq {d n : Int} (hd : 2 ≤ d) : noDiv d n = if d * d ≤ n then (if n % d = 0 then false else noDiv (d + 1) n) else true := by
  unfold noDiv
  conv => lhs; unfold noDivF
  by_cases h : d * d ≤ n
  · have hpn : d ≤ n := by
      have : d * 1 ≤ d * d := Int.mul_le_mul_of_nonneg_left (by omega) (by omega)
      omega
    rw [if_pos h, if_pos h, noDivF_more _ (n.toNat + 1) (d + 1) n (by omega) (by omega) (by omega)]
  · rw [if_neg h, if_neg h]
theorem tmod_emod {n d : Int} (hn : 0 ≤ n) : n.tmod d = n % d := Int.tmod_eq_emod_of_nonneg hn
theorem facs_ne {p n : Int} (hp : 2 ≤ p) (hn : 1 < n) : facs p n ≠ [] := by
  generalize hk : (n + 1 - p).toNat = k
  induction k using Nat.strongRecOn generalizing p n with
  | _ k ih =>
    rw [facs_eq hp (by omega)]
    by_cases h : p * p ≤ n
    · have hpn : p ≤ n := by
        have : p * 1 ≤ p * p := Int.mul_le_mul_of_nonneg_left (by omega) (by omega)
        omega
      rw [if_pos h]
      by_cases hd : n.tmod p = 0
      · rw [(expo_yes (by omega) hp hd).1, List.replicate_succ]
        simp
      · rw [(expo_no hd).1, (expo_no hd).2]
        simpa using ih _ (by omega) (by omega) hn rfl
    · rw [if_neg h, if_pos hn]
      simp
theorem noDiv_facs {p n : Int} (hp : 2 ≤ p) (hn : 1 < n) : noDiv p n = decide ((facs p n).length = 1) := by
  generalize hk : (n + 1 - p).toNat = k
  induction k using Nat.strongRecOn generalizing p n with
  | _ k ih =>
    rw [facs_eq hp (by omega), noDiv_eq hp]
    by_cases h : p * p ≤ n
    · have hpn : p ≤ n := by
        have : p * 1 ≤ p * p := Int.mul_le_mul_of_nonneg_left (by omega) (by omega)
        omega
      rw [if_pos h, if_pos h]
      by_cases hd : n.tmod p = 0
      · rw [if_pos (by rw [← tmod_emod (by omega)]; exact hd), (expo_yes (by omega) hp hd).1, (expo_yes (by omega) hp hd).2]
        obtain ⟨_, h4, h5⟩ := tdiv_lt (a := n) (p := p) (by omega) hp hd
        have hm : 0 ≤ n.tdiv p := Int.tdiv_nonneg (by omega) (by omega)
        have hge : p ≤ n.tdiv p := by
          have : p * p ≤ p * n.tdiv p := by omega
          exact Int.le_of_mul_le_mul_left this (by omega)
        symm
        simp only [decide_eq_false_iff_not, List.length_append, List.length_replicate]
        by_cases he : expo (n.tdiv p) p = 0
        · have h6 : cof (n.tdiv p) p = n.tdiv p := by
            by_cases h7 : (n.tdiv p).tmod p = 0
            · have := (expo_yes (by omega) hp h7).1
              omega
            · exact (expo_no h7).2
          have h8 := facs_ne (p := p + 1) (n := n.tdiv p) (by omega) (by omega)
          rw [h6]
          intro h9
          have : (facs (p + 1) (n.tdiv p)).length = 0 := by omega
          exact h8 (List.eq_nil_of_length_eq_zero this)
        · omega
      · rw [if_neg (by rw [← tmod_emod (by omega)]; exact hd), (expo_no hd).1, (expo_no hd).2]
        simpa using ih _ (by omega) (by omega) hn rfl
    · rw [if_neg h, if_neg h, if_pos hn]
      rfl
theorem facF_prime : ∀ (f : Nat) (p n : Int), 2 ≤ p → 0 < n → (n + 1 - p).toNat < f → (∀ d, 2 ≤ d → d < p → n.tmod d ≠ 0) → ∀ q ∈ facF f p n, ∀ d, 2 ≤ d → d < q → q.tmod d ≠ 0 := by
  intro f
  induction f with
  | zero => intro p n _ _ _ _ q hq; simp [facF] at hq
  | succ f ih =>
    intro p n hp hn h1 h2 q hq d hd1 hd2
    unfold facF at hq
    by_cases h : p * p ≤ n
    · have hpn : p ≤ n := by
        have : p * 1 ≤ p * p := Int.mul_le_mul_of_nonneg_left (by omega) (by omega)
        omega
      have h3 := cof_pos hn hp
      have h4 := cof_le hn hp
      have hs := expo_spec (a := n) (p := p) (by omega) hp
      rw [if_pos h] at hq
      rcases List.mem_append.1 hq with hq | hq
      · have e := List.eq_of_mem_replicate hq
        subst e
        intro hdq
        have hne : expo n q ≠ 0 := fun e0 => by rw [e0] at hq; simp at hq
        refine h2 d hd1 hd2 ?_
        have hqn : q ∣ n := by
          rw [hs.1]
          obtain ⟨k, hk⟩ : ∃ k, expo n q = k + 1 := ⟨expo n q - 1, by omega⟩
          rw [hk, Int.pow_succ, ← Int.mul_assoc]
          exact Int.dvd_mul_left _ _
        exact Int.tmod_eq_zero_of_dvd (Int.dvd_trans (Int.dvd_of_tmod_eq_zero hdq) hqn)
      · refine ih (p + 1) (cof n p) (by omega) h3 (by omega) (fun c hc1 hc2 => ?_) q hq d hd1 hd2
        by_cases e : c = p
        · subst e; exact hs.2.1
        · intro hc
          refine h2 c hc1 (by omega) ?_
          rw [hs.1]
          exact Int.tmod_eq_zero_of_dvd (Int.dvd_trans (Int.dvd_of_tmod_eq_zero hc) (Int.dvd_mul_right _ _))
    · rw [if_neg h] at hq
      by_cases h' : 1 < n
      · rw [if_pos h'] at hq
        simp at hq
        subst hq
        by_cases hdp : d < p
        · exact h2 d hd1 hdp
        · intro hdq
          obtain ⟨_, h6, h7⟩ := tdiv_lt (a := q) (p := d) (by omega) hd1 hdq
          have h8 : 0 ≤ q.tdiv d := Int.tdiv_nonneg (by omega) (by omega)
          have h9 : q.tdiv d < p := by
            rcases (show q.tdiv d < p ∨ p ≤ q.tdiv d by omega) with h9 | h9
            · exact h9
            · exfalso
              have a1 : p * p ≤ p * q.tdiv d := Int.mul_le_mul_of_nonneg_left h9 (by omega)
              have a2 : p * q.tdiv d ≤ d * q.tdiv d := Int.mul_le_mul_of_nonneg_right (by omega) h8
              omega
          have h10 : 2 ≤ q.tdiv d := by
            rcases (show q.tdiv d < 2 ∨ 2 ≤ q.tdiv d by omega) with h10 | h10
            · have : q.tdiv d = 1 := by omega
              rw [this] at h7; omega
            · exact h10
          refine h2 (q.tdiv d) h10 h9 ?_
          refine Int.tmod_eq_zero_of_dvd ⟨d, ?_⟩
          rw [Int.mul_comm]; exact h7
      · rw [if_neg h'] at hq
        simp at hq
def Prime (q : Int) : Prop := 2 ≤ q ∧ ∀ d, 2 ≤ d → d < q → q.tmod d ≠ 0
theorem facs_prime {n q : Int} (hn : 0 < n) (hq : q ∈ facs 2 n) : Prime q :=
  ⟨(facs_ge hn hq).1, facF_prime _ 2 n (by omega) hn (by omega) (fun d h1 h2 => by omega) q hq⟩
theorem facF_len : ∀ (f : Nat) (p n : Int), 2 ≤ p → 0 < n → (n + 1 - p).toNat < f → ((2 : Nat) ^ (facF f p n).length) ≤ n.toNat := by
  intro f
  induction f with
  | zero => intro p n _ _ h; omega
  | succ f ih =>
    intro p n hp hn h1
    unfold facF
    by_cases h : p * p ≤ n
    · have hpn : p ≤ n := by
        have : p * 1 ≤ p * p := Int.mul_le_mul_of_nonneg_left (by omega) (by omega)
        omega
      have h3 := cof_pos hn hp
      have h4 := cof_le hn hp
      have h5 := ih (p + 1) (cof n p) (by omega) h3 (by omega)
      have hs := (expo_spec (a := n) (p := p) (by omega) hp).1
      rw [if_pos h, List.length_append, List.length_replicate, Nat.pow_add]
      have h6 : n.toNat = (cof n p).toNat * p.toNat ^ expo n p := by
        have e1 : ((p.toNat ^ expo n p : Nat) : Int) = p ^ expo n p := by rw [Int.natCast_pow, Int.toNat_of_nonneg (by omega)]
        have e2 : (((cof n p).toNat * p.toNat ^ expo n p : Nat) : Int) = n := by rw [Int.natCast_mul, e1, Int.toNat_of_nonneg (by omega)]; exact hs.symm
        omega
      rw [h6, Nat.mul_comm]
      exact Nat.mul_le_mul h5 (Nat.pow_le_pow_left (by omega) _)
    · rw [if_neg h]
      split
      · simp; omega
      · simp; omega
theorem facs_len {n : Int} (hn : 0 < n) (h : n ≤ 1000000) : (facs 2 n).length ≤ 19 := by
  have := facF_len _ 2 n (by omega) hn (show (n + 1 - 2).toNat < n.toNat + 1 by omega)
  unfold facs
  rcases Nat.lt_or_ge (facF (n.toNat + 1) 2 n).length 20 with h1 | h1
  · omega
  · have h2 := Nat.pow_le_pow_right (n := 2) (by omega) h1
    omega
theorem sq_bd {p m : Int} (hp : 0 ≤ p) (h : p * p ≤ m) (hm : m ≤ 1000000) : p ≤ 1000 := by
  rcases (show p ≤ 1000 ∨ 1001 ≤ p by omega) with h1 | h1
  · exact h1
  · have : 1001 * 1001 ≤ p * p := Int.mul_le_mul h1 h1 (by omega) (by omega)
    omega
def powF : Nat → Int → Int → Int → Int → Int
  | 0, o, _, _, _ => o
  | f + 1, o, a, e, m => if 0 < e then powF f (if e % 2 = 1 then o * a % m else o) (a * a % m) (e / 2) m else o
def pw (o a e m : Int) : Int := powF (e.toNat + 1) o a e m
def md (a m : Int) : Int := (a.tmod m + m) % m
def leg (u p : Int) : Int := if pw 1 (md u p) ((p - 1) / 2) p = 1 then 0 else 1
def fl (b : Bool) : Int := if b then 1 else 0
def thr (x : Int) : Int := fl (md x 4 == 3)
def mid (x : Int) : Int := fl (decide (3 ≤ md x 8) && decide (md x 8 ≤ 5))
def hv (a b p : Int) : Int :=
  if p = 0 then fl (decide (a < 0) && decide (b < 0))
  else if 2 < p then (expo a p : Int) * expo b p * ((p - 1) / 2) + expo b p * leg (cof a p) p + expo a p * leg (cof b p) p
  else thr (cof a p) * thr (cof b p) + expo a p * mid (cof b p) + expo b p * mid (cof a p)
end Go.Proofs.YtdkbcjdimhgmnaaGreat
namespace Go.Proofs.YtdkbcjdimhgmnaaGreat
open Go.RowKit
theorem int_info' : (Tryz.prog.info? 2).map (fun i => (i.zero, i.size, i.bytes)) = some (some (.int .i64 0), 1, 8) := by kernel_rfl
theorem mul_bd' {a b A B : Int} (ha : 0 ≤ a) (hA : a ≤ A) (hb : 0 ≤ b) (hB : b ≤ B) : 0 ≤ a * b ∧ a * b ≤ A * B :=
  ⟨Int.mul_nonneg ha hb, Int.mul_le_mul hA hB hb (by omega)⟩
def facsOf (n : Int) : List Int := if inB n 1 1000000 then facs 2 n else []
set_option maxHeartbeats 1000000 in
theorem impl_FactorsOf (n : Int) (w : World) :
    Calls Tryz.prog 247 #[.int .i64 n] w (RetI w 2 (facsOf n)) := by
  by_cases h : inB n 1 1000000 = true
  · obtain ⟨n1, n2⟩ := inB_true h
    have hfl := facs_len (n := n) (by omega) n2
    have HF := Lib.hid (show facsOf n = facs 2 n by simp [facsOf, h])
    have hall : ∀ q ∈ facs 2 n, 2 ≤ q ∧ q ≤ n := fun q hq => facs_ge (by omega) hq
    have HA := Lib.hid hall; clear hall
    go_enter Tryz.func247, Tryz.ntmps247
    go_wp2_with (go_at_call 73; refine (within_any _ _ _ _).mono ?_; rintro e w' ⟨rfl, rfl⟩)
    go_loopw [0, 3, 4] (fun x v d wr => ∃ (m p : Int) (fs : List Int) (A : Option Addr) (k c : Nat), x = .int .i64 m ∧ d = .int .i64 p ∧ v = .slice A k c ∧ 1 ≤ m ∧ m ≤ 1000000 ∧ 2 ≤ p ∧ p ≤ 1001 ∧ fs ++ facs p m = facs 2 n ∧ OI wr w.heap.size 2 A k c fs ∧ Below w.heap.size w wr) (fun _ _ d _ => (1002 - intOf d).toNat)
    case atStart => exact ⟨n, 2, [], _, _, _, rfl, rfl, rfl, n1, n2, by omega, by omega, rfl, OI.nil_ _ _ _, Below.refl _ _⟩
    case round =>
      obtain ⟨m, p, fs, A, k, c, rfl, rfl, rfl, hm1, hm2, hp1, hp2, he, ho, hw⟩ := hrel
      have hmul := mul_bd' (a := p) (b := p) (A := 1001) (B := 1001) (by omega) hp2 (by omega) hp2
      have hmul1 := hmul.1
      have hmul2 := hmul.2
      clear hmul
      by_cases hsq : p * p ≤ m
      · have hp3 := sq_bd (by omega) hsq hm2
        have HE := Lib.hid (show fs ++ (List.replicate (expo m p) p ++ facs (p + 1) (cof m p)) = facs 2 n by rw [← he, facs_eq hp1 (by omega), if_pos hsq])
        clear he
        obtain ⟨wo, hwo⟩ : ∃ wo : World, wo = wr := ⟨_, rfl⟩
        subst hwo
        go_wp2
        go_loopw [0, 3] (fun x v wi => ∃ (b : Int) (gs : List Int) (A' : Option Addr) (k' c' : Nat), x = .int .i64 b ∧ v = .slice A' k' c' ∧ 1 ≤ b ∧ b ≤ 1000000 ∧ gs ++ (List.replicate (expo b p) p ++ facs (p + 1) (cof b p)) = facs 2 n ∧ OI wi w.heap.size 2 A' k' c' gs ∧ Below w.heap.size w wi) (fun x _ _ => (intOf x).natAbs)
        case atStart => exact ⟨m, fs, A, k, c, rfl, rfl, hm1, hm2, HE.out, ho, hw⟩
        case round =>
          clear hsq HE ho hw hmul1 hmul2 hm1 hm2
          rename_i wi _
          obtain ⟨b, gs, A', k', c', rfl, rfl, hb1, hb2, he', ho', hw'⟩ := hrel
          have hkl : k' ≤ 19 := by
            have h1 := ho'.len
            have h2 := congrArg List.length he'
            rw [List.length_append] at h2
            omega
          by_cases hd : b.tmod p = 0
          · have hy := expo_yes (a := b) (by omega) hp1 hd
            obtain ⟨hlt, hne, hprod⟩ := tdiv_lt (a := b) (by omega) hp1 hd
            have hq0 : 0 ≤ b.tdiv p := Int.tdiv_nonneg (by omega) (by omega)
            have hediv : b.tdiv p = b / p := Int.tdiv_eq_ediv_of_nonneg (by omega)
            have hdd : (b % p == 0) = true := by rw [← tmod_emod (by omega), hd]; rfl
            have HQ := Lib.hid (show (gs ++ [p]) ++ (List.replicate (expo (b / p) p) p ++ facs (p + 1) (cof (b / p) p)) = facs 2 n by
              rw [← he', ← hediv, hy.1, hy.2, List.replicate_succ]; simp)
            have hq1 : 1 ≤ b / p := by rw [← hediv]; omega
            have hq2 : b / p ≤ 1000000 := by rw [← hediv]; omega
            have hq3 : (b / p).natAbs < b.natAbs := by rw [← hediv]; exact hlt
            clear hy hlt hne hprod hq0 hediv hd he'
            go_wp2_with (at_builtin; refine wpList_app1 _ rfl (.tmp 19) (.tmp 21) 22 rfl 2 (.int .i64 0) 8 Tryz.underlying22 int_info' rfl (by omega) w.heap.size A' k' c' (ints gs) rfl ho'.os (.int .i64 p) rfl rfl (by omega) hw'.size ?_; intro A2 c2 w2 ho2 hg2 hn2)
            have hw2 := below_own hw' hg2 hw'.size (fun b hb => (ho'.os.lt hb).1)
            have ho3 := OI.snoc ho2 ho'.all (z := p) ⟨by omega, by omega⟩
            clear ho2 hg2 hn2 ho' hw'
            go_wp2
            go_roundw
            case rel => exact ⟨b / p, gs ++ [p], A2, k' + 1, c2, rfl, rfl, hq1, hq2, HQ.out, ho3, hw2⟩
            case measure => simpa [intOf] using hq3
          · have hdd : (b % p == 0) = false := by rw [← tmod_emod (by omega)]; simpa using hd
            have hy := expo_no hd
            have HQ := Lib.hid (show gs ++ facs (p + 1) b = facs 2 n by rw [← he', hy.1, hy.2]; simp)
            clear hy hd he'
            go_wp2
            go_roundw
            case rel => exact ⟨b, p + 1, gs, A', k', c', rfl, rfl, rfl, hb1, hb2, by omega, by omega, HQ.out, ho', hw'⟩
            case measure => simp [intOf]; omega
      · have hkl : k ≤ 19 := by
          have h1 := ho.len
          have h2 := congrArg List.length he
          rw [List.length_append] at h2
          omega
        by_cases hm : 1 < m
        · have HE := Lib.hid (show fs ++ [m] = facsOf n by rw [HF.out, ← he, facs_eq hp1 (by omega), if_neg hsq, if_pos hm])
          clear he
          go_wp2_with (at_builtin; refine wpList_app1 _ rfl (.tmp 28) (.tmp 30) 22 rfl 2 (.int .i64 0) 8 Tryz.underlying22 int_info' rfl (by omega) w.heap.size A k c (ints fs) rfl ho.os (.int .i64 m) rfl rfl (by omega) hw.size ?_; intro A2 c2 w2 ho2 hg2 hn2)
          have hw2 := below_own hw hg2 hw.size (fun b hb => (ho.os.lt hb).1)
          have ho3 := OI.snoc ho2 ho.all (z := m) ⟨by omega, by omega⟩
          go_wp2
          go_ret
          exact ⟨A2, k + 1, c2, rfl, by rw [← HE.out]; exact ho3, hw2⟩
        · have HE := Lib.hid (show fs = facsOf n by rw [HF.out, ← he, facs_eq hp1 (by omega), if_neg hsq, if_neg hm]; simp)
          clear he
          go_wp2
          go_ret
          exact ⟨A, k, c, rfl, by rw [← HE.out]; exact ho, hw⟩
  · have h' := inB_false h
    have HF := Lib.hid (show facsOf n = [] by simp [facsOf, h'])
    clear h
    go_enter Tryz.func247, Tryz.ntmps247
    go_wp2_with (go_at_call 73; refine (within_any _ _ _ _).mono ?_; rintro e w' ⟨rfl, rfl⟩)
    go_ret
    exact ⟨none, 0, 0, rfl, by rw [HF.out]; exact OI.nil_ _ _ _, Below.refl _ _⟩
def isP (n : Int) : Bool := inB n 2 1000000 && noDiv 2 n
theorem isP_facs (n : Int) : (((facsOf n).length : Int) == 1) = isP n := by
  have e : (((facsOf n).length : Int) == 1) = ((facsOf n).length == 1) := by rw [Bool.eq_iff_iff]; simp; omega
  rw [e]
  unfold facsOf isP
  by_cases h : inB n 1 1000000 = true
  · obtain ⟨h1, h2⟩ := inB_true h
    rw [if_pos h]
    by_cases h3 : n = 1
    · subst h3
      decide
    · rw [inB_mk (show 2 ≤ n ∧ n ≤ 1000000 by omega), noDiv_facs (by omega) (by omega)]
      rw [Bool.eq_iff_iff]
      simp
  · rw [if_neg h, inB_not (fun h1 => h (inB_mk (by omega)))]
    rfl
set_option maxHeartbeats 400000 in
theorem impl_IsPrime (n : Int) (w : World) :
    Calls Tryz.prog 210 #[.int .i64 n] w fun en w' => en = .returned (.bool (isP n)) ∧ Below w.heap.size w w' := by
  have HP := Lib.hid (isP_facs n)
  go_enter Tryz.func210, Tryz.ntmps210
  go_wp2_with fail
  refine (impl_FactorsOf n _).mono ?_
  rintro e w1 ⟨A, k, c, rfl, ho, hb⟩
  have hl := Lib.hid ho.len
  go_wp2
  go_ret
  refine ⟨?_, hb⟩
  rw [← HP.out, hl.out]
  first | done | rfl
structure OB (w : World) (B : Nat) (A : Option Addr) (n c : Nat) (vs : List Sl) (zss : List (List Int)) : Prop where
  os : OS w B 22 1 A n c (vs.map slv)
  len : vs.length = zss.length
  rows : ∀ (j : Nat) (v : Sl) (z : List Int), vs[j]? = some v → zss[j]? = some z → OI w B 2 v.1 v.2.1 v.2.2 z
section
variable {w w' : World} {B : Nat} {A : Option Addr} {n c : Nat} {vs : List Sl} {zss : List (List Int)}
theorem OB.slen (h : OB w B A n c vs zss) : vs.length = n ∧ zss.length = n := by have := h.os.len; have := h.len; simp at *; omega
theorem OB.below (h : OB w B A n c vs zss) (hb : Below w.heap.size w w') : OB w' B A n c vs zss := ⟨h.os.below hb, h.len, fun j v z hv hz => (h.rows j v z hv hz).below hb⟩
theorem OB.setLow (h : OB w B A n c vs zss) {p : Addr} (hp : p.block < B) (u : Value) : OB (w.setCell p u) B A n c vs zss := ⟨h.os.setLow hp u, h.len, fun j v z hv hz => (h.rows j v z hv hz).setLow hp u⟩
theorem OB.more {B' : Nat} (h : OB w B A n c vs zss) (hB : B' ≤ B) : OB w B' A n c vs zss := ⟨h.os.more hB, h.len, fun j v z hv hz => (h.rows j v z hv hz).more hB⟩
theorem OB.reads (h : OB w B A n c vs zss) : RR w A n zss := by
  refine ⟨h.slen.2, fun j z hz => ?_⟩
  have hj : j < vs.length := by rw [h.len]; exact (List.getElem?_eq_some_iff.1 hz).1
  have hv := List.getElem?_eq_getElem hj
  obtain ⟨ad, ha, hc⟩ := h.os.cells j (slv vs[j]) (by rw [List.getElem?_map, hv]; rfl)
  have ho := h.rows j _ z hv hz
  exact ⟨ad, _, ha, hc, _, _, _, rfl, ho.os.cap.1, ho.os.cap.2, ho.reads⟩
end
end Go.Proofs.YtdkbcjdimhgmnaaGreat
