/- Plain arithmetic of a finite field whose elements are numbers: digits, sums, products, inverses. No condition beyond those stated. -/
import Derived.Test.YtcnjlkabdfcjdaaZAL
import Derived.Test.YtcnjlkabdfcjdaaZAG
import Derived.Test.YtcnjlkabdfcjdaaZAA
set_option linter.unusedVariables false
set_option linter.unusedSimpArgs false
namespace Go.Proofs.Ytcnjlkabdfcjdaa
open Go.RowKit

/-! digits -/
def divN (a p : Int) : Nat → Int
  | 0 => a
  | j + 1 => divN a p j / p
def digsP (a p : Int) (n : Nat) : List Int := (List.range n).map fun i => divN a p i % p
def numR : List Int → Int → Int
  | [], _ => 0
  | d :: l, p => d + p * numR l p
theorem digs_len (a p : Int) (n : Nat) : (digsP a p n).length = n := by simp [digsP]
theorem digs_nth (a p : Int) (n i : Nat) : nth (digsP a p n) i = if i < n then divN a p i % p else 0 := nth_map_range n _ i
theorem digs_dg {p : Int} (h0 : 0 < p) (a : Int) (n : Nat) : Dg p (digsP a p n) := fun t => by
  rw [digs_nth]
  split
  · exact ⟨Int.emod_nonneg _ (by omega), Int.emod_lt_of_pos _ h0⟩
  · omega
theorem divN_succ (a p : Int) (i : Nat) : divN a p (i + 1) = divN (a / p) p i := by
  induction i with
  | zero => rfl
  | succ i ih => rw [divN, ih, divN]
theorem digs_succ (a p : Int) (n : Nat) : digsP a p (n + 1) = a % p :: digsP (a / p) p n := by
  unfold digsP
  rw [List.range_succ_eq_map, List.map_cons, List.map_map]
  congr 1
  exact List.map_congr_left fun i _ => by simp only [Function.comp]; rw [Nat.succ_eq_add_one, divN_succ]
theorem digs_take {a p : Int} {n j : Nat} (h : j < n) : (digsP a p n).take (j + 1) = (digsP a p n).take j ++ [divN a p j % p] := by
  rw [List.take_succ_eq_append_getElem (by rw [digs_len]; exact h)]
  congr 2
  rw [← nth_get, digs_nth, if_pos h]
theorem pow_succ_int (p : Int) (n : Nat) : p ^ (n + 1) = p * p ^ n := by rw [Int.pow_succ, Int.mul_comm]
theorem num_digs {p : Int} (h0 : 0 < p) : ∀ (n : Nat) (a : Int), 0 ≤ a → a < p ^ n → numR (digsP a p n) p = a
  | 0, a, h1, h2 => by
    rw [Int.pow_zero] at h2
    show (0 : Int) = a
    omega
  | n + 1, a, h1, h2 => by
    rw [digs_succ, numR, num_digs h0 n (a / p) (Int.ediv_nonneg h1 (by omega)) (by
      rw [pow_succ_int] at h2
      exact Int.ediv_lt_of_lt_mul h0 (by rw [Int.mul_comm]; exact h2))]
    have := Int.mul_ediv_add_emod a p
    omega
theorem Dg.tail {p d : Int} {l : List Int} (h : Dg p (d :: l)) : Dg p l := fun t => h (t + 1)
theorem num_bd {p : Int} (h0 : 0 < p) : ∀ {l : List Int}, Dg p l → 0 ≤ numR l p ∧ numR l p < p ^ l.length
  | [], _ => by simp [numR]
  | d :: l, h => by
    obtain ⟨a, b⟩ := num_bd h0 h.tail
    obtain ⟨c, e⟩ := h 0
    change 0 ≤ d at c
    change d < p at e
    rw [numR, List.length_cons, pow_succ_int]
    have h1 : 0 ≤ p * numR l p := Int.mul_nonneg (by omega) a
    have h2 : p * (numR l p + 1) ≤ p * p ^ l.length := Int.mul_le_mul_of_nonneg_left (by omega) (by omega)
    rw [Int.mul_add] at h2
    omega
theorem digs_num {p : Int} (h0 : 0 < p) : ∀ {l : List Int}, Dg p l → digsP (numR l p) p l.length = l
  | [], _ => rfl
  | d :: l, h => by
    obtain ⟨c, e⟩ := h 0
    change 0 ≤ d at c
    change d < p at e
    rw [List.length_cons, digs_succ, numR]
    have h1 : (d + p * numR l p) % p = d := by rw [Int.add_mul_emod_self_left, Int.emod_eq_of_lt c e]
    have h2 : (d + p * numR l p) / p = numR l p := by rw [Int.add_mul_ediv_left _ _ (by omega), Int.ediv_eq_zero_of_lt c e, Int.zero_add]
    rw [h1, h2, digs_num h0 h.tail]
theorem num_zero {p : Int} (h0 : 0 < p) : ∀ {l : List Int}, Dg p l → (numR l p = 0 ↔ ∀ t, nth l t = 0)
  | [], _ => by simp [numR, nth]
  | d :: l, h => by
    have ih := num_zero h0 h.tail
    obtain ⟨a, -⟩ := num_bd h0 h.tail
    obtain ⟨c, -⟩ := h 0
    change 0 ≤ d at c
    have h1 : 0 ≤ p * numR l p := Int.mul_nonneg (by omega) a
    rw [numR]
    constructor
    · intro e t
      have e1 : d = 0 := by omega
      have e2 : p * numR l p = 0 := by omega
      cases t with
      | zero => exact e1
      | succ t =>
        have e3 : numR l p = 0 := (Int.mul_eq_zero.1 e2).resolve_left (by omega)
        exact ih.1 e3 t
    · intro e
      have e1 : d = 0 := e 0
      have e2 : numR l p = 0 := ih.2 fun t => e (t + 1)
      rw [e1, e2, Int.mul_zero]; rfl
theorem num_drop {l : List Int} {p : Int} {k : Nat} (h : k < l.length) : numR (l.drop k) p = numR (l.drop (k + 1)) p * p + nth l k := by
  rw [List.drop_eq_getElem_cons h, numR, nth_get h, Int.mul_comm]; omega
theorem dg_drop {p : Int} {l : List Int} (h : Dg p l) (k : Nat) : Dg p (l.drop k) := fun t => by
  have : nth (l.drop k) t = nth l (k + t) := by simp [nth, List.getD]
  rw [this]; exact h _
theorem pow_mono {p : Int} (h0 : 0 < p) {m n : Nat} (h : m ≤ n) : p ^ m ≤ p ^ n := by
  induction n with
  | zero => obtain rfl : m = 0 := by omega
            exact Int.le_refl _
  | succ n ih =>
    by_cases e : m = n + 1
    · rw [e]; exact Int.le_refl _
    · have h1 := ih (by omega)
      rw [pow_succ_int]
      have h2 : 1 * p ^ n ≤ p * p ^ n := Int.mul_le_mul_of_nonneg_right (by omega) (Int.le_of_lt (Int.pow_pos h0))
      omega
/-! the primes below 64 -/
def PR : List Int := [2, 3, 5, 7, 11, 13, 17, 19, 23, 29, 31, 37, 41, 43, 47, 53, 59, 61]
theorem PR_inv : (PR.all fun p => (List.range p.toNat).all fun c => c == 0 || (List.range p.toNat).any fun d => (c * d) % p.toNat == 1) = true := by decide +kernel
theorem PR_bd {p : Int} (h : p ∈ PR) : 2 ≤ p ∧ p ≤ 61 := by
  have : (PR.all fun p => decide (2 ≤ p ∧ p ≤ 61)) = true := by decide +kernel
  simpa using List.all_eq_true.1 this p h
theorem inv_PR {p : Int} (h : p ∈ PR) : Inv p := fun c h0 h1 => by
  obtain ⟨b1, b2⟩ := PR_bd h
  have h2 := List.all_eq_true.1 (List.all_eq_true.1 PR_inv p h) c.toNat (List.mem_range.2 (by omega))
  rw [Bool.or_eq_true] at h2
  rcases h2 with h2 | h2
  · have : c.toNat = 0 := by simpa using h2
    omega
  · obtain ⟨d, hd, h3⟩ := List.any_eq_true.1 h2
    have h4 : (c.toNat * d) % p.toNat = 1 := by simpa using h3
    refine ⟨(d : Int), Cg.iff.2 ?_⟩
    have h5 : ((c.toNat * d : Nat) : Int) % (p.toNat : Int) = 1 := by rw [← Int.natCast_emod, h4]; rfl
    rw [Int.natCast_mul, Int.toNat_of_nonneg (by omega), Int.toNat_of_nonneg (by omega)] at h5
    rw [h5, Int.emod_eq_of_lt (by omega) (by omega)]
/-! a field -/
structure FldOk (p : Int) (k : Nat) (f : List Int) : Prop where
  pr : p ∈ PR
  k1 : 1 ≤ k
  q64 : p ^ k ≤ 64
  len : f.length = k + 1
  mon : nth f k = 1
  dg : Dg p f
  irr : ∀ d : Nat, 1 ≤ d → 2 * d ≤ k → ∀ n : Int, 0 ≤ n → n < p ^ d → ∃ t, nth (remP p (digsP n p d ++ [1]) f) t ≠ 0
theorem FldOk.p2 {p : Int} {k : Nat} {f : List Int} (h : FldOk p k f) : 1 < p := by have := PR_bd h.pr; omega
theorem nth_snoc {l : List Int} {x : Int} : nth (l ++ [x]) l.length = x := by simp [nth, List.getD]
theorem FldOk.irr' {p : Int} {k : Nat} {f : List Int} (h : FldOk p k f) : Irr p f := fun d g h1 h2 h3 h4 h5 => by
  have p0 : 0 < p := by have := h.p2; omega
  rw [h.len] at h2
  have e : g = g.take d ++ [1] := by
    rw [← List.take_append_drop d g]
    congr 1
    · rw [List.take_append_drop]
    · rw [List.drop_eq_getElem_cons (by omega), List.drop_eq_nil_of_le (by omega)]
      congr 1
      rw [← nth_get, h5]
  have hd : Dg p (g.take d) := fun t => by
    rw [nth_takeI]
    split
    · exact h4 t
    · omega
  have hl : (g.take d).length = d := by rw [List.length_take]; omega
  obtain ⟨b1, b2⟩ := num_bd p0 hd
  rw [hl] at b2
  have := h.irr d h1 (by omega) (numR (g.take d) p) b1 b2
  have e2 := digs_num p0 hd
  rw [hl] at e2
  rwa [e2, ← e] at this
/-- products of digits -/
def mulV (f : List Int) (k : Nat) (x y : Nat → Int) (s : Nat) : Int := sumN k fun i => sumN k fun j => x i * y j * powX f (i + j) s
def mulP (p : Int) (k : Nat) (f : List Int) (a b : Int) : Int := numR ((List.range k).map fun s => mulV f k (nth (digsP a p k)) (nth (digsP b p k)) s % p) p
/-- a + c b -/
def sumP (p : Int) (k : Nat) (c a b : Int) : Int := numR ((List.range k).map fun i => (nth (digsP a p k) i + c * nth (digsP b p k) i) % p) p
theorem map_dg {p : Int} (h0 : 0 < p) (k : Nat) (F : Nat → Int) : Dg p ((List.range k).map fun s => F s % p) := fun t => by
  rw [nth_map_range]
  split
  · exact ⟨Int.emod_nonneg _ (by omega), Int.emod_lt_of_pos _ h0⟩
  · omega
theorem mulP_comm (p : Int) (k : Nat) (f : List Int) (a b : Int) : mulP p k f a b = mulP p k f b a := by
  unfold mulP
  congr 1
  refine List.map_congr_left fun s _ => ?_
  congr 1
  unfold mulV
  rw [sumN_swap]
  refine sumN_congr fun i _ => sumN_congr fun j _ => ?_
  rw [Int.mul_comm (nth (digsP a p k) j), Nat.add_comm]
theorem digs_zero (p : Int) (n : Nat) : ∀ t, nth (digsP 0 p n) t = 0 := fun t => by
  rw [digs_nth]
  split
  · have : ∀ i, divN 0 p i = 0 := fun i => by
      induction i with
      | zero => rfl
      | succ i ih => rw [divN, ih]; simp
    rw [this]; simp
  · rfl
section
variable {p : Int} (h0 : 0 < p) (k : Nat) (f : List Int)
include h0
theorem mulP_bd (a b : Int) : 0 ≤ mulP p k f a b ∧ mulP p k f a b < p ^ k := by
  have := num_bd h0 (map_dg h0 k (mulV f k (nth (digsP a p k)) (nth (digsP b p k))))
  rwa [List.length_map, List.length_range] at this
theorem sumP_bd (c a b : Int) : 0 ≤ sumP p k c a b ∧ sumP p k c a b < p ^ k := by
  have := num_bd h0 (map_dg h0 k fun i => nth (digsP a p k) i + c * nth (digsP b p k) i)
  rwa [List.length_map, List.length_range] at this
theorem mulP_digs (a b : Int) : digsP (mulP p k f a b) p k = (List.range k).map fun s => mulV f k (nth (digsP a p k)) (nth (digsP b p k)) s % p := by
  have := digs_num h0 (map_dg h0 k (mulV f k (nth (digsP a p k)) (nth (digsP b p k))))
  rwa [List.length_map, List.length_range] at this
theorem sumP_digs (c a b : Int) : digsP (sumP p k c a b) p k = (List.range k).map fun i => (nth (digsP a p k) i + c * nth (digsP b p k) i) % p := by
  have := digs_num h0 (map_dg h0 k fun i => nth (digsP a p k) i + c * nth (digsP b p k) i)
  rwa [List.length_map, List.length_range] at this
theorem digs_inj {a b : Int} (ha : 0 ≤ a) (ha2 : a < p ^ k) (hb : 0 ≤ b) (hb2 : b < p ^ k) (h : digsP a p k = digsP b p k) : a = b := by
  rw [← num_digs h0 k a ha ha2, ← num_digs h0 k b hb hb2, h]
theorem sumP_zero {c a : Int} (ha : 0 ≤ a) (ha2 : a < p ^ k) : sumP p k c a 0 = a := by
  refine digs_inj h0 k (sumP_bd h0 k c a 0).1 (sumP_bd h0 k c a 0).2 ha ha2 ?_
  rw [sumP_digs h0]
  refine nth_ext (by simp [digs_len]) fun i hi => ?_
  rw [List.length_map, List.length_range] at hi
  rw [nth_map_range, if_pos hi, digs_zero p, Int.mul_zero, Int.add_zero]
  obtain ⟨x, y⟩ := digs_dg h0 a k i
  exact Int.emod_eq_of_lt x y
theorem mulP_zero (a : Int) : mulP p k f a 0 = 0 := by
  refine (num_zero h0 (map_dg h0 k _)).2 fun t => ?_
  rw [nth_map_range]
  split
  · have : mulV f k (nth (digsP a p k)) (nth (digsP 0 p k)) t = 0 := sumN_zero fun i _ => sumN_zero fun j _ => by rw [digs_zero p, Int.mul_zero, Int.zero_mul]
    rw [this]; simp
  · rfl
/-- v - c w, in two ways -/
theorem sub_mul_two (v c w : Int) : sumP p k (p - 1) v (mulP p k f w c) = sumP p k 1 v (mulP p k f (sumP p k (p - 1) 0 c) w) := by
  unfold sumP
  congr 1
  refine List.map_congr_left fun s hs => ?_
  have hs' := List.mem_range.1 hs
  refine Cg.iff.1 ((Cg.rfl_ p _).add ?_)
  rw [mulP_digs h0, nth_map_range, if_pos hs']
  have e2 : digsP (numR ((List.range k).map fun i => (nth (digsP 0 p k) i + (p - 1) * nth (digsP c p k) i) % p) p) p k = (List.range k).map fun i => (nth (digsP 0 p k) i + (p - 1) * nth (digsP c p k) i) % p := sumP_digs h0 k (p - 1) 0 c
  rw [show digsP (mulP p k f (numR ((List.range k).map fun i => (nth (digsP 0 p k) i + (p - 1) * nth (digsP c p k) i) % p) p) w) p k = _ from mulP_digs h0 k f _ w, nth_map_range, if_pos hs', e2, Int.one_mul]
  -- both are - c w
  have a1 : Cg p ((p - 1) * (mulV f k (nth (digsP w p k)) (nth (digsP c p k)) s % p)) (-mulV f k (nth (digsP w p k)) (nth (digsP c p k)) s) := by
    refine ((Cg.mod p _).mul_left (p - 1)).trans ⟨mulV f k (nth (digsP w p k)) (nth (digsP c p k)) s, ?_⟩
    rw [Int.sub_mul]; omega
  have a2 : Cg p (mulV f k (nth ((List.range k).map fun i => (nth (digsP 0 p k) i + (p - 1) * nth (digsP c p k) i) % p)) (nth (digsP w p k)) s % p) (-mulV f k (nth (digsP w p k)) (nth (digsP c p k)) s) := by
    refine (Cg.mod p _).trans ?_
    have e3 : -mulV f k (nth (digsP w p k)) (nth (digsP c p k)) s = sumN k fun i => sumN k fun j => (-1) * (nth (digsP c p k) i * nth (digsP w p k) j * powX f (i + j) s) := by
      have : mulV f k (nth (digsP w p k)) (nth (digsP c p k)) s = sumN k fun i => sumN k fun j => nth (digsP c p k) i * nth (digsP w p k) j * powX f (i + j) s := by
        unfold mulV
        rw [sumN_swap]
        refine sumN_congr fun i _ => sumN_congr fun j _ => ?_
        rw [Int.mul_comm (nth (digsP w p k) j), Nat.add_comm]
      rw [this, show ∀ x : Int, -x = (-1) * x from fun x => by omega, ← sumN_mul]
      exact sumN_congr fun i _ => (sumN_mul _ _ _).symm
    rw [e3]
    refine Cg.sum fun i hi => Cg.sum fun j _ => ?_
    rw [nth_map_range, if_pos hi, digs_zero p, Int.zero_add, ← Int.mul_assoc, ← Int.mul_assoc]
    refine Cg.mul_right (Cg.mul_right ?_ _) _
    refine (Cg.mod p _).trans ⟨nth (digsP c p k) i, ?_⟩
    rw [Int.sub_mul]; omega
  exact a1.trans a2.symm
end
section
variable {p : Int} {k : Nat} {f : List Int} (h : FldOk p k f)
include h
/-- what a division leaves, digit by digit -/
theorem rem_digit {z : List Int} (hz : Dg p z) (hl : k ≤ z.length) {s : Nat} (hs : s < k) : nth (remP p f z) s = linF z (fun t => powX f t s) % p := by
  have p0 : 0 < p := by have := h.p2; omega
  by_cases e : z.length = k
  · have e1 : remP p f z = z := by
      unfold remP
      rw [h.len, e, show k + 1 - 1 = k from by omega, Nat.sub_self, remTo]
      exact List.take_of_length_le (by omega)
    rw [e1]
    have e2 : linF z (fun t => powX f t s) = nth z s := by
      unfold linF
      rw [e, sumN_congr (g := fun t => if t = s then nth z s else 0) (fun t ht => by
        show nth _ t * powX f t s = _
        rw [powX_low h.len h.k1 ht hs]
        by_cases e : t = s
        · subst e; simp
        · rw [if_neg (fun q => e q.symm), if_neg e, Int.mul_zero]), sumN_at hs]
    rw [e2, Int.emod_eq_of_lt (hz s).1 (hz s).2]
  · obtain ⟨n, hn⟩ : ∃ n, z.length = n + 1 := ⟨z.length - 1, by omega⟩
    obtain ⟨a, b, q, -, c⟩ := remP_lin h.p2 h.len h.mon hn (by omega) hz
    have c1 := c fun t => powX f t s
    have c2 : sumN (n + 1 - k) (fun o => q o * sumN (k + 1) fun t => nth f t * powX f (o + t) s) = 0 := sumN_zero fun o _ => by rw [powX_rec h.len h.k1 h.mon o hs, Int.mul_zero]
    rw [c2, Int.add_zero] at c1
    have e2 : linF (remP p f z) (fun t => powX f t s) = nth (remP p f z) s := by
      unfold linF
      rw [a, sumN_congr (g := fun t => if t = s then nth (remP p f z) s else 0) (fun t ht => by
        show nth _ t * powX f t s = _
        rw [powX_low h.len h.k1 ht hs]
        by_cases e : t = s
        · subst e; simp
        · rw [if_neg (fun q => e q.symm), if_neg e, Int.mul_zero]), sumN_at hs]
    rw [e2] at c1
    have := Cg.iff.1 c1
    rw [Int.emod_eq_of_lt (b s).1 (b s).2] at this
    exact this
theorem remP_len {z : List Int} (hl : k ≤ z.length) : (remP p f z).length = k := by
  unfold remP
  rw [List.length_take, remTo_len, h.len]; omega
/-- a product by way of all products of digits -/
theorem rem_mul {a b : Int} {z : List Int} (hz : Dg p z) (hl : k ≤ z.length)
    (hc : ∀ ψ : Nat → Int, Cg p (linF z ψ) (sumN k fun i => sumN k fun j => nth (digsP a p k) i * nth (digsP b p k) j * ψ (i + j))) : numR (remP p f z) p = mulP p k f a b := by
  unfold mulP
  congr 1
  refine nth_ext (by rw [remP_len h hl]; simp) fun s hs => ?_
  rw [remP_len h hl] at hs
  rw [rem_digit h hz hl hs, nth_map_range, if_pos hs]
  exact Cg.iff.1 (hc fun t => powX f t s)
/-- no product is 0 but of 0: factors are told by products -/
theorem mul_inj {a b c : Int} (ha : 0 < a) (ha2 : a < p ^ k) (hb : 0 ≤ b) (hb2 : b < p ^ k) (hc : 0 ≤ c) (hc2 : c < p ^ k) (e : mulP p k f a b = mulP p k f a c) : b = c := by
  have p0 : 0 < p := by have := h.p2; omega
  have e1 : ∀ s, s < k → Cg p (mulV f k (nth (digsP a p k)) (nth (digsP b p k)) s) (mulV f k (nth (digsP a p k)) (nth (digsP c p k)) s) := fun s hs => by
    have h1 := mulP_digs p0 k f a b
    rw [e, mulP_digs p0 k f a c] at h1
    have h2 : nth ((List.range k).map fun s => mulV f k (nth (digsP a p k)) (nth (digsP c p k)) s % p) s = nth ((List.range k).map fun s => mulV f k (nth (digsP a p k)) (nth (digsP b p k)) s % p) s := by rw [h1]
    rw [nth_map_range, nth_map_range, if_pos hs, if_pos hs] at h2
    exact Cg.iff.2 h2.symm
  have hA : Ann p f (fun j => nth (digsP b p k) j - nth (digsP c p k) j) (digsP a p k) := fun s hs => by
    rw [h.len] at hs
    have h1 := (e1 s (by omega)).sub (Cg.rfl_ p (mulV f k (nth (digsP a p k)) (nth (digsP c p k)) s))
    refine Cg.trans (Cg.of_eq ?_) (h1.trans (Cg.of_eq (Int.sub_self _)))
    unfold linF psi mulV
    rw [digs_len, h.len, show k + 1 - 1 = k from by omega, ← sumN_sub]
    refine sumN_congr fun i _ => ?_
    rw [← sumN_mul, ← sumN_sub]
    refine sumN_congr fun j _ => ?_
    rw [Int.sub_mul, Int.mul_sub, Int.mul_assoc, Int.mul_assoc]
  have hn : ∃ i, i < (digsP a p k).length ∧ ¬ Cg p (nth (digsP a p k) i) 0 := by
    refine Classical.byContradiction fun hno => ?_
    have hz : ∀ t, nth (digsP a p k) t = 0 := fun t => by
      by_cases ht : t < (digsP a p k).length
      · refine Classical.byContradiction fun hne => hno ⟨t, ht, fun hcg => hne ?_⟩
        exact cg_zero h.p2 (digs_dg p0 a k t).1 (digs_dg p0 a k t).2 hcg
      · exact nth_beyond (by omega)
    have := (num_zero p0 (digs_dg p0 a k)).2 hz
    rw [num_digs p0 k a (by omega) ha2] at this
    omega
  have key := no_zero h.p2 (inv_PR h.pr) h.len h.k1 h.mon h.dg h.irr' (by rw [digs_len]; exact Nat.le_refl _) hA hn
  refine digs_inj p0 k hb hb2 hc hc2 (nth_ext (by rw [digs_len, digs_len]) fun j hj => ?_)
  rw [digs_len] at hj
  have h1 : Cg p (nth (digsP b p k) j) (nth (digsP c p k) j) := by
    have := (key j hj).add (Cg.rfl_ p (nth (digsP c p k) j))
    refine Cg.trans (Cg.of_eq ?_) (this.trans (Cg.of_eq (Int.zero_add _)))
    show _ = nth (digsP b p k) j - nth (digsP c p k) j + nth (digsP c p k) j
    omega
  exact h1.eq (digs_dg p0 b k j).1 (digs_dg p0 b k j).2 (digs_dg p0 c k j).1 (digs_dg p0 c k j).2
theorem FldOk.qnat : ∃ q : Nat, p ^ k = (q : Int) ∧ 2 ≤ q ∧ q ≤ 64 := by
  have p0 := h.p2
  have h1 : p ^ 1 ≤ p ^ k := pow_mono (by omega) h.k1
  rw [Int.pow_succ, Int.pow_zero, Int.one_mul] at h1
  have h2 := h.q64
  exact ⟨(p ^ k).toNat, by omega, by omega, by omega⟩
/-- every element but 0 has an inverse -/
theorem inv_exists {a : Int} (ha : 0 < a) (ha2 : a < p ^ k) : ∃ b, 0 < b ∧ b < p ^ k ∧ mulP p k f a b = 1 := by
  have p0 : 0 < p := by have := h.p2; omega
  obtain ⟨q, hq, q2, q64⟩ := h.qnat
  have hP : Perm ((List.range q).map fun (b : Nat) => mulP p k f a (b : Int)) := by
    refine perm_of (n := q) (by simp) (fun v hv => ?_) (fun u v hu hv e => ?_)
    · rw [nth_map_range, if_pos hv]
      have := mulP_bd p0 k f a (v : Int)
      rw [hq] at this
      exact this
    · rw [nth_map_range, nth_map_range, if_pos hu, if_pos hv] at e
      have := mul_inj h ha ha2 (by omega) (by rw [hq]; omega) (by omega) (by rw [hq]; omega) e
      omega
  obtain ⟨v, hv, hv1⟩ := perm_surj hP (i := 1) (by simp; omega)
  simp at hv
  rw [nth_map_range, if_pos hv] at hv1
  refine ⟨(v : Int), ?_, by rw [hq]; omega, hv1⟩
  rcases Nat.eq_zero_or_pos v with e | e
  · subst e
    have := mulP_zero p0 k f a
    rw [show ((0 : Nat) : Int) = 0 from rfl, this] at hv1
    exact absurd hv1 (by decide)
  · omega
end
end Go.Proofs.Ytcnjlkabdfcjdaa
/- A cell that is stored: its block has grown, the others are as they were. No condition beyond those stated. -/
namespace Go.Proofs.Ytcnjlkabdfcjdaa
open Go.RowKit

theorem grown_set {w : World} {g p : Nat} {u : Value} : w.grownBy (w.setCell ⟨g, p, none⟩ u) (some g) :=
  ⟨rfl, rfl, rfl, by simp [World.setCell], fun k _ hk => Below.heap_setCell _ _ _ _ (fun e => hk (by rw [e]))⟩
theorem OI.of_os {w : World} {B : Nat} {e : TypeId} {A : Option Addr} {n c k : Nat} {zs : List Int} (h : OS w B e 1 A n c ((ints zs).take k)) (ha : All64 zs) : OI w B e A n c (zs.take k) :=
  ⟨by rwa [show (ints zs).take k = ints (zs.take k) by simp [ints]] at h, ha.take k⟩
theorem OS.typed' {w : World} {B : Nat} {e t : TypeId} {size : Nat} {A : Option Addr} {n c : Nat} {xs : List Value} {g : Nat} {cs : Array Value} (h : OS w B e size A n c xs) (k : Blk w g t cs) (hne : e ≠ t) : some g ≠ blk A := by
  rcases h.cases with ⟨rfl, _⟩ | ⟨g', cur, rfl, _, hg, _⟩
  · simp [blk]
  · intro h1
    have : g = g' := by simpa [blk] using h1
    subst this
    unfold Blk at k
    rw [k] at hg
    injection hg with hg
    injection hg with _ h2
    exact hne h2.symm
/-- nothing but zeros -/
def allZero (cs : List Int) : Prop := ∀ k, k < cs.length → nth cs k = 0
end Go.Proofs.Ytcnjlkabdfcjdaa
