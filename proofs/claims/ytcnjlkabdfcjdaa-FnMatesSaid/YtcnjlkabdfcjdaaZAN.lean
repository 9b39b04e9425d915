/- Powers, digits, numbers, polynomials: the functions of the program. No condition beyond those stated. -/
import Derived.Test.YtcnjlkabdfcjdaaZAM
import Derived.Test.YtcnjlkabdfcjdaaZAE
import Derived.Test.YtcnjlkabdfcjdaaZAI
import Derived.Test.YtcnjlkabdfcjdaaZAD
import Derived.Deep.RegionHeldLaw
import Derived.Deep.AppendLies
import Derived.Deep.QuietTactic
import Derived.BigQuiet
set_option linter.unusedVariables false
set_option linter.unusedSimpArgs false
namespace Go.Proofs.Ytcnjlkabdfcjdaa
open Go.RowKit

/-- what a power is told as, a limit at hand -/
def CapP (p : Int) (e : Nat) (lim r : Int) : Prop := (p ^ e ≤ lim ∧ r = p ^ e) ∨ (lim < p ^ e ∧ lim < r)
theorem CapP.iff {p : Int} {e : Nat} {lim r : Int} (h : CapP p e lim r) : r ≤ lim ↔ p ^ e ≤ lim := by
  rcases h with ⟨a, b⟩ | ⟨a, b⟩ <;> omega
theorem CapP.eq {p : Int} {e : Nat} {lim r : Int} (h : CapP p e lim r) (k : p ^ e ≤ lim) : r = p ^ e := by
  rcases h with ⟨a, b⟩ | ⟨a, b⟩ <;> omega
theorem mul_bd {a b x y : Int} (h1 : 0 ≤ a) (h2 : a ≤ x) (h3 : 0 ≤ b) (h4 : b ≤ y) : 0 ≤ a * b ∧ a * b ≤ x * y :=
  ⟨Int.mul_nonneg h1 h3, Int.mul_le_mul h2 h4 h3 (by omega)⟩
theorem divN_bd {a p : Int} (ha : 0 ≤ a) (hp : 1 ≤ p) (j : Nat) : 0 ≤ divN a p j ∧ divN a p j ≤ a := by
  induction j with
  | zero => exact ⟨ha, Int.le_refl _⟩
  | succ j ih => exact ⟨Int.ediv_nonneg ih.1 (by omega), Int.le_trans (Int.ediv_le_self _ ih.1) ih.2⟩
/-- the digits so far, zeros behind -/
theorem OI.shortF {w : World} {B : Nat} {e : TypeId} {A : Option Addr} {n c k : Nat} {zs : List Int} (h : OI w B e A n c zs) (hk : k ≤ n) (h0 : 0 < n) : OI w B e A k c (zs.take k) := by
  refine OI.of_os ?_ h.all
  have hl := h.len
  rcases h.os.cases with ⟨_, h1, _⟩ | ⟨g', cur, rfl, hB, hg, hnc, hc, hs, ht⟩
  · omega
  · refine ⟨by simp [ints]; omega, .inr ⟨g', c, cur, rfl, hB, hg, by omega, hc, hs, ?_⟩⟩
    rw [← ht, Nat.mul_one, Nat.mul_one, List.take_take, Nat.min_eq_left hk]
/-- one step of the division as the program reckons it -/
theorem rem_tmod {x c b p : Int} (hp : 2 ≤ p) (hx : 0 ≤ x) (hx2 : x < p) (hc : 0 ≤ c) (hc2 : c < p) (hb : 0 ≤ b) (hb2 : b < p) (hp2 : p ≤ 1000000) : -1000000000000 ≤ x - c * b ∧ x - c * b ≤ 1000000 ∧ -1000000 ≤ (x - c * b).tmod p ∧ (x - c * b).tmod p ≤ 1000000 ∧ 0 ≤ (x - c * b).tmod p + p ∧ (x - c * b).tmod p % p = (x + (p - c) * b) % p := by
  obtain ⟨m1, m2⟩ := mul_bd (a := c) (b := b) (x := 1000000) (y := 1000000) hc (by omega) hb (by omega)
  have e0 := Int.tmod_add_mul_tdiv (x - c * b) p
  have h1 : -p < (x - c * b).tmod p := by
    have := Int.tmod_lt_of_pos (-(x - c * b)) (show 0 < p by omega)
    rw [Int.neg_tmod] at this
    omega
  have h2 : (x - c * b).tmod p < p := Int.tmod_lt_of_pos _ (by omega)
  refine ⟨by omega, by omega, by omega, by omega, by omega, ?_⟩
  refine Cg.iff.1 ⟨-(x - c * b).tdiv p - b, ?_⟩
  rw [Int.mul_sub, Int.mul_neg, Int.sub_mul]
  omega
end Go.Proofs.Ytcnjlkabdfcjdaa
/- Whether a polynomial is irreducible: the function of the program. No condition beyond those stated. -/
namespace Go.Proofs.Ytcnjlkabdfcjdaa
open Go.RowKit

/-- no monic polynomial with these digits divides f -/
def DivN (p : Int) (f : List Int) (d : Nat) (n : Int) : Prop := ∃ t, nth (remP p (digsP n p d ++ [1]) f) t ≠ 0
def IrrC (p : Int) (k : Nat) (f : List Int) : Prop := ∀ d : Nat, 1 ≤ d → 2 * d ≤ k → ∀ n : Int, 0 ≤ n → n < p ^ d → DivN p f d n
def IrrTo (p : Int) (k : Nat) (f : List Int) (d : Nat) : Prop := ∀ e : Nat, 1 ≤ e → e < d → 2 * e ≤ k → ∀ n : Int, 0 ≤ n → n < p ^ e → DivN p f e n
theorem dg_snoc {p : Int} (hp : 2 ≤ p) {l : List Int} (h : Dg p l) : Dg p (l ++ [1]) := Dg.of (by omega) fun t ht => by
  rw [List.length_append, List.length_singleton] at ht
  by_cases e : t < l.length
  · have : nth (l ++ [1]) t = nth l t := by simp [nth, List.getD, List.getElem?_append, e]
    rw [this]; exact h t
  · obtain rfl : t = l.length := by omega
    rw [nth_snoc]; omega
end Go.Proofs.Ytcnjlkabdfcjdaa
