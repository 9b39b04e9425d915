/- The conditions that fail for parameters in range: the program's side. No condition beyond those stated. -/
import Derived.Test.YtnmcmologlgccaaGreatSZBB
set_option linter.unusedVariables false
set_option linter.unusedSimpArgs false
namespace Go.Proofs.YtnmcmologlgccaaGreat
open Go.RowKit
theorem com2_at {v k : Nat} {L : List (List Int)} (h3 : 3 ≤ v) (hv : v ≤ 32) (h2 : 2 ≤ k) (hk : k < v) (h : chP v k ≤ 128) (hL : alF v k 200 (iotaP k) = some L) : Bal v (srtR L) k (chP (v - 2) (k - 2) : Nat) := by
  have e1 : decide (v < 3) = false := by simp; omega
  have e2 : decide (k < 2) = false := by simp; omega
  have e3 : decide (v ≤ k) = false := by simp; omega
  have e4 : decide (128 < chP v k) = false := by simp; omega
  have hm : ∀ {a b : Nat}, a ≤ v → v < b → v ∈ (List.range b).drop a := fun {a b} h1 h2 => by
    rw [List.mem_iff_getElem]
    exact ⟨v - a, by simp; omega, by simp; omega⟩
  have key : balM v (isortR L) k (chP (v - 2) (k - 2)) = true := by
    have hv4 : v < 13 ∨ (13 ≤ v ∧ v < 17) ∨ (17 ≤ v ∧ v < 26) ∨ (26 ≤ v ∧ v < 33) := by omega
    rcases hv4 with h4 | h4 | h4 | h4
    · have a := List.all_eq_true.1 (List.all_eq_true.1 com2_1 v (hm (Nat.zero_le _) h4)) k (List.mem_range.2 (by omega))
      unfold com2C1 at a
      rw [e1, e2, e3, e4, hL] at a
      simpa using a
    · have a := List.all_eq_true.1 (List.all_eq_true.1 com2_2 v (hm h4.1 h4.2)) k (List.mem_range.2 (by omega))
      unfold com2C2 at a
      rw [e1, e2, e3, e4, hL] at a
      simpa using a
    · have a := List.all_eq_true.1 (List.all_eq_true.1 com2_3 v (hm h4.1 h4.2)) k (List.mem_range.2 (by omega))
      unfold com2C3 at a
      rw [e1, e2, e3, e4, hL] at a
      simpa using a
    · have a := List.all_eq_true.1 (List.all_eq_true.1 com2_4 v (hm h4.1 h4.2)) k (List.mem_range.2 (by omega))
      unfold com2C4 at a
      rw [e1, e2, e3, e4, hL] at a
      simpa using a
  rw [srtR_isort]
  exact balM_bal key
theorem tri_mem {v : Nat} (h3 : 3 ≤ v) (h : triB v = true) : v = 3 ∨ v ∈ [7, 9, 13, 15, 19, 21, 25, 27] := by
  simp only [triB, Bool.and_eq_true, Bool.or_eq_true, decide_eq_true_eq] at h
  obtain ⟨⟨h1, h2⟩, h4⟩ := h
  have : v = 3 ∨ v = 4 ∨ v = 5 ∨ v = 6 ∨ v = 7 ∨ v = 8 ∨ v = 9 ∨ v = 10 ∨ v = 11 ∨ v = 12 ∨ v = 13 ∨ v = 14 ∨ v = 15 ∨ v = 16 ∨ v = 17 ∨ v = 18 ∨ v = 19 ∨ v = 20 ∨ v = 21 ∨ v = 22 ∨ v = 23 ∨ v = 24 ∨ v = 25 ∨ v = 26 ∨ v = 27 := by omega
  rcases this with rfl | rfl | rfl | rfl | rfl | rfl | rfl | rfl | rfl | rfl | rfl | rfl | rfl | rfl | rfl | rfl | rfl | rfl | rfl | rfl | rfl | rfl | rfl | rfl | rfl <;> first | exact .inl rfl | exact .inr (by decide) | omega
inductive Base : Nat → Nat → Nat → List (List Int) → Prop
  | com {v k : Nat} {L : List (List Int)} (h3 : 3 ≤ v) (hv : v ≤ 32) (h2 : 2 ≤ k) (hk : k < v) (h : chP v k ≤ 128) (hL : alF v k 200 (iotaP k) = some L) : Base v k (chP (v - 2) (k - 2)) (srtR L)
  | tri {v : Nat} (h : v ∈ [7, 9, 13, 15, 19, 21, 25, 27]) : Base v 3 1 (isortR (triLC v))
  | aff {k : Nat} (h : k ∈ [2, 3, 4, 5]) : Base (k * k) k 1 (isortR (affQ k))
  | prj {q : Nat} (h : q ∈ [2, 3, 4, 5]) : Base (q * q + q + 1) (q + 1) 1 (isortR (prjQ q))
  | dif {v : Nat} (h : v ∈ [7, 11, 19, 23, 31]) : Base v ((v - 1) / 2) ((v - 3) / 4) (isortR (devC v (sqK v v) v))
  | h15 : Base 15 7 3 (isortR (hdL H16))
  | h27 : Base 27 13 6 (isortR (hdL H28))
theorem Base.bal {v k l : Nat} {bs : List (List Int)} (h : Base v k l bs) : Bal v bs k l := by
  cases h with
  | com h3 hv h2 hk h hL => exact com2_at h3 hv h2 hk h hL
  | tri h => exact balM_bal (List.all_eq_true.1 tri_all v h)
  | aff h => exact balM_bal (List.all_eq_true.1 aff_all k h)
  | prj h => exact balM_bal (List.all_eq_true.1 prj_all _ h)
  | dif h => exact balM_bal (List.all_eq_true.1 dif_all v h)
  | h15 => have := had_all; simp only [Bool.and_eq_true] at this; exact balM_bal this.1
  | h27 => have := had_all; simp only [Bool.and_eq_true] at this; exact balM_bal this.2
theorem dirO_base {c v k l : Nat} {bs : List (List Int)} (hr : InR v k l) (hc : 1 ≤ c) (hc6 : c ≤ 6) (hpr : ∀ c', 1 ≤ c' → c' < c → dirO c' v k l = none) (hd : dirO c v k l = some bs) : Base v k l bs := by
  obtain ⟨v3, v32, k2, kv, l1, l1000⟩ := hr
  have hcc : c = 1 ∨ c = 2 ∨ c = 3 ∨ c = 4 ∨ c = 5 ∨ c = 6 := by omega
  rcases hcc with rfl | rfl | rfl | rfl | rfl | rfl
  · unfold dirO at hd
    rw [if_pos rfl] at hd
    split at hd
    · rename_i h
      obtain ⟨L, e1, e2, e3⟩ := com_at v3 v32 k2 kv h.2
      rw [e1] at hd
      obtain rfl : srtR L = bs := by injection hd
      rw [h.1]
      exact .com v3 v32 k2 kv h.2 e1
    · cases hd
  · unfold dirO at hd
    rw [if_neg (by decide), if_pos rfl] at hd
    split at hd
    · rename_i h
      obtain ⟨rfl, rfl, ht⟩ := h
      obtain rfl : srtR (triL v) = bs := by injection hd
      rw [triL_C, srtR_isort]
      rcases tri_mem v3 ht with rfl | hm
      · omega
      · exact .tri hm
    · cases hd
  · unfold dirO at hd
    rw [if_neg (by decide), if_neg (by decide), if_pos rfl] at hd
    split at hd
    · rename_i h
      obtain ⟨rfl, rfl⟩ := h
      obtain rfl : srtR (affQ k) = bs := by injection hd
      rw [srtR_isort]
      have k5 : k ≤ 5 := by
        by_cases h6 : 6 ≤ k
        · have : 6 * 6 ≤ k * k := Nat.mul_le_mul h6 h6
          omega
        · omega
      refine .aff ?_
      have : k = 2 ∨ k = 3 ∨ k = 4 ∨ k = 5 := by omega
      rcases this with rfl | rfl | rfl | rfl <;> decide
    · cases hd
  · unfold dirO at hd
    rw [if_neg (by decide), if_neg (by decide), if_neg (by decide), if_pos rfl] at hd
    split at hd
    · rename_i h
      obtain ⟨rfl, hkk⟩ := h
      obtain rfl : srtR (prjQ (k - 1)) = bs := by injection hd
      rw [srtR_isort]
      have k6 : k ≤ 6 := by
        by_cases h7 : 7 ≤ k
        · obtain ⟨j, rfl⟩ : ∃ j, k = j + 7 := ⟨k - 7, by omega⟩
          have e1 : (j + 7) * (j + 7) = (j + 7) * j + (j + 7) * 7 := Nat.mul_add _ _ _
          omega
        · omega
      have k3 : 3 ≤ k := by
        by_cases h2 : k = 2
        · subst h2
          obtain rfl : v = 3 := by omega
          have := hpr 1 (by decide) (by decide)
          obtain ⟨L, e1, _, _⟩ := com_at (v := 3) (k := 2) (by decide) (by decide) (by decide) (by decide) (by decide)
          unfold dirO at this
          rw [if_pos rfl, if_pos ⟨by decide, by decide⟩, e1] at this
          cases this
        · omega
      obtain ⟨q, rfl⟩ : ∃ q, k = q + 1 := ⟨k - 1, by omega⟩
      have hv : v = q * q + q + 1 := by
        have e1 : (q + 1) * (q + 1) = q * q + q + q + 1 := by rw [Nat.add_mul, Nat.mul_add, Nat.mul_add]; omega
        omega
      rw [hv]
      refine .prj ?_
      have : q = 2 ∨ q = 3 ∨ q = 4 ∨ q = 5 := by omega
      rcases this with rfl | rfl | rfl | rfl <;> decide
    · cases hd
  · unfold dirO at hd
    rw [if_neg (by decide), if_neg (by decide), if_neg (by decide), if_neg (by decide), if_pos rfl] at hd
    split at hd
    · rename_i h
      obtain ⟨hv, hp, hs⟩ := h
      obtain rfl : srtR (devK v (sqK v v) v) = bs := by injection hd
      rw [srtR_isort, devK_C]
      obtain ⟨s1, s2⟩ := sqs_at hv l1 v32 hp
      rw [show k = (v - 1) / 2 by omega, show l = (v - 3) / 4 by omega]
      refine .dif ?_
      by_cases hm : v ∈ [7, 11, 19, 23, 31]
      · exact hm
      · exfalso
        have hl : v = 7 ∨ v = 11 ∨ v = 15 ∨ v = 19 ∨ v = 23 ∨ v = 27 ∨ v = 31 := by omega
        have ha := sqs_all
        simp only [Bool.and_eq_true, Bool.not_eq_true'] at ha
        rcases hl with rfl | rfl | rfl | rfl | rfl | rfl | rfl <;> first | exact hm (by decide) | exact absurd (show isP 15 = true from hp) (by rw [ha.1.2]; decide) | exact absurd (show isP 27 = true from hp) (by rw [ha.2]; decide)
    · cases hd
  · unfold dirO at hd
    rw [if_neg (by decide), if_neg (by decide), if_neg (by decide), if_neg (by decide), if_neg (by decide)] at hd
    split at hd
    · rename_i h
      obtain rfl : srtR (hdL (hadF v)) = bs := by injection hd
      have hp : isP v = false := by
        cases hp : isP v with
        | false => rfl
        | true =>
          obtain ⟨s1, s2⟩ := sqs_at h.1 l1 v32 hp
          have := hpr 5 (by decide) (by decide)
          unfold dirO at this
          rw [if_neg (by decide), if_neg (by decide), if_neg (by decide), if_neg (by decide), if_pos rfl, if_pos ⟨h.1, hp, by omega⟩] at this
          cases this
      rw [srtR_isort]
      rcases not_prime h.1 l1 v32 hp with rfl | rfl
      · obtain rfl : l = 3 := by omega
        obtain rfl : k = 7 := by omega
        rw [had15]
        exact .h15
      · obtain rfl : l = 6 := by omega
        obtain rfl : k = 13 := by omega
        rw [had27]
        exact .h27
    · cases hd
theorem fst_inv {v k l c : Nat} {bs : List (List Int)} (h : fstD v k l = some (c, bs)) : 1 ≤ c ∧ c ≤ 6 ∧ dirO c v k l = some bs ∧ ∀ c', 1 ≤ c' → c' < c → dirO c' v k l = none := by
  unfold fstD at h
  have key : ∀ (n a : Nat), (∀ c', 1 ≤ c' → c' < a → dirO c' v k l = none) → 1 ≤ a → fstO v k l (List.range' a n) = some (c, bs) → 1 ≤ c ∧ c < a + n ∧ dirO c v k l = some bs ∧ ∀ c', 1 ≤ c' → c' < c → dirO c' v k l = none := by
    intro n
    induction n with
    | zero => intro a _ _ h; simp [fstO] at h
    | succ n ih =>
      intro a ha h1 h
      rw [List.range'_succ, fstO] at h
      cases hd : dirO a v k l with
      | some x =>
        rw [hd] at h
        simp only [Option.some.injEq, Prod.mk.injEq] at h
        obtain ⟨rfl, rfl⟩ := h
        exact ⟨h1, by omega, hd, ha⟩
      | none =>
        rw [hd] at h
        have := ih (a + 1) (fun c' h2 h3 => by
          by_cases h4 : c' < a
          · exact ha c' h2 h4
          · obtain rfl : c' = a := by omega
            exact hd) (by omega) h
        exact ⟨this.1, by omega, this.2.2.1, this.2.2.2⟩
  have := key 6 1 (fun c' h1 h2 => by omega) (by omega) h
  exact ⟨this.1, by omega, this.2.2.1, this.2.2.2⟩
theorem fst_base {v k l c : Nat} {bs : List (List Int)} (hr : InR v k l) (h : fstD v k l = some (c, bs)) : Base v k l bs := by
  obtain ⟨h1, h2, h3, h4⟩ := fst_inv h
  exact dirO_base hr h1 h2 h4 h3
theorem baseOk : BaseOk := ⟨hadOk, fun _ _ _ _ _ hr h => (fst_base hr h).bal⟩
end Go.Proofs.YtnmcmologlgccaaGreat
