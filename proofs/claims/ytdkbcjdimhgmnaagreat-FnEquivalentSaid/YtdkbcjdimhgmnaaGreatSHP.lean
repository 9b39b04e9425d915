/- The search keeps the order of the colors; permutations cut to the points. No program in sight. -/
import Derived.Test.YtdkbcjdimhgmnaaGreatSHL
import Derived.Test.YtdkbcjdimhgmnaaGreatSGM
set_option linter.unusedVariables false
set_option linter.unusedSimpArgs false
namespace Go.Proofs.YtdkbcjdimhgmnaaGreat
end Go.Proofs.YtdkbcjdimhgmnaaGreat
namespace Go.Proofs.YtdkbcjdimhgmnaaGreat
open Go.RowKit
theorem add_add_ (ad : Addr) (k j : Nat) : (ad.add k).add j = ad.add (k + j) := by
  unfold Addr.add
  by_cases hk : k = 0
  · subst hk; simp
  · by_cases hj : j = 0
    · subst hj; simp
    · simp [hk, hj, Nat.add_assoc]
theorem RR.take_ {w : World} {A : Option Addr} {n : Nat} {zss : List (List Int)} (h : RR w A n zss) {k : Nat} (hk : k ≤ n) : RR w A k (zss.take k) := by
  refine ⟨by rw [List.length_take, h.len]; omega, fun j z hz => ?_⟩
  rw [List.getElem?_take] at hz
  split at hz
  · exact h.2 j z hz
  · cases hz
theorem RR.drop_ {w : World} {ad : Addr} {n : Nat} {zss : List (List Int)} (h : RR w (some ad) n zss) {k : Nat} (hk : k ≤ n) : RR w (some (ad.add k)) (n - k) (zss.drop k) := by
  refine ⟨by rw [List.length_drop, h.len], fun j z hz => ?_⟩
  rw [List.getElem?_drop] at hz
  obtain ⟨ad', v, ha, hc, r⟩ := h.2 (k + j) z hz
  cases ha
  exact ⟨ad.add k, v, rfl, by rw [add_add_ ad k j]; exact hc, r⟩
end Go.Proofs.YtdkbcjdimhgmnaaGreat
