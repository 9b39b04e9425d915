/- The kind with a name: the reference's side, and the law. No condition. -/
import Derived.Test.YtpaggkfcdhomiaaObjN
namespace Go.Proofs.Ytpaggkfcdhomiaa
open Go.RowKit

theorem sEq_comm (a b : ByteArray) : sEq a b = sEq b a := by
  unfold sEq
  exact BEq.comm

theorem spec_l30Names' (w : World) :
    Calls Try.prog 20 #[] w fun e w' => e = .returned (.slice (some ⟨w.heap.size, 0, none⟩) 8 8) ∧ RS EStr w' (some ⟨w.heap.size, 0, none⟩) 8 (kn0 :: kNames) ∧ Below w.heap.size w w' :=
  (spec_l30Names w).mono fun e w' ⟨he, hw⟩ => by subst hw; exact ⟨he, names_read w _, below_alloc _ _⟩

set_option maxHeartbeats 400000 in
theorem spec_ObjectNamed (s : ByteArray) (w : World) :
    Calls Try.prog 14 #[.string s] w fun e w' => e = .returned (.tuple #[.int .i64 (knIs s + 1), .bool (decide (0 ≤ knIs s))]) ∧ Below w.heap.size w w' := by
  go_enter Try.func14, Try.ntmps14
  go_wp2_with (go_at_call 20; refine (spec_l30Names' _).mono ?_; rintro e w1 ⟨rfl, hr, hb⟩)
  go_loop [5] (fun i => ∃ k : Nat, 1 ≤ k ∧ k ≤ 8 ∧ i = .int .i64 k ∧ ∀ j, j + 1 < k → sEq s (sAt kNames j) = false) (fun i => 8 - (intOf i).toNat)
  case atStart => exact ⟨1, Nat.le_refl _, by omega, rfl, fun j h => absurd h (by omega)⟩
  case round =>
    obtain ⟨k, hk1, hk, rfl, hu⟩ := hrel
    by_cases hlt : k < 8
    · obtain ⟨a, ha, hca⟩ := hr.str hlt
      obtain rfl : (⟨w.heap.size, 0, none⟩ : Addr) = a := by injection ha
      clear ha
      obtain ⟨m, rfl⟩ : ∃ m, k = m + 1 := ⟨k - 1, by omega⟩
      have hsat : sAt (kn0 :: kNames) (m + 1) = sAt kNames m := rfl
      rw [hsat, Addr.add_lit, Nat.zero_add] at hca
      clear hsat
      by_cases he : sEq s (sAt kNames m) = true
      · have he' : ((sAt kNames m).toList == s.toList) = true := by rw [sEq_comm] at he; exact he
        have H := Lib.hid (show knIs s = m from sIdx_hit (by simp [kNames]; omega) (fun j hj => hu j (by omega)) he)
        clear hu he
        go_wp2
        go_ret2
        exact ⟨by rw [H.out]; simp, hb⟩
      · have he0 : sEq s (sAt kNames m) = false := by simpa using he
        have he' : ((sAt kNames m).toList == s.toList) = false := by rw [sEq_comm] at he0; exact he0
        have hu' : ∀ j, j + 1 < m + 1 + 1 → sEq s (sAt kNames j) = false := fun j hj => by
          by_cases h : j = m
          · rw [h]; exact he0
          · exact hu j (by omega)
        have H := Lib.hid hu'; clear hu hu' he he0
        go_wp2
        go_round
        case rel => exact ⟨m + 1 + 1, by omega, by omega, by go_num, H.out⟩
        case measure => simp [intOf]; omega
    · have H := Lib.hid (show knIs s = -1 from sIdx_none fun j hj => hu j (by simp [kNames] at hj; omega))
      clear hu
      obtain rfl : k = 8 := by omega
      go_wp2
      go_ret2
      exact ⟨by rw [H.out]; rfl, hb⟩

set_option maxHeartbeats 400000 in
theorem law_ObjectNamed (s : ByteArray) (w : World) (hs : s.size ≤ maxLen) :
    Calls Try.prog 6 #[.string s] w fun e w' => e = .returned (.bool true) ∧ Below w.heap.size w w' := by
  unfold maxLen at hs
  by_cases h : s.size ≤ 1048576
  · go_enter Try.func6, Try.ntmps6
    go_wp2_with (first
      | (go_at_call 14; refine (spec_ObjectNamed _ _).mono ?_; rintro e w1 ⟨rfl, hb1⟩)
      | (go_at_call 15; refine (impl_ObjectNamed _ _).mono ?_; rintro e w2 ⟨rfl, hb2⟩))
    go_ret
    exact ⟨rfl, below_then hb1 hb2⟩
  · go_enter Try.func6, Try.ntmps6
    go_wp2
    go_ret
    exact ⟨rfl, Below.refl _ _⟩
end Go.Proofs.Ytpaggkfcdhomiaa
