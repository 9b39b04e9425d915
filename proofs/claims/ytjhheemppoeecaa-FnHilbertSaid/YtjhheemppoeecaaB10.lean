/- What the drawn laws share: lengths of inputs, numbers chosen by bytes, numbers looked for in a list. No condition beyond those stated. -/
import Derived.Test.YtjhheemppoeecaaProg
import Derived.Test.YtjhheemppoeecaaOwn
import Derived.Test.YtjhheemppoeecaaEq
namespace Go.Proofs.Ytjhheemppoeecaa
open Go.RowKit

set_option maxHeartbeats 400000 in
theorem b10Long_yes (A : Option Addr) (n c : Nat) (w : World) (hn : 1048576 < n) : Calls Try.prog 6 #[.slice A n c] w fun e w' => e = .returned (.bool true) ∧ w = w' := by
  have h : (n : Int) > 1048576 := by omega
  go_enter Try.func6, Try.ntmps6
  go_wp2
  go_ret
  exact ⟨by simp, rfl⟩
set_option maxHeartbeats 400000 in
theorem b10Long_no (A : Option Addr) (n c : Nat) (w : World) (hn : n ≤ 1048576) : Calls Try.prog 6 #[.slice A n c] w fun e w' => e = .returned (.bool false) ∧ w = w' := by
  have h : ¬ (n : Int) > 1048576 := by omega
  go_enter Try.func6, Try.ntmps6
  go_wp2
  go_ret
  exact ⟨by simp, rfl⟩
/-- the number that a byte chooses, or its index behind the end -/
def atP (zs : List Int) (i k : Int) : Int := if k ≤ 1 then 0 else if i < zs.length then nth zs i.toNat % k else (i * 37 + 11) % k
theorem atP_bd {zs : List Int} {i k : Int} (h : 1 ≤ k) : 0 ≤ atP zs i k ∧ atP zs i k < k := by
  unfold atP
  split
  · omega
  · split
    · exact ⟨Int.emod_nonneg _ (by omega), Int.emod_lt_of_pos _ (by omega)⟩
    · exact ⟨Int.emod_nonneg _ (by omega), Int.emod_lt_of_pos _ (by omega)⟩
set_option maxHeartbeats 1000000 in
theorem b10At_any (A : Option Addr) (n c : Nat) (zs : List Int) (i : Nat) (k : Int) (w : World) (ha : RS EByte w A n zs) (hi2 : i ≤ 1000000) (hk2 : k ≤ 1000000) (hn : n ≤ 9223372036854775807) :
    Calls Try.prog 12 #[.slice A n c, .int .i64 i, .int .i64 k] w fun e w' => e = .returned (.int .i64 (atP zs i k)) ∧ w = w' := by
  have hla := Lib.hid ha.len
  by_cases h0 : k ≤ 1
  · have HA := Lib.hid (show atP zs i k = 0 by rw [atP, if_pos h0])
    go_enter Try.func12, Try.ntmps12
    go_wp2
    go_ret
    exact ⟨by rw [HA.out]; rfl, rfl⟩
  · by_cases hlt : i < n
    · have HA := Lib.hid (show atP zs i k = nth zs i % k by rw [atP, if_neg h0, if_pos (by rw [hla.out]; omega), Int.toNat_natCast])
      obtain ⟨ad, u, x, rfl, hx, hc, rfl, x0, x1⟩ := ha.get hlt
      have HX := Lib.hid (nth_eq hx)
      have h0' : 1 < k := by omega
      clear hx h0
      go_enter Try.func12, Try.ntmps12
      go_wp2
      go_ret
      exact ⟨by rw [HA.out, HX.out]; rfl, rfl⟩
    · have HA := Lib.hid (show atP zs i k = ((i : Int) * 37 + 11) % k by rw [atP, if_neg h0, if_neg (by rw [hla.out]; omega)])
      have h0' : 1 < k := by omega
      have hge : n ≤ i := by omega
      clear h0
      go_enter Try.func12, Try.ntmps12
      go_wp2
      go_ret
      exact ⟨by rw [HA.out]; rfl, rfl⟩
def hasB (zs : List Int) (x : Int) : Bool := zs.contains x
theorem any_take_no {zs : List Int} {x : Int} {k : Nat} (h : ∀ j, j < k → nth zs j ≠ x) (hk : zs.length ≤ k) : hasB zs x = false := by
  unfold hasB
  rw [List.contains_eq_any_beq, List.any_eq_false]
  intro y hy e
  obtain ⟨j, hj, rfl⟩ := List.mem_iff_getElem.1 hy
  refine h j (by omega) ?_
  rw [nth_get hj]
  simpa using (beq_iff_eq.1 e).symm
theorem any_at_yes {zs : List Int} {x : Int} {k : Nat} (hk : k < zs.length) (h : nth zs k = x) : hasB zs x = true := by
  unfold hasB
  rw [List.contains_iff_mem, ← h, nth_get hk]
  exact List.getElem_mem hk
set_option maxHeartbeats 1000000 in
theorem b10Has_any (A : Option Addr) (n c : Nat) (zs : List Int) (x : Int) (w : World) (ha : RI w A n zs) (hn : n ≤ 9223372036854775807) :
    Calls Try.prog 18 #[.slice A n c, .int .i64 x] w fun e w' => e = .returned (.bool (hasB zs x)) ∧ w = w' := by
  have hla := Lib.hid ha.len
  go_enter Try.func18, Try.ntmps18
  go_wp2
  go_loop [5] (fun i => ∃ k : Nat, k ≤ n ∧ i = .int .i64 k ∧ ∀ j, j < k → nth zs j ≠ x) (fun i => n - (intOf i).toNat)
  case atStart => exact ⟨0, Nat.zero_le _, rfl, fun _ h => by omega⟩
  case round =>
    obtain ⟨k, hk, rfl, hno⟩ := hrel
    have HN := Lib.hid hno
    clear hno
    by_cases hlt : k < n
    · obtain ⟨ad, rfl, hc, -⟩ := ha.get hlt
      by_cases he : nth zs k = x
      · have HY := Lib.hid (any_at_yes (by rw [hla.out]; exact hlt) he)
        have he' : (nth zs k == x) = true := by simp [he]
        clear he
        generalize nth zs k = y at *
        go_wp2
        go_ret
        exact ⟨by rw [HY.out]; rfl, rfl⟩
      · have HY := Lib.hid (fun (j : Nat) (hj : j < k + 1) => show nth zs j ≠ x from by
          by_cases e : j = k
          · rw [e]; exact he
          · exact HN.out j (by omega))
        have he' : (nth zs k == x) = false := by simp [he]
        clear he
        generalize nth zs k = y at *
        go_wp2
        go_round
        case rel => exact ⟨k + 1, by omega, by go_num, HY.out⟩
        case measure => simp [intOf]; omega
    · have HY := Lib.hid (any_take_no HN.out (by rw [hla.out]; omega))
      go_wp2
      go_ret
      exact ⟨by rw [HY.out]; rfl, rfl⟩
end Go.Proofs.Ytjhheemppoeecaa
