/- The permutation that leaves all in place, on both sides. No condition beyond those stated. -/
import Derived.Test.YtdkbcjdimhgmnaaGreatRGG
set_option linter.unusedVariables false
set_option linter.unusedSimpArgs false
namespace Go.Proofs.YtdkbcjdimhgmnaaGreat
open Go.RowKit
theorem iota_take {n k : Nat} (h : k < n) : (iotaP n).take k ++ [(k : Int)] = (iotaP n).take (k + 1) := by
  rw [List.take_succ_eq_append_getElem (by rw [iotaP_len]; exact h), ← nth_get (by rw [iotaP_len]; exact h), iotaP_nth h]
set_option maxHeartbeats 1000000 in
theorem l04One_any (n : Nat) (w : World) (hn : n ≤ 1048576) :
    Calls Tryz.prog 121 #[.int .i64 n] w (RetI w 2 (iotaP n)) := by
  go_enter Tryz.func121, Tryz.ntmps121
  go_wp2_with fail
  have hb1 := below_alloc w (.cells #[] 2)
  have ho0 : OI (w.alloc (.cells #[] 2)) w.heap.size 2 (some ⟨w.heap.size, 0, none⟩) 0 0 ((iotaP n).take 0) := by simpa [ints] using OI.lit w w.heap.size 2 [] (Nat.le_refl _) (by simp) (by simp [All64])
  go_loopw [3, 4] (fun l i wr => ∃ (k : Nat) (A' : Option Addr) (c' : Nat), k ≤ n ∧ i = .int .i64 k ∧ l = .slice A' k c' ∧ OI wr w.heap.size 2 A' k c' ((iotaP n).take k) ∧ Below w.heap.size w wr) (fun _ i _ => n - (intOf i).toNat)
  case atStart => exact ⟨0, _, 0, Nat.zero_le _, rfl, rfl, ho0, hb1⟩
  case round =>
    clear ho0 hb1
    obtain ⟨k, A', c', hk, rfl, rfl, ho, hw⟩ := hrel
    by_cases hlt : k < n
    · have HN := Lib.hid (iota_take hlt)
      have hki : I64 (k : Int) := by unfold I64; omega
      have hws := hw.size
      go_wp2_with (at_builtin; refine app_int _ rfl (.tmp 11) (.tmp 13) rfl w.heap.size A' k c' _ rfl ho (k : Int) wr.heap.size rfl rfl hki (by omega) hws ?_; intro A4 c4 w4 ho4 hg4 hf4; have hb4 := below_own hw hg4 hws (fun q hq => (ho.os.lt hq).1))
      rw [HN.out] at ho4
      go_roundw
      case rel => exact ⟨k + 1, A4, c4, by omega, by go_num, rfl, ho4, hb4⟩
      case measure => simp [intOf]; omega
    · obtain rfl : k = n := by omega
      rw [List.take_of_length_le (by rw [iotaP_len]; exact Nat.le_refl _)] at ho
      go_wp2
      go_ret
      exact ⟨_, _, _, rfl, ho, hw⟩
end Go.Proofs.YtdkbcjdimhgmnaaGreat
