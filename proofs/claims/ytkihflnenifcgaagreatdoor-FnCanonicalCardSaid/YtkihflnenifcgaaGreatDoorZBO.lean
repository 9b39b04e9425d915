/- What the drawn laws share: lists compared, lists looked for, permutations chosen by bytes. No condition beyond those stated. -/
import Derived.Test.YtkihflnenifcgaaGreatDoorZBM
import Derived.Test.YtkihflnenifcgaaGreatDoorZBN
set_option linter.unusedVariables false
set_option linter.unusedSimpArgs false
namespace Go.Proofs.YtkihflnenifcgaaGreatDoor
open Go.RowKit

/-- a call that makes a permutation -/
def RetPm (w : World) (n : Nat) (e : Ending) (w' : World) : Prop := ∃ A c zs, e = .returned (.slice A n c) ∧ OI w' w.heap.size 2 A n c zs ∧ zs.length = n ∧ Perm zs ∧ Below w.heap.size w w'
theorem iota_takeB {n k : Nat} (h : k < n) : (iotaP n).take k ++ [(k : Int)] = (iotaP n).take (k + 1) := by
  rw [List.take_succ_eq_append_getElem (by rw [iotaP_len]; exact h), ← nth_get (by rw [iotaP_len]; exact h), iotaP_nth h]
set_option maxRecDepth 100000 in
set_option maxHeartbeats 800000 in
theorem b10Perm_any (A0 : Option Addr) (n0 c0 n : Nat) (bs : List Int) (w : World) (ha : RS EByte w A0 n0 bs) (hn0 : n0 ≤ 9223372036854775807) (hn : n ≤ 1000) :
    Calls Tryz.prog 9 #[.slice A0 n0 c0, .int .i64 n] w (RetPm w n) := by
  go_enter Tryz.func9, Tryz.ntmps9
  go_wp2
  have hb1 := below_alloc w (.cells #[] 2)
  have ho0 : OI (w.alloc (.cells #[] 2)) w.heap.size 2 (some ⟨w.heap.size, 0, none⟩) 0 0 ((iotaP n).take 0) := by simpa [ints] using OI.lit w w.heap.size 2 [] (Nat.le_refl _) (by simp) (by simp [All64])
  go_loopw [5, 6] (fun l i wr => ∃ (k : Nat) (A' : Option Addr) (c' : Nat), k ≤ n ∧ i = .int .i64 k ∧ l = .slice A' k c' ∧ OI wr w.heap.size 2 A' k c' ((iotaP n).take k) ∧ Below w.heap.size w wr) (fun _ i _ => n - (intOf i).toNat)
  case atStart => exact ⟨0, _, 0, Nat.zero_le _, rfl, rfl, ho0, hb1⟩
  case round =>
    clear ho0 hb1
    obtain ⟨k, A', c', hk, rfl, rfl, ho, hw⟩ := hrel
    by_cases hlt : k < n
    · have HN := Lib.hid (iota_takeB hlt)
      have hki : I64 (k : Int) := by unfold I64; omega
      have hws := hw.size
      go_wp2_with (at_builtin; refine app_int _ rfl (.tmp 16) (.tmp 18) rfl w.heap.size A' k c' _ rfl ho (k : Int) wr.heap.size rfl rfl hki (by omega) hws ?_; intro A4 c4 w4 ho4 hg4 hf4; have hb4 := below_own hw hg4 hws (fun q hq => (ho.os.lt hq).1))
      rw [HN.out] at ho4
      go_roundw
      case rel => exact ⟨k + 1, A4, c4, by omega, by go_num, rfl, ho4, hb4⟩
      case measure => simp [intOf]; omega
    · obtain rfl : k = n := by omega
      rw [List.take_of_length_le (by rw [iotaP_len]; exact Nat.le_refl _)] at ho
      have HI : (iotaP k).length = k ∧ Perm (iotaP k) := ⟨iotaP_len _, iotaP_perm _⟩
      generalize iotaP k = zs at *
      go_wp2
      go_loopw [7] (fun i wr => ∃ (k2 : Int) (zs : List Int), -1 ≤ k2 ∧ k2 < k ∧ i = .int .i64 k2 ∧ OI wr w.heap.size 2 A' k c' zs ∧ (zs.length = k ∧ Perm zs) ∧ Below w.heap.size w wr) (fun i _ => (intOf i + 1).toNat)
      case atStart => exact ⟨(k : Int) - 1, zs, by omega, by omega, by go_num, ho, HI, hw⟩
      case round =>
        clear ho HI hw
        obtain ⟨k2, zs, h1, h2, rfl, ho, HI, hw⟩ := hrel
        by_cases hlt2 : 0 < k2
        · obtain ⟨i, rfl⟩ := Int.eq_ofNat_of_zero_le (show 0 ≤ k2 by omega)
          obtain ⟨x0, x1⟩ := atP_bd (zs := bs) (i := i) (k := (i : Int) + 1) (by omega)
          have hat := b10At_any A0 n0 c0 bs i ((i : Int) + 1) wr (EBytes.keep ha hw) (by omega) (by omega) hn0
          obtain ⟨y, hy⟩ := Int.eq_ofNat_of_zero_le x0
          rw [hy] at hat x1
          clear hy x0
          obtain ⟨ga, rfl, hci, hfi, hii⟩ := ho.cell (k := i) (by omega)
          obtain ⟨ga', hga, hcy, hfy, hiy⟩ := ho.cell (k := y) (by omega)
          cases hga
          have HP := perm_swap HI.1 HI.2 (i := i) (k := y) (by omega) (by omega)
          have ho3 := (ho.set i hiy).set y hii
          obtain ⟨ga', hga, hcy2, hfy2, -⟩ := (ho.set i hiy).cell (k := y) (by omega)
          cases hga
          generalize nth (zs.set i (nth zs y)) y = b2 at *
          have hlo := (ho.os.lt (k := ga) rfl).1
          have hw3 := (hw.setCell (p := ⟨ga, i, none⟩) hlo (.int .i64 (nth zs y))).setCell (p := ⟨ga, y, none⟩) hlo (.int .i64 (nth zs i))
          generalize nth zs i = a at *
          generalize nth zs y = b at *
          clear hw ho HI
          go_wp2_with fail
          refine hat.mono ?_
          rintro e w2 ⟨rfl, rfl⟩
          go_wp2
          go_roundw
          case rel => exact ⟨(i : Int) - 1, _, by omega, by omega, by go_num, ho3, HP, hw3⟩
          case measure => simp [intOf] <;> omega
        · go_wp2
          go_ret
          exact ⟨A', c', zs, rfl, ho, HI.1, HI.2, hw⟩
end Go.Proofs.YtkihflnenifcgaaGreatDoor
