/- Permutations and squares: whether lists are such, the reference's side. No condition beyond those stated. -/
import Derived.Test.YtgnilbbblpkcoaaRGC
set_option linter.unusedVariables false
set_option linter.unusedSimpArgs false
namespace Go.Proofs.Ytgnilbbblpkcoaa
open Go.RowKit
def noneTo' (zs : List Int) (x : Int) (k : Nat) : Prop := ∀ j, j < k → nth zs j ≠ x
set_option maxHeartbeats 400000 in
theorem l00Has_any (A : Option Addr) (n c : Nat) (zs : List Int) (x : Int) (w : World) (ha : RI w A n zs) (hn : n ≤ 9223372036854775807) :
    Calls Try.prog 78 #[.slice A n c, .int .i64 x] w fun e w' => e = .returned (.bool (tB (x ∈ zs))) ∧ w = w' := by
  have hla := Lib.hid ha.len
  go_enter Try.func78, Try.ntmps78
  go_wp2
  go_loop [5] (fun i => ∃ k : Nat, k ≤ n ∧ i = .int .i64 k ∧ noneTo' zs x k) (fun i => n - (intOf i).toNat)
  case atStart => exact ⟨0, Nat.zero_le _, rfl, fun _ h => absurd h (by omega)⟩
  case round =>
    obtain ⟨k, hk, rfl, hno⟩ := hrel
    by_cases hlt : k < n
    · obtain ⟨a, rfl, hca, hia⟩ := ha.get hlt
      by_cases he : nth zs k = x
      · have he' : (nth zs k == x) = true := by simp [he]
        have H := Lib.hid (show tB (x ∈ zs) = true from tB_yes (by rw [← he]; exact nth_mem (by rw [hla.out]; exact hlt)))
        clear he hno
        go_wp2
        go_ret
        exact ⟨by rw [H.out]; rfl, rfl⟩
      · have he' : (nth zs k == x) = false := by simp [he]
        have H := Lib.hid (show noneTo' zs x (k + 1) from fun j hj => by
          rcases Nat.lt_succ_iff_lt_or_eq.1 hj with h' | h'
          · exact hno j h'
          · rw [h']; exact he)
        clear he hno
        go_wp2
        go_round
        case rel => exact ⟨k + 1, by omega, by go_num, H.out⟩
        case measure => simp [intOf]; omega
    · have H := Lib.hid (show tB (x ∈ zs) = false from tB_no fun hm => by
        obtain ⟨j, hj, e⟩ := mem_nth hm
        exact hno j (by rw [hla.out] at hj; omega) e)
      clear hno
      go_wp2
      go_ret
      exact ⟨by rw [H.out]; rfl, rfl⟩
end Go.Proofs.Ytgnilbbblpkcoaa
