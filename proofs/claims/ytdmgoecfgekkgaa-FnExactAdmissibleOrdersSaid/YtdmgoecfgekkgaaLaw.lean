/- What the laws' own helpers do: mark, hold, measure and copy slices of numbers, and slices of such slices. No condition beyond those stated. -/
import Derived.Test.YtdmgoecfgekkgaaEq
namespace Go.Proofs.Ytdmgoecfgekkgaa
open Go.RowKit

theorem int_info : (Try.prog.info? 2).map (fun i => (i.zero, i.size, i.bytes)) = some (some (.int .i64 0), 1, 8) := by kernel_rfl
theorem ints_info : (Try.prog.info? 23).map (fun i => (i.zero, i.size, i.bytes)) = some (some (.slice none 0 0), 1, 24) := by kernel_rfl

set_option maxHeartbeats 400000 in
theorem heldInt64S_any (A : Option Addr) (n c k : Nat) (w : World) (ha : RI w A n (marks k n)) (hn : k + n ≤ 4611686018427387904) :
    Calls Try.prog 13 #[.slice A n c, .int .i64 k] w fun e w' => e = .returned (.int .i64 ((k + n : Nat) : Int)) ∧ w = w' := by
  go_enter Try.func13, Try.ntmps13
  go_wp2
  go_loop [1, 5] (fun q i => ∃ j : Nat, j ≤ n ∧ i = .int .i64 j ∧ q = .int .i64 ((k + j : Nat) : Int)) (fun _ i => n - (intOf i).toNat)
  case atStart => exact ⟨0, Nat.zero_le _, rfl, by simp⟩
  case round =>
    obtain ⟨j, hj, rfl, rfl⟩ := hrel
    by_cases hlt : j < n
    · obtain ⟨a, rfl, hca, hia⟩ := ha.get hlt
      rw [marks_nth hlt] at hca
      go_wp2
      go_round
      case rel => exact ⟨j + 1, by omega, by go_num, by go_num⟩
      case measure => simp [intOf]; omega
    · obtain rfl : j = n := by omega
      go_wp2
      go_ret
      exact ⟨rfl, rfl⟩

set_option maxHeartbeats 400000 in
theorem markInt64S_any (B : Nat) (e : TypeId) (A : Option Addr) (n c k : Nat) (zs : List Int) (w : World) (ha : OI w B e A n c zs) (hn : k + n ≤ 4611686018427387904) :
    Calls Try.prog 12 #[.slice A n c, .int .i64 k] w fun en w' => en = .returned (.int .i64 ((k + n : Nat) : Int)) ∧ OI w' B e A n c (marks k n) ∧ Below B w w' := by
  have hl := Lib.hid ha.len
  go_enter Try.func12, Try.ntmps12
  go_wp2
  go_loopw [1, 5] (fun q i wr => ∃ j : Nat, j ≤ n ∧ i = .int .i64 j ∧ q = .int .i64 ((k + j : Nat) : Int) ∧ OI wr B e A n c (marked k zs j) ∧ Below B w wr) (fun _ i _ => n - (intOf i).toNat)
  case atStart => exact ⟨0, Nat.zero_le _, rfl, by simp, by rw [marked_zero]; exact ha, Below.refl _ _⟩
  case round =>
    obtain ⟨j, hj, rfl, rfl, ho, hw⟩ := hrel
    by_cases hlt : j < n
    · obtain ⟨g, rfl, hca, hfa, hia⟩ := ho.cell hlt
      have hB := (ho.os.lt (k := g) rfl).1
      have ho' := ho.set j (u := ((k + j : Nat) : Int)) ⟨by omega, by omega⟩
      rw [marked_step (by rw [hl.out]; exact hlt)] at ho'
      have hw' := hw.setCell (p := ⟨g, j, none⟩) hB (.int .i64 ((k + j : Nat) : Int))
      clear ho hw
      go_wp2
      go_roundw
      case rel => exact ⟨j + 1, by omega, by go_num, by go_num, ho', hw'⟩
      case measure => simp [intOf]; omega
    · obtain rfl : j = n := by omega
      have ho' : OI wr B e A j c (marks k j) := by rw [← hl.out]; rw [← hl.out] at ho; rw [marked_all] at ho; exact ho
      go_wp2
      go_ret
      exact ⟨rfl, ho', hw⟩

def szF (left tot : Int) : Int := if tot ≤ left then left - tot else -1




/-- the lengths of the first k rows together -/
def lens (zss : List (List Int)) : Nat → Nat
  | 0 => 0
  | k + 1 => lens zss k + (row zss k).length
def bulk (zss : List (List Int)) : Nat := zss.length + lens zss zss.length
theorem lens_mono (zss : List (List Int)) {a b : Nat} (h : a ≤ b) : lens zss a ≤ lens zss b := by
  induction h with
  | refl => exact Nat.le_refl _
  | step _ ih => exact Nat.le_trans ih (Nat.le_add_right _ _)
theorem bulk_eq {w : World} {A : Option Addr} {n : Nat} {zss : List (List Int)} (h : RR w A n zss) : bulk zss = n + lens zss n := by
  unfold bulk
  rw [h.len]
theorem lens_row (zss : List (List Int)) {k n : Nat} (h : k < n) : (row zss k).length ≤ lens zss n :=
  Nat.le_trans (Nat.le_add_left _ _) (lens_mono zss (show k + 1 ≤ n from h))


/-- the first j rows copied over -/
def copiedR (xs zs : List (List Int)) (j : Nat) : List (List Int) := xs.take j ++ zs.drop j
theorem copiedR_zero (xs zs : List (List Int)) : copiedR xs zs 0 = zs := by simp [copiedR]
theorem copiedR_all {xs zs : List (List Int)} (h : xs.length = zs.length) : copiedR xs zs xs.length = xs := by
  rw [copiedR, List.take_length, List.drop_eq_nil_of_le (by omega), List.append_nil]
theorem copiedR_step {xs zs : List (List Int)} {j : Nat} (hx : j < xs.length) (hz : j < zs.length) : (copiedR xs zs j).set j (row xs j) = copiedR xs zs (j + 1) := by
  unfold copiedR
  have hl : (xs.take j).length = j := by rw [List.length_take]; omega
  rw [List.set_append_right _ _ (by omega), hl, Nat.sub_self, List.drop_eq_getElem_cons hz, List.set_cons_zero, List.take_succ_eq_append_getElem hx, row_get hx, List.append_assoc]
  rfl

end Go.Proofs.Ytdmgoecfgekkgaa
