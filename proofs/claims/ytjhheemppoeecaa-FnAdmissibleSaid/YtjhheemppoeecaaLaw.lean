/- What the laws' own helpers do: mark, hold, measure and copy slices of numbers, and slices of such slices. No condition beyond those stated. -/
import Derived.Test.YtjhheemppoeecaaEq
namespace Go.Proofs.Ytjhheemppoeecaa
open Go.RowKit

theorem int_info : (Try.prog.info? 2).map (fun i => (i.zero, i.size, i.bytes)) = some (some (.int .i64 0), 1, 8) := by kernel_rfl
theorem ints_info : (Try.prog.info? 30).map (fun i => (i.zero, i.size, i.bytes)) = some (some (.slice none 0 0), 1, 24) := by kernel_rfl



def szF (left tot : Int) : Int := if tot ≤ left then left - tot else -1




/-- the lengths of the first k rows together -/
def lens (zss : List (List Int)) : Nat → Nat
  | 0 => 0
  | k + 1 => lens zss k + (row zss k).length
def bulk (zss : List (List Int)) : Nat := zss.length + lens zss zss.length
theorem lens_mono (zss : List (List Int)) {a b : Nat} (h : a ≤ b) : lens zss a ≤ lens zss b := by
  induction h with
  | refl => exact Nat.le_refl _
  | step _ ih => exact Nat.le_trans ih (Nat.le_add_right _ _)
theorem bulk_eq {w : World} {A : Option Addr} {n : Nat} {zss : List (List Int)} (h : RR w A n zss) : bulk zss = n + lens zss n := by
  unfold bulk
  rw [h.len]
theorem lens_row (zss : List (List Int)) {k n : Nat} (h : k < n) : (row zss k).length ≤ lens zss n :=
  Nat.le_trans (Nat.le_add_left _ _) (lens_mono zss (show k + 1 ≤ n from h))


/-- the first j rows copied over -/
def copiedR (xs zs : List (List Int)) (j : Nat) : List (List Int) := xs.take j ++ zs.drop j
theorem copiedR_zero (xs zs : List (List Int)) : copiedR xs zs 0 = zs := by simp [copiedR]
theorem copiedR_all {xs zs : List (List Int)} (h : xs.length = zs.length) : copiedR xs zs xs.length = xs := by
  rw [copiedR, List.take_length, List.drop_eq_nil_of_le (by omega), List.append_nil]
theorem copiedR_step {xs zs : List (List Int)} {j : Nat} (hx : j < xs.length) (hz : j < zs.length) : (copiedR xs zs j).set j (row xs j) = copiedR xs zs (j + 1) := by
  unfold copiedR
  have hl : (xs.take j).length = j := by rw [List.length_take]; omega
  rw [List.set_append_right _ _ (by omega), hl, Nat.sub_self, List.drop_eq_getElem_cons hz, List.set_cons_zero, List.take_succ_eq_append_getElem hx, row_get hx, List.append_assoc]
  rfl

end Go.Proofs.Ytjhheemppoeecaa
