/- Groups, the program's closure. No condition beyond those stated. -/
import Derived.Test.YtdkbcjdimhgmnaaGreatRIE
set_option linter.unusedVariables false
set_option linter.unusedSimpArgs false
namespace Go.Proofs.YtdkbcjdimhgmnaaGreat
open Go.RowKit Go.Maps
end Go.Proofs.YtdkbcjdimhgmnaaGreat
namespace Go.Proofs.YtdkbcjdimhgmnaaGreat
open Go.RowKit Go.Maps
/-! validity -/
def riseG (L : List (List Int)) (k : Nat) : Prop := ∀ i, i + 1 < k → cmpL (row L i) (row L (i + 1)) < 0
theorem riseG_step {L : List (List Int)} {k : Nat} (hk : 0 < k) (h : riseG L k) (h1 : cmpL (row L (k - 1)) (row L k) < 0) : riseG L (k + 1) := fun i hi => by
  by_cases e : i + 1 = k
  · obtain rfl : i = k - 1 := by omega
    rw [show k - 1 + 1 = k by omega]; exact h1
  · exact h i (by omega)
theorem riseG_strict {L : List (List Int)} (h : riseG L L.length) : StrictL cmpL L := by
  have key : ∀ d i : Nat, i + d + 1 < L.length → cmpL (row L i) (row L (i + d + 1)) < 0 := by
    intro d
    induction d with
    | zero => intro i hi; exact h i hi
    | succ d ih =>
      intro i hi
      have h1 := ih i (by omega)
      have h2 := h (i + d + 1) (by omega)
      exact cmpL_ord.lt_trans h1 (by rw [show i + (d + 1) + 1 = i + d + 1 + 1 by omega]; omega)
  refine List.pairwise_iff_getElem.2 fun i j hi hj hij => ?_
  have := key (j - i - 1) i (by omega)
  rw [show i + (j - i - 1) + 1 = j by omega, row_get hi, row_get hj] at this
  exact this
end Go.Proofs.YtdkbcjdimhgmnaaGreat
