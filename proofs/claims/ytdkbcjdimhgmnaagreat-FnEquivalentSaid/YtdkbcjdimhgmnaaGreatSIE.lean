/- The permutation that leaves all in place, on both sides. No condition beyond those stated. -/
import Derived.Test.YtdkbcjdimhgmnaaGreatSHR
set_option linter.unusedVariables false
set_option linter.unusedSimpArgs false
namespace Go.Proofs.YtdkbcjdimhgmnaaGreat
open Go.RowKit
def PermN (n : Nat) (p : List Int) : Prop := p.length = n ∧ Perm p
theorem PermN.nat {n : Nat} {p : List Int} (hp : PermN n p) {v : Nat} (hv : v < n) : (nth p v).toNat < n := by
  have := hp.2.bd v (by rw [hp.1]; exact hv)
  rw [hp.1] at this
  omega
/-! the loop that gathers them -/
/-! the choice of generators -/
end Go.Proofs.YtdkbcjdimhgmnaaGreat
