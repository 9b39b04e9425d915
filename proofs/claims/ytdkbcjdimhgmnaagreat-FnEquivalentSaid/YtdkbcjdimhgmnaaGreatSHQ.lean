/- Canonical designs, plain: the neighbors of the blocks in the relabeled graph are the images of the blocks. No program in sight. -/
import Derived.Test.YtdkbcjdimhgmnaaGreatSHP
import Derived.Test.YtdkbcjdimhgmnaaGreatSJA
set_option linter.unusedVariables false
set_option linter.unusedSimpArgs false
namespace Go.Proofs.YtdkbcjdimhgmnaaGreat
def imgR (p blk : List Int) : List Int := setG sgnI (blk.map fun x => nth p x.toNat)
theorem imgR_mem (p blk : List Int) (y : Int) : y ∈ imgR p blk ↔ ∃ x ∈ blk, nth p x.toNat = y := by
  unfold imgR
  rw [setG_mem sgnI_ord, List.mem_map]
end Go.Proofs.YtdkbcjdimhgmnaaGreat
