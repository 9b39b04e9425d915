/- Canonical forms of graphs, plain: orders, refinement, the search, what a search keeps. No program in sight. -/
import Derived.Test.YtgnilbbblpkcoaaRGE
set_option linter.unusedVariables false
set_option linter.unusedSimpArgs false
namespace Go.Proofs.Ytgnilbbblpkcoaa
/-! the other orders -/
theorem cmpL_ord : TOrd cmpL where
  eq_of := cmpL_zero
  self := cmpL_refl
  swap := cmpL_swap
  trans := cmpL_trans
/-! refinement -/
section
variable {near : List (List Int)} {cells : List Int}
end
/-! the cell that is split -/
/-! neighbors -/
/-! other names of the vertices -/
/-! forms compared -/
/-! the search -/
end Go.Proofs.Ytgnilbbblpkcoaa
