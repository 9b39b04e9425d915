/- Triple systems by Skolem's construction, the reference's side. No condition beyond those stated. -/
import Derived.Test.YtgnilbbblpkcoaaRGM
import Derived.Test.YtgnilbbblpkcoaaRLB
set_option linter.unusedVariables false
set_option linter.unusedSimpArgs false
namespace Go.Proofs.Ytgnilbbblpkcoaa
open Go.RowKit
def Grw (w wr : World) (A : Option Addr) (k c : Nat) (zss : List (List Int)) : Prop := OR wr w.heap.size 32 2 A k c zss ∧ Below w.heap.size w wr
end Go.Proofs.Ytgnilbbblpkcoaa
