/- The table of neighbors and the lists of neighbors: the reference's side. No condition beyond those stated. -/
import Derived.Test.YtgnilbbblpkcoaaRGG
import Derived.Test.YtgnilbbblpkcoaaRGF
import Derived.StillTailTactics
set_option linter.unusedVariables false
set_option linter.unusedSimpArgs false
namespace Go.Proofs.Ytgnilbbblpkcoaa
open Go.RowKit
section
variable {ops : Array Oper} {rest : List Oper} {o : Oper} {a : Act} {Q : Exit → Act → World → Prop}
end
theorem OS.typed' {w : World} {B : Nat} {e t : TypeId} {size : Nat} {A : Option Addr} {n c : Nat} {xs : List Value} {g : Nat} {cs : Array Value} (h : OS w B e size A n c xs) (k : Blk w g t cs) (hne : e ≠ t) : some g ≠ blk A := by
  rcases h.cases with ⟨rfl, _⟩ | ⟨g', cur, rfl, _, hg, _⟩
  · simp [blk]
  · intro h1
    have : g = g' := by simpa [blk] using h1
    subst this
    unfold Blk at k
    rw [k] at hg
    injection hg with hg
    injection hg with _ h2
    exact hne h2.symm
end Go.Proofs.Ytgnilbbblpkcoaa
