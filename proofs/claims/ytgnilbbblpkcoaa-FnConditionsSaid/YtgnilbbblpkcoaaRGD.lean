/- Edges: what a slice of them reads as. No condition beyond those stated. -/
import Derived.Test.YtgnilbbblpkcoaaRGB
set_option linter.unusedVariables false
set_option linter.unusedSimpArgs false
namespace Go.Proofs.Ytgnilbbblpkcoaa
open Go.RowKit
abbrev Ed := Int × Int
section
variable {w w' : World} {A : Option Addr} {n : Nat} {es : List Ed}
end
/-! edges in memory of a call's own -/
section
variable {w w' : World} {B : Nat} {ty : TypeId} {A : Option Addr} {n c : Nat} {es : List Ed}
end
section
variable {w w' : World} {B D B' D' : Nat} {A F : Option Addr} {n c m d : Nat} {cs : List Int} {es : List Ed}
end
theorem grown_set {w : World} {g p : Nat} {u : Value} : w.grownBy (w.setCell ⟨g, p, none⟩ u) (some g) :=
  ⟨rfl, rfl, rfl, by simp [World.setCell], fun k _ hk => Below.heap_setCell _ _ _ _ (fun e => hk (by rw [e]))⟩
/-! marks -/
end Go.Proofs.Ytgnilbbblpkcoaa
