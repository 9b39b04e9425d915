/- A region that draws its order, only reads, and calls functions that may make memory: walked once, in the order of the text. No condition beyond those stated. -/
import Derived.Test.YtjhheemppoeecaaMem
import Derived.Deep.QuietTactic
import Derived.BigQuiet
namespace Go.Proofs.Ytjhheemppoeecaa
open Go.RowKit

/-- a world behind W: what W held is as it was -/
structure Bel (W : World) where
  w : World
  h : Below W.heap.size W w
instance (W : World) : Inhabited (Bel W) := ⟨⟨W, Below.refl _ _⟩⟩
section
variable {P : Program} {W : World}
theorem wp_region_bel {id : Nat} {Q : Exit → Act → World → Prop} {a : Act} {l : List Oper} (hm : P.follows .mixedOrders = true) (hB : Region.lexB .any l.toArray = true)
    (h : wpQuiet P l.toArray (fun w' => ∃ p : Bel W, w' = p.w) (fun a' => ∀ w', (∃ p : Bel W, w' = p.w) → Q .normal a' w') l a) : (Code.region id l.toArray true).wp P Q a W :=
  wp_region_quiet (C := fun w' => ∃ p : Bel W, w' = p.w) hm hB ⟨⟨W.drewN 1, below_drewn _ 1⟩, rfl⟩ (by simpa using h)
theorem cell_bel {a : Addr} {v : Value} (h : W.cell? a = some v) (p : Bel W) : p.w.cell? a = some v := below_cell p.h h
theorem Calls.bel {f : FuncId} {args : Array Value} {p : Bel W} {v : Value} (h : Calls P f args p.w fun e w' => e = .returned v ∧ Below p.w.heap.size p.w w') :
    Calls P f args p.w fun e w'' => e = .returned v ∧ ∃ q : Bel W, w'' = q.w :=
  h.mono fun _ w' ⟨he, hb⟩ => ⟨he, ⟨w', below_then p.h hb⟩, rfl⟩
end
end Go.Proofs.Ytjhheemppoeecaa
