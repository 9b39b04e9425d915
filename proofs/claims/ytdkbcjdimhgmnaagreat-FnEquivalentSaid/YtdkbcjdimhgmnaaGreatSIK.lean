/- The source of choices among other memory: a state behind more calls; permutations that are drawn. No condition beyond those stated. -/
import Derived.Test.YtdkbcjdimhgmnaaGreatSIJ
import Derived.Test.YtdkbcjdimhgmnaaGreatSIE
set_option linter.unusedVariables false
set_option linter.unusedSimpArgs false
namespace Go.Proofs.YtdkbcjdimhgmnaaGreat
open Go.RowKit
structure SrW (w w' : World) (g p : Nat) : Prop where
  src : Src w' g p
  gl : g < w.heap.size
  grown : w.grownBy w' (some g)
section
variable {w w' w'' : World} {g p q : Nat}
theorem SrW.start (h : Src w g p) : SrW w w g p := ⟨h, h.lt, World.grownBy.refl w _⟩
theorem SrW.size (h : SrW w w' g p) : w.heap.size ≤ w'.heap.size := h.grown.size
theorem SrW.next (h : SrW w w' g p) (hs : Src w'' g q) (hg : w'.grownBy w'' (some g)) : SrW w w'' g q := ⟨hs, h.gl, h.grown.trans hg⟩
theorem SrW.then_ (h : SrW w w' g p) (k : SrW w' w'' g q) : SrW w w'' g q := ⟨k.src, h.gl, h.grown.trans k.grown⟩
theorem SrW.step (h : SrW w w' g p) (hb : Below w'.heap.size w' w'') : SrW w w'' g p := ⟨h.src.below hb, h.gl, h.grown.trans (grownBy_of_below hb (some g))⟩
theorem SrW.far {r : Option Nat} (h : SrW w w' g p) (hg : w'.grownBy w'' r) (hr : ∀ b, r = some b → w.heap.size ≤ b) : SrW w w'' g p :=
  ⟨h.src.kept hg (fun b e => by have := hr b e; have := h.gl; omega), h.gl, ⟨hg.os.trans h.grown.os, hg.tape.trans h.grown.tape, hg.output.trans h.grown.output, Nat.le_trans h.grown.size hg.size, fun k hk hne => by
    rw [hg.block k (Nat.lt_of_lt_of_le hk h.grown.size) (fun e => by have := hr k e.symm; omega)]
    exact h.grown.block k hk hne⟩⟩
end
end Go.Proofs.YtdkbcjdimhgmnaaGreat
