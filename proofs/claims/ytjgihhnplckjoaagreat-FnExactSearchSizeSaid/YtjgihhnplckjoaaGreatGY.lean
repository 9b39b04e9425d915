/- A graph as a law's argument: its variable, and a copy's. No condition beyond those stated. -/
import Derived.Test.YtjgihhnplckjoaaGreatGD
set_option linter.unusedVariables false
set_option linter.unusedSimpArgs false
namespace Go.Proofs.YtjgihhnplckjoaaGreat
open Go.RowKit

/-- the argument's variable and the copy's, behind the copy's rows -/
structure GSt (g1 g6 : Nat) (A F A3 F3 : Option Addr) (n c m d n3 c3 m3 d3 : Nat) (cs : List Int) (es : List Ed) (w' : World) : Prop where
  p1 : Blk w' g1 25 #[.slice A n c, .slice F m d]
  p6 : Blk w' g6 31 #[.slice A3 n3 c3, .slice F3 m3 d3]
  r1 : RG w' A n F m cs es
  r3 : RG w' A3 n3 F3 m3 cs es
section
variable {w w' w'' : World} {g1 g6 : Nat} {A F A3 F3 : Option Addr} {n c m d n3 c3 m3 d3 : Nat} {cs : List Int} {es : List Ed}
theorem GSt.step (h : GSt g1 g6 A F A3 F3 n c m d n3 c3 m3 d3 cs es w') (hb : Below w'.heap.size w' w'') : GSt g1 g6 A F A3 F3 n c m d n3 c3 m3 d3 cs es w'' :=
  ⟨h.p1.after hb, h.p6.after hb, h.r1.keep hb, h.r3.keep hb⟩
theorem GSt.cells (h : GSt g1 g6 A F A3 F3 n c m d n3 c3 m3 d3 cs es w') :
    (w'.cell? ⟨g1, 0, none⟩ = some (.slice A n c) ∧ w'.cell? ⟨g1, 1, none⟩ = some (.slice F m d)) ∧ w'.cell? ⟨g6, 0, none⟩ = some (.slice A3 n3 c3) ∧ w'.cell? ⟨g6, 1, none⟩ = some (.slice F3 m3 d3) :=
  ⟨h.p1.cells2, h.p6.cells2⟩
theorem GSt.full (h : GSt g1 g6 A F A3 F3 n c m d n3 c3 m3 d3 cs es w') (hb : Below w.heap.size w w') :
    (GSt g1 g6 A F A3 F3 n c m d n3 c3 m3 d3 cs es w' ∧ Below w.heap.size w w') ∧ w'.cell? ⟨g1, 0, none⟩ = some (.slice A n c) ∧ w'.cell? ⟨g1, 1, none⟩ = some (.slice F m d) ∧ w'.cell? ⟨g6, 0, none⟩ = some (.slice A3 n3 c3) ∧ w'.cell? ⟨g6, 1, none⟩ = some (.slice F3 m3 d3) :=
  ⟨⟨h, hb⟩, h.p1.cells2.1, h.p1.cells2.2, h.p6.cells2.1, h.p6.cells2.2⟩
theorem GSt.full2 {K : World → Prop} (h : GSt g1 g6 A F A3 F3 n c m d n3 c3 m3 d3 cs es w') (k : K w') (hb : Below w.heap.size w w') :
    ((GSt g1 g6 A F A3 F3 n c m d n3 c3 m3 d3 cs es w' ∧ K w') ∧ Below w.heap.size w w') ∧ w'.cell? ⟨g1, 0, none⟩ = some (.slice A n c) ∧ w'.cell? ⟨g1, 1, none⟩ = some (.slice F m d) ∧ w'.cell? ⟨g6, 0, none⟩ = some (.slice A3 n3 c3) ∧ w'.cell? ⟨g6, 1, none⟩ = some (.slice F3 m3 d3) :=
  ⟨⟨⟨h, k⟩, hb⟩, h.p1.cells2.1, h.p1.cells2.2, h.p6.cells2.1, h.p6.cells2.2⟩
end
theorem keep4' {W w' : World} {p1 p2 p3 p4 : Addr} {u1 u2 u3 u4 : Value} (hb : Below W.heap.size W w') (h1 : W.cell? p1 = some u1) (h2 : W.cell? p2 = some u2) (h3 : W.cell? p3 = some u3) (h4 : W.cell? p4 = some u4) :
    Below W.heap.size W w' ∧ w'.cell? p1 = some u1 ∧ w'.cell? p2 = some u2 ∧ w'.cell? p3 = some u3 ∧ w'.cell? p4 = some u4 :=
  ⟨hb, below_cell hb h1, below_cell hb h2, below_cell hb h3, below_cell hb h4⟩
theorem szF_parts {l : Int} {n m : Nat} (h : (n : Int) + m ≤ l) : szF l ((n : Int) + m) = l - (n + m) := by simp [szF, h]
end Go.Proofs.YtjgihhnplckjoaaGreat
