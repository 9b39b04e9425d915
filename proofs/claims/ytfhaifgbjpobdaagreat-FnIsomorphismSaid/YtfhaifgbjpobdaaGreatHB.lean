/- CanonicalGraph, both sides. No condition beyond those stated. -/
import Derived.Test.YtfhaifgbjpobdaaGreatGX
set_option linter.unusedVariables false
set_option linter.unusedSimpArgs false
namespace Go.Proofs.YtfhaifgbjpobdaaGreat
open Go.RowKit

/-- a graph, a list and a code, all in memory of the call's own, the list's block not the colors' -/
def RetCan (w : World) (gc : List Int) (ge : List Ed) (p : List Int) (code : Int) (e : Ending) (w' : World) : Prop :=
  ∃ A n c F m d P np cp, e = .returned (.tuple #[.agg #[.slice A n c, .slice F m d], .slice P np cp, .int .i64 code]) ∧ OI w' w.heap.size 2 A n c gc ∧ OE w' w.heap.size 59 F m d ge ∧ OI w' w.heap.size 2 P np cp p ∧ (blk P = none ∨ blk P ≠ blk A) ∧ Below w.heap.size w w'
noncomputable def canC (cs : List Int) (es : List Ed) (b : Int) : List Int := if codeP cs es b = 0 then (runP cs es b.toNat).fc else []
noncomputable def canE (cs : List Int) (es : List Ed) (b : Int) : List Ed := if codeP cs es b = 0 then (runP cs es b.toNat).fe else []
noncomputable def canQ (cs : List Int) (es : List Ed) (b : Int) : List Int := if codeP cs es b = 0 then row (runP cs es b.toNat).best 0 else []
/-- the first row that a search has found -/
theorem BV.first {w : World} {B : Nat} {A : Option Addr} {n c : Nat} {vs : List Sl} {zss : List (List Int)} (h : BV w B A n c vs zss) (h0 : 0 < n) {FA : Option Addr} (ha : Afar vs FA) :
    ∃ (g : Nat) (v : Sl), A = some ⟨g, 0, none⟩ ∧ w.cell? ⟨g, 0, none⟩ = some (.slice v.1 v.2.1 v.2.2) ∧ OI w B 2 v.1 v.2.1 v.2.2 (row zss 0) ∧ (blk v.1 = none ∨ blk v.1 ≠ blk FA) := by
  have hz : 0 < zss.length := by rw [h.slen]; exact h0
  have hj : 0 < vs.length := by rw [h.len]; exact hz
  have hv := List.getElem?_eq_getElem hj
  obtain ⟨g, hA, hc, hf⟩ := h.os.cell (j := 0) (u := slv vs[0]) (by rw [List.getElem?_map, hv]; rfl)
  exact ⟨g, vs[0], hA, hc, by rw [row_get hz]; exact h.rows 0 _ _ hv (List.getElem?_eq_getElem hz), ha 0 _ hv⟩
end Go.Proofs.YtfhaifgbjpobdaaGreat
