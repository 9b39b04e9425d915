/- Rows of a call's own, one by one, their headers in a row of its own; two headers may be of one row. No condition beyond those stated. -/
import Derived.Test.YtdkbcjdimhgmnaaGreatRGB
set_option linter.unusedVariables false
set_option linter.unusedSimpArgs false
namespace Go.Proofs.YtdkbcjdimhgmnaaGreat
open Go.RowKit
structure OB (w : World) (B : Nat) (A : Option Addr) (n c : Nat) (vs : List Sl) (zss : List (List Int)) : Prop where
  os : OS w B 22 1 A n c (vs.map slv)
  len : vs.length = zss.length
  rows : ∀ (j : Nat) (v : Sl) (z : List Int), vs[j]? = some v → zss[j]? = some z → OI w B 2 v.1 v.2.1 v.2.2 z
section
variable {w w' : World} {B : Nat} {A : Option Addr} {n c : Nat} {vs : List Sl} {zss : List (List Int)}
theorem OB.slen (h : OB w B A n c vs zss) : vs.length = n ∧ zss.length = n := by have := h.os.len; have := h.len; simp at *; omega
theorem OB.below (h : OB w B A n c vs zss) (hb : Below w.heap.size w w') : OB w' B A n c vs zss := ⟨h.os.below hb, h.len, fun j v z hv hz => (h.rows j v z hv hz).below hb⟩
theorem OB.setLow (h : OB w B A n c vs zss) {p : Addr} (hp : p.block < B) (u : Value) : OB (w.setCell p u) B A n c vs zss := ⟨h.os.setLow hp u, h.len, fun j v z hv hz => (h.rows j v z hv hz).setLow hp u⟩
theorem OB.more {B' : Nat} (h : OB w B A n c vs zss) (hB : B' ≤ B) : OB w B' A n c vs zss := ⟨h.os.more hB, h.len, fun j v z hv hz => (h.rows j v z hv hz).more hB⟩
theorem OB.reads (h : OB w B A n c vs zss) : RR w A n zss := by
  refine ⟨h.slen.2, fun j z hz => ?_⟩
  have hj : j < vs.length := by rw [h.len]; exact (List.getElem?_eq_some_iff.1 hz).1
  have hv := List.getElem?_eq_getElem hj
  obtain ⟨ad, ha, hc⟩ := h.os.cells j (slv vs[j]) (by rw [List.getElem?_map, hv]; rfl)
  have ho := h.rows j _ z hv hz
  exact ⟨ad, _, ha, hc, _, _, _, rfl, ho.os.cap.1, ho.os.cap.2, ho.reads⟩
end
end Go.Proofs.YtdkbcjdimhgmnaaGreat
