/- From the form's reading of an argument to this proof's words: a slice of numbers, of bytes, of slices of numbers. No condition beyond those stated. -/
import Derived.Test.YtdkbcjdimhgmnaaGreatQGA
import Derived.ProofKit
import Derived.OpenShut
import Derived.Lib.SmallJoins
import Derived.Deep.Matrix
set_option linter.unusedVariables false
set_option linter.unusedSimpArgs false
namespace Go.Proofs.YtdkbcjdimhgmnaaGreat
open Go.ChangeShapes Go.WideShapes Go.ChangeAt Go.RowKit Go.Deep
section
variable {H : Type} {enc : TypeId × Value → H} {P : Program} {w : World} {fuel : Nat}
theorem open_RI {t e : TypeId} {v : Value} {x : DataW H × List MemPlace} (ht : P.underlying t = some (.slice e)) (he : P.underlying e = some (.int .i64)) (hc : P.cellsOf e = 1)
    (h : DataW.trod enc P w 0 (fun _ => true) true fuel t [v] = some x) : ∃ A n c zs, v = .slice A n c ∧ n ≤ c ∧ c ≤ 9223372036854775807 ∧ RI w A n zs := by
  rcases open_ints ht he hc h with ⟨hcs, _⟩ | ⟨a, len, cap, zs, hcs, _, hl, hm, hz, _, hcell, hwz⟩
  · simp at hcs
    exact ⟨none, 0, 0, [], hcs, by omega, by omega, RS.nil_ _ _ _⟩
  · simp at hcs hz
    refine ⟨some a, len, cap, zs.take len, hcs, hl, by unfold maxLen at hm; exact hm, ?_, fun j y hy => ?_⟩
    · rw [List.length_take]; omega
    · rw [List.getElem?_take] at hy
      split at hy
      · rename_i hj
        have hj' : j < zs.length := by omega
        have e1 : zs.getD j 0 = y := by simp [List.getD, hy]
        refine ⟨a, _, rfl, hcell j hj', by rw [e1], ?_⟩
        exact I64.of_wf (hwz y (List.mem_of_getElem? hy))
      · cases hy
theorem open_RR {t e q : TypeId} {v : Value} {x : DataW H × List MemPlace} (ht : P.underlying t = some (.slice e)) (he : P.underlying e = some (.slice q)) (hq : P.underlying q = some (.int .i64))
    (ce : P.cellsOf e = 1) (cq : P.cellsOf q = 1) (h : DataW.trod enc P w 0 (fun _ => true) true fuel t [v] = some x) :
    ∃ A n c zss, v = .slice A n c ∧ n ≤ c ∧ c ≤ 9223372036854775807 ∧ RR w A n zss := by
  rcases open_int_rows ht he hq ce cq h with ⟨hcs, _⟩ | ⟨a, len, cap, A, L, C, Z, hcs, _, hl, hm, _, hr⟩
  · simp at hcs
    exact ⟨none, 0, 0, [], hcs, by omega, by omega, RS.nil_ _ _ _⟩
  · simp at hcs
    refine ⟨some a, len, cap, (List.range len).map fun r => (Z r).take (L r), hcs, hl, by unfold maxLen at hm; exact hm, by simp, fun j y hy => ?_⟩
    have hj : j < len := by
      have := (List.getElem?_eq_some_iff.1 hy).1
      simpa using this
    have ey : (Z j).take (L j) = y := by simpa [hj] using hy
    obtain ⟨h1, h2, h3, h4, h5, h6, h7⟩ := hr j (by omega)
    refine ⟨a, _, rfl, h1, A j, L j, C j, rfl, h2, by unfold maxLen at h3; exact h3, ?_, fun i z hz => ?_⟩
    · rw [← ey, List.length_take]; omega
    · rw [← ey, List.getElem?_take] at hz
      split at hz
      · rename_i hi
        have hi' : i < C j := by omega
        cases hA : A j with
        | none => have := h6 hA; omega
        | some a' =>
          have hcell := (h7 a' hA).2 i hi'
          have e1 : (Z j).getD i 0 = z := by simp [List.getD, hz]
          exact ⟨a', _, rfl, hcell, by rw [e1], I64.of_wf (h5 z (List.mem_of_getElem? hz))⟩
      · cases hz
theorem open_RB {t e : TypeId} {v : Value} {x : DataW H × List MemPlace} (ht : P.underlying t = some (.slice e)) (he : P.underlying e = some (.int .u8)) (hc : P.cellsOf e = 1)
    (h : DataW.trod enc P w 0 (fun _ => true) true fuel t [v] = some x) : ∃ A n c zs, v = .slice A n c ∧ n ≤ c ∧ c ≤ 9223372036854775807 ∧ RS EByte w A n zs := by
  rcases open_ints ht he hc h with ⟨hcs, _⟩ | ⟨a, len, cap, zs, hcs, _, hl, hm, hz, _, hcell, hwz⟩
  · simp at hcs
    exact ⟨none, 0, 0, [], hcs, by omega, by omega, RS.nil_ _ _ _⟩
  · simp at hcs hz
    refine ⟨some a, len, cap, zs.take len, hcs, hl, by unfold maxLen at hm; exact hm, ?_, fun j y hy => ?_⟩
    · rw [List.length_take]; omega
    · rw [List.getElem?_take] at hy
      split at hy
      · rename_i hj
        have hj' : j < zs.length := by omega
        have e1 : zs.getD j 0 = y := by simp [List.getD, hy]
        refine ⟨a, _, rfl, hcell j hj', by rw [e1], ?_⟩
        exact bounds_u8 (hwz y (List.mem_of_getElem? hy))
      · cases hy
end
end Go.Proofs.YtdkbcjdimhgmnaaGreat
namespace Go.Proofs.YtdkbcjdimhgmnaaGreat
open Go.RowKit Go.WideShapes Go.ChangeShapes Go.Deep Go.Joins
theorem open_nest {H : Type} {enc : TypeId × Value → H} {P : Program} {w : World} {base : Nat} {spare : Nat → Bool} {held : Bool} {r : Reach} {b0 : Nat} {t : TypeId} {f0 f1 g0 g1 g2 : Field} {v : Value} {d : DataW H} {p : List MemPlace} (hs : P.underlying t = some (.struct #[f0, f1])) (hs0 : P.underlying f0.type = some (.struct #[g0, g1, g2]))
    (hone : oneCellFields P #[g0, g1, g2] = true) (o : (f0.offset == 0 && P.cellsOf f0.type == 3 && f1.offset == 3 && P.cellsOf f1.type == 1) = true) (hC : P.cellsOf t = 4)
    (hv : Value.okWide P w r b0 t v) (h : DataW.Trod enc P w base spare held t v d p) :
    ∃ (v0 v1 v2 v3 : Value) (y0 y1 y2 y3 : DataW H × List MemPlace) (n m : Nat), v = .agg #[v0, v1, v2, v3] ∧ d = .agg [.agg [y0.1, y1.1, y2.1], y3.1] ∧ p = (y0.2 ++ (y1.2 ++ y2.2)) ++ y3.2 ∧
      DataW.trod enc P w base spare held n g0.type [v0] = some y0 ∧ DataW.trod enc P w base spare held n g1.type [v1] = some y1 ∧ DataW.trod enc P w base spare held n g2.type [v2] = some y2 ∧ DataW.trod enc P w base spare held m f1.type [v3] = some y3 := by
  simp only [Bool.and_eq_true, beq_iff_eq] at o
  obtain ⟨⟨⟨o0, k0⟩, o1⟩, k1⟩ := o
  obtain ⟨cs, rfl, hsz⟩ := okWide_struct hs hv
  obtain ⟨c0, c1, c2, c3, rfl⟩ := array4 (hsz.trans hC)
  obtain ⟨fuel, hf⟩ := h
  obtain ⟨x0, x1, m, hx, _, h0, h1⟩ := trod_struct2 hs hf
  have h0' : DataW.trod enc P w base spare held m f0.type [c0, c1, c2] = some x0 := by simpa [Value.cells, o0, k0] using h0
  obtain ⟨y0, y1, y2, n, hy, _, q0, q1, q2⟩ := trod_struct3 hs0 h0'
  obtain ⟨a0, b0'⟩ := hone_of hone 0 g0 rfl
  obtain ⟨a1, b1⟩ := hone_of hone 1 g1 rfl
  obtain ⟨a2, b2⟩ := hone_of hone 2 g2 rfl
  simp only [Prod.mk.injEq] at hx
  subst hy
  exact ⟨c0, c1, c2, c3, y0, y1, y2, x1, n, m, rfl, hx.1, hx.2, by simpa [a0, b0'] using q0, by simpa [a1, b1] using q1, by simpa [a2, b2] using q2, by simpa [Value.cells, o1, k1] using h1⟩
end Go.Proofs.YtdkbcjdimhgmnaaGreat
