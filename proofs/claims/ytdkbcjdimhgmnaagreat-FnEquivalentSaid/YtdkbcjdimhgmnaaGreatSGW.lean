/- From the form's reading of an argument to this proof's words: a slice of numbers, of bytes, of slices of numbers. No condition beyond those stated. -/
import Derived.Test.YtdkbcjdimhgmnaaGreatSGA
import Derived.ProofKit
import Derived.OpenShut
import Derived.Lib.SmallJoins
import Derived.Deep.Matrix
set_option linter.unusedVariables false
set_option linter.unusedSimpArgs false
namespace Go.Proofs.YtdkbcjdimhgmnaaGreat
open Go.ChangeShapes Go.WideShapes Go.ChangeAt Go.RowKit Go.Deep
section
variable {H : Type} {enc : TypeId × Value → H} {P : Program} {w : World} {fuel : Nat}
theorem open_RI {t e : TypeId} {v : Value} {x : DataW H × List MemPlace} (ht : P.underlying t = some (.slice e)) (he : P.underlying e = some (.int .i64)) (hc : P.cellsOf e = 1)
    (h : DataW.trod enc P w 0 (fun _ => true) true fuel t [v] = some x) : ∃ A n c zs, v = .slice A n c ∧ n ≤ c ∧ c ≤ 9223372036854775807 ∧ RI w A n zs := by
  rcases open_ints ht he hc h with ⟨hcs, _⟩ | ⟨a, len, cap, zs, hcs, _, hl, hm, hz, _, hcell, hwz⟩
  · simp at hcs
    exact ⟨none, 0, 0, [], hcs, by omega, by omega, RS.nil_ _ _ _⟩
  · simp at hcs hz
    refine ⟨some a, len, cap, zs.take len, hcs, hl, by unfold maxLen at hm; exact hm, ?_, fun j y hy => ?_⟩
    · rw [List.length_take]; omega
    · rw [List.getElem?_take] at hy
      split at hy
      · rename_i hj
        have hj' : j < zs.length := by omega
        have e1 : zs.getD j 0 = y := by simp [List.getD, hy]
        refine ⟨a, _, rfl, hcell j hj', by rw [e1], ?_⟩
        exact I64.of_wf (hwz y (List.mem_of_getElem? hy))
      · cases hy
theorem open_RR {t e q : TypeId} {v : Value} {x : DataW H × List MemPlace} (ht : P.underlying t = some (.slice e)) (he : P.underlying e = some (.slice q)) (hq : P.underlying q = some (.int .i64))
    (ce : P.cellsOf e = 1) (cq : P.cellsOf q = 1) (h : DataW.trod enc P w 0 (fun _ => true) true fuel t [v] = some x) :
    ∃ A n c zss, v = .slice A n c ∧ n ≤ c ∧ c ≤ 9223372036854775807 ∧ RR w A n zss := by
  rcases open_int_rows ht he hq ce cq h with ⟨hcs, _⟩ | ⟨a, len, cap, A, L, C, Z, hcs, _, hl, hm, _, hr⟩
  · simp at hcs
    exact ⟨none, 0, 0, [], hcs, by omega, by omega, RS.nil_ _ _ _⟩
  · simp at hcs
    refine ⟨some a, len, cap, (List.range len).map fun r => (Z r).take (L r), hcs, hl, by unfold maxLen at hm; exact hm, by simp, fun j y hy => ?_⟩
    have hj : j < len := by
      have := (List.getElem?_eq_some_iff.1 hy).1
      simpa using this
    have ey : (Z j).take (L j) = y := by simpa [hj] using hy
    obtain ⟨h1, h2, h3, h4, h5, h6, h7⟩ := hr j (by omega)
    refine ⟨a, _, rfl, h1, A j, L j, C j, rfl, h2, by unfold maxLen at h3; exact h3, ?_, fun i z hz => ?_⟩
    · rw [← ey, List.length_take]; omega
    · rw [← ey, List.getElem?_take] at hz
      split at hz
      · rename_i hi
        have hi' : i < C j := by omega
        cases hA : A j with
        | none => have := h6 hA; omega
        | some a' =>
          have hcell := (h7 a' hA).2 i hi'
          have e1 : (Z j).getD i 0 = z := by simp [List.getD, hz]
          exact ⟨a', _, rfl, hcell, by rw [e1], I64.of_wf (h5 z (List.mem_of_getElem? hz))⟩
      · cases hz
theorem open_RB {t e : TypeId} {v : Value} {x : DataW H × List MemPlace} (ht : P.underlying t = some (.slice e)) (he : P.underlying e = some (.int .u8)) (hc : P.cellsOf e = 1)
    (h : DataW.trod enc P w 0 (fun _ => true) true fuel t [v] = some x) : ∃ A n c zs, v = .slice A n c ∧ n ≤ c ∧ c ≤ 9223372036854775807 ∧ RS EByte w A n zs := by
  rcases open_ints ht he hc h with ⟨hcs, _⟩ | ⟨a, len, cap, zs, hcs, _, hl, hm, hz, _, hcell, hwz⟩
  · simp at hcs
    exact ⟨none, 0, 0, [], hcs, by omega, by omega, RS.nil_ _ _ _⟩
  · simp at hcs hz
    refine ⟨some a, len, cap, zs.take len, hcs, hl, by unfold maxLen at hm; exact hm, ?_, fun j y hy => ?_⟩
    · rw [List.length_take]; omega
    · rw [List.getElem?_take] at hy
      split at hy
      · rename_i hj
        have hj' : j < zs.length := by omega
        have e1 : zs.getD j 0 = y := by simp [List.getD, hy]
        refine ⟨a, _, rfl, hcell j hj', by rw [e1], ?_⟩
        exact bounds_u8 (hwz y (List.mem_of_getElem? hy))
      · cases hy
end
end Go.Proofs.YtdkbcjdimhgmnaaGreat
