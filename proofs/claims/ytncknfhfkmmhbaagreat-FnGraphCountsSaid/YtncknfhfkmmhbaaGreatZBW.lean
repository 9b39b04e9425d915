/- Tables of the levels of graphs, and the forms of their graphs. No condition beyond those stated. -/
import Derived.Test.YtncknfhfkmmhbaaGreatZBV
set_option linter.unusedVariables false
set_option linter.unusedSimpArgs false
namespace Go.Proofs.YtncknfhfkmmhbaaGreat
open Go.RowKit

/-- what a search says of a graph -/
def formG (n : Nat) (bs : List (List Int)) : Bool × List Int × List Ed := ((runN (List.replicate n 0) (edL bs) 20000).spent, (runN (List.replicate n 0) (edL bs) 20000).fc, (runN (List.replicate n 0) (edL bs) 20000).fe)
def sysB (n : Nat) (bs : List (List Int)) : Bool := decide (bs.length ≤ 20) && bs.all fun r => decide (r.length = 2) && r.all fun x => decide (0 ≤ x) && decide (x < n)
def edgB (n : Nat) (es : List Ed) : Bool := decide (es.length ≤ 512) && ((List.range es.length).all fun i => decide (0 ≤ (nthE es i).1) && decide ((nthE es i).1 < (nthE es i).2) && decide ((nthE es i).2 < n)) && (List.range es.length).all fun i => decide (i + 1 < es.length → (nthE es i).1 < (nthE es (i + 1)).1 ∨ ((nthE es i).1 = (nthE es (i + 1)).1 ∧ (nthE es i).2 < (nthE es (i + 1)).2))
theorem sysB_ok {n : Nat} {bs : List (List Int)} (h : sysB n bs = true) : SysM n bs ∧ bs.length ≤ 20 ∧ ∀ r ∈ bs, r.length = 2 := by
  unfold sysB at h
  rw [Bool.and_eq_true, List.all_eq_true] at h
  obtain ⟨h1, h2⟩ := h
  refine ⟨fun r hr => ?_, by simpa using h1, fun r hr => ?_⟩
  · have h3 := h2 r hr
    rw [Bool.and_eq_true, List.all_eq_true] at h3
    obtain ⟨h3, h4⟩ := h3
    have h3 : r.length = 2 := by simpa using h3
    refine ⟨by omega, fun x hx => ?_⟩
    have h5 := h4 x hx
    simp only [Bool.and_eq_true, decide_eq_true_eq] at h5
    exact ⟨x.toNat, by omega, by omega⟩
  · have h3 := h2 r hr
    rw [Bool.and_eq_true] at h3
    simpa using h3.1
theorem edgB_ok {n : Nat} {es : List Ed} (hn : n ≤ 64) (h : edgB n es = true) : GraphOk (List.replicate n 0) es := by
  unfold edgB at h
  rw [Bool.and_eq_true, Bool.and_eq_true, List.all_eq_true, List.all_eq_true] at h
  obtain ⟨⟨h1, h2⟩, h3⟩ := h
  refine ⟨by simpa using hn, by simpa using h1, fun k hk => ?_, fun i hi => ?_, fun i hi => ?_⟩
  · rw [nth_get hk, List.getElem_replicate]
    exact ⟨by omega, by omega⟩
  · have h4 := h2 i (List.mem_range.2 hi)
    simp only [Bool.and_eq_true, decide_eq_true_eq] at h4
    rw [List.length_replicate]
    exact ⟨h4.1.1, h4.1.2, h4.2⟩
  · have h4 := h3 i (List.mem_range.2 (by omega))
    exact (of_decide_eq_true h4) hi
def L1_0 : List (List (List Int)) := [[]]
def F1_0 : List (Bool × List Int × List Ed) := [(false, [0], [])]
def L1 : List (List (List Int)) := L1_0
def F1 : List (Bool × List Int × List Ed) := F1_0
def L2_0 : List (List (List Int)) := [[]]
def F2_0 : List (Bool × List Int × List Ed) := [(false, [0, 0], [])]
def L2_1 : List (List (List Int)) := [[[0, 1]]]
def F2_1 : List (Bool × List Int × List Ed) := [(false, [0, 0], [(0, 1)])]
def L2 : List (List (List Int)) := L2_0 ++ L2_1
def F2 : List (Bool × List Int × List Ed) := F2_0 ++ F2_1
def L3_0 : List (List (List Int)) := [[]]
def F3_0 : List (Bool × List Int × List Ed) := [(false, [0, 0, 0], [])]
def L3_1 : List (List (List Int)) := [[[0, 1]]]
def F3_1 : List (Bool × List Int × List Ed) := [(false, [0, 0, 0], [(1, 2)])]
def L3_2 : List (List (List Int)) := [[[0, 1], [0, 2]]]
def F3_2 : List (Bool × List Int × List Ed) := [(false, [0, 0, 0], [(0, 2), (1, 2)])]
def L3_3 : List (List (List Int)) := [[[0, 1], [0, 2], [1, 2]]]
def F3_3 : List (Bool × List Int × List Ed) := [(false, [0, 0, 0], [(0, 1), (0, 2), (1, 2)])]
def L3 : List (List (List Int)) := L3_0 ++ L3_1 ++ L3_2 ++ L3_3
def F3 : List (Bool × List Int × List Ed) := F3_0 ++ F3_1 ++ F3_2 ++ F3_3
def L4_0 : List (List (List Int)) := [[]]
def F4_0 : List (Bool × List Int × List Ed) := [(false, [0, 0, 0, 0], [])]
def L4_1 : List (List (List Int)) := [[[0, 1]]]
def F4_1 : List (Bool × List Int × List Ed) := [(false, [0, 0, 0, 0], [(2, 3)])]
def L4_2 : List (List (List Int)) := [[[0, 1], [0, 2]], [[0, 1], [2, 3]]]
def F4_2 : List (Bool × List Int × List Ed) := [(false, [0, 0, 0, 0], [(1, 3), (2, 3)]), (false, [0, 0, 0, 0], [(0, 1), (2, 3)])]
def L4_3 : List (List (List Int)) := [[[0, 1], [0, 2], [0, 3]], [[0, 1], [0, 2], [1, 2]], [[0, 1], [0, 2], [1, 3]]]
def F4_3 : List (Bool × List Int × List Ed) := [(false, [0, 0, 0, 0], [(0, 3), (1, 3), (2, 3)]), (false, [0, 0, 0, 0], [(1, 2), (1, 3), (2, 3)]), (false, [0, 0, 0, 0], [(0, 2), (1, 3), (2, 3)])]
def L4_4 : List (List (List Int)) := [[[0, 1], [0, 2], [0, 3], [1, 2]], [[0, 1], [0, 2], [1, 3], [2, 3]]]
def F4_4 : List (Bool × List Int × List Ed) := [(false, [0, 0, 0, 0], [(0, 3), (1, 2), (1, 3), (2, 3)]), (false, [0, 0, 0, 0], [(0, 1), (0, 2), (1, 3), (2, 3)])]
def L4_5 : List (List (List Int)) := [[[0, 1], [0, 2], [0, 3], [1, 2], [1, 3]]]
def F4_5 : List (Bool × List Int × List Ed) := [(false, [0, 0, 0, 0], [(0, 2), (0, 3), (1, 2), (1, 3), (2, 3)])]
def L4_6 : List (List (List Int)) := [[[0, 1], [0, 2], [0, 3], [1, 2], [1, 3], [2, 3]]]
def F4_6 : List (Bool × List Int × List Ed) := [(false, [0, 0, 0, 0], [(0, 1), (0, 2), (0, 3), (1, 2), (1, 3), (2, 3)])]
def L4 : List (List (List Int)) := L4_0 ++ L4_1 ++ L4_2 ++ L4_3 ++ L4_4 ++ L4_5 ++ L4_6
def F4 : List (Bool × List Int × List Ed) := F4_0 ++ F4_1 ++ F4_2 ++ F4_3 ++ F4_4 ++ F4_5 ++ F4_6
def L5_0 : List (List (List Int)) := [[]]
def F5_0 : List (Bool × List Int × List Ed) := [(false, [0, 0, 0, 0, 0], [])]
def L5_1 : List (List (List Int)) := [[[0, 1]]]
def F5_1 : List (Bool × List Int × List Ed) := [(false, [0, 0, 0, 0, 0], [(3, 4)])]
def L5_2 : List (List (List Int)) := [[[0, 1], [0, 2]], [[0, 1], [2, 3]]]
def F5_2 : List (Bool × List Int × List Ed) := [(false, [0, 0, 0, 0, 0], [(2, 4), (3, 4)]), (false, [0, 0, 0, 0, 0], [(1, 2), (3, 4)])]
def L5_3 : List (List (List Int)) := [[[0, 1], [0, 2], [0, 3]], [[0, 1], [0, 2], [1, 2]], [[0, 1], [0, 2], [1, 3]], [[0, 1], [0, 2], [3, 4]]]
def F5_3 : List (Bool × List Int × List Ed) := [(false, [0, 0, 0, 0, 0], [(1, 4), (2, 4), (3, 4)]), (false, [0, 0, 0, 0, 0], [(2, 3), (2, 4), (3, 4)]), (false, [0, 0, 0, 0, 0], [(1, 3), (2, 4), (3, 4)]), (false, [0, 0, 0, 0, 0], [(0, 1), (2, 4), (3, 4)])]
def L5_4 : List (List (List Int)) := [[[0, 1], [0, 2], [0, 3], [0, 4]], [[0, 1], [0, 2], [0, 3], [1, 2]], [[0, 1], [0, 2], [0, 3], [1, 4]], [[0, 1], [0, 2], [1, 2], [3, 4]], [[0, 1], [0, 2], [1, 3], [2, 3]], [[0, 1], [0, 2], [1, 3], [2, 4]]]
def F5_4 : List (Bool × List Int × List Ed) := [(false, [0, 0, 0, 0, 0], [(0, 4), (1, 4), (2, 4), (3, 4)]), (false, [0, 0, 0, 0, 0], [(1, 4), (2, 3), (2, 4), (3, 4)]), (false, [0, 0, 0, 0, 0], [(0, 3), (1, 4), (2, 4), (3, 4)]), (false, [0, 0, 0, 0, 0], [(0, 1), (2, 3), (2, 4), (3, 4)]), (false, [0, 0, 0, 0, 0], [(1, 2), (1, 3), (2, 4), (3, 4)]), (false, [0, 0, 0, 0, 0], [(0, 2), (1, 3), (2, 4), (3, 4)])]
def L5_5 : List (List (List Int)) := [[[0, 1], [0, 2], [0, 3], [0, 4], [1, 2]], [[0, 1], [0, 2], [0, 3], [1, 2], [1, 3]], [[0, 1], [0, 2], [0, 3], [1, 2], [1, 4]], [[0, 1], [0, 2], [0, 3], [1, 2], [3, 4]], [[0, 1], [0, 2], [0, 3], [1, 4], [2, 4]], [[0, 1], [0, 2], [1, 3], [2, 4], [3, 4]]]
def F5_5 : List (Bool × List Int × List Ed) := [(false, [0, 0, 0, 0, 0], [(0, 4), (1, 4), (2, 3), (2, 4), (3, 4)]), (false, [0, 0, 0, 0, 0], [(1, 3), (1, 4), (2, 3), (2, 4), (3, 4)]), (false, [0, 0, 0, 0, 0], [(0, 3), (1, 4), (2, 3), (2, 4), (3, 4)]), (false, [0, 0, 0, 0, 0], [(0, 1), (1, 4), (2, 3), (2, 4), (3, 4)]), (false, [0, 0, 0, 0, 0], [(0, 4), (1, 2), (1, 3), (2, 4), (3, 4)]), (false, [0, 0, 0, 0, 0], [(0, 1), (0, 2), (1, 3), (2, 4), (3, 4)])]
def L5_6 : List (List (List Int)) := [[[0, 1], [0, 2], [0, 3], [0, 4], [1, 2], [1, 3]], [[0, 1], [0, 2], [0, 3], [0, 4], [1, 2], [3, 4]], [[0, 1], [0, 2], [0, 3], [1, 2], [1, 3], [2, 3]], [[0, 1], [0, 2], [0, 3], [1, 2], [1, 3], [2, 4]], [[0, 1], [0, 2], [0, 3], [1, 2], [1, 4], [3, 4]], [[0, 1], [0, 2], [0, 3], [1, 4], [2, 4], [3, 4]]]
def F5_6 : List (Bool × List Int × List Ed) := [(false, [0, 0, 0, 0, 0], [(0, 4), (1, 3), (1, 4), (2, 3), (2, 4), (3, 4)]), (false, [0, 0, 0, 0, 0], [(0, 1), (0, 4), (1, 4), (2, 3), (2, 4), (3, 4)]), (false, [0, 0, 0, 0, 0], [(1, 2), (1, 3), (1, 4), (2, 3), (2, 4), (3, 4)]), (false, [0, 0, 0, 0, 0], [(0, 2), (1, 3), (1, 4), (2, 3), (2, 4), (3, 4)]), (false, [0, 0, 0, 0, 0], [(0, 1), (0, 3), (1, 4), (2, 3), (2, 4), (3, 4)]), (false, [0, 0, 0, 0, 0], [(0, 3), (0, 4), (1, 3), (1, 4), (2, 3), (2, 4)])]
def L5_7 : List (List (List Int)) := [[[0, 1], [0, 2], [0, 3], [0, 4], [1, 2], [1, 3], [1, 4]], [[0, 1], [0, 2], [0, 3], [0, 4], [1, 2], [1, 3], [2, 3]], [[0, 1], [0, 2], [0, 3], [0, 4], [1, 2], [1, 3], [2, 4]], [[0, 1], [0, 2], [0, 3], [1, 2], [1, 3], [2, 4], [3, 4]]]
def F5_7 : List (Bool × List Int × List Ed) := [(false, [0, 0, 0, 0, 0], [(0, 3), (0, 4), (1, 3), (1, 4), (2, 3), (2, 4), (3, 4)]), (false, [0, 0, 0, 0, 0], [(0, 4), (1, 2), (1, 3), (1, 4), (2, 3), (2, 4), (3, 4)]), (false, [0, 0, 0, 0, 0], [(0, 2), (0, 4), (1, 3), (1, 4), (2, 3), (2, 4), (3, 4)]), (false, [0, 0, 0, 0, 0], [(0, 1), (0, 2), (1, 3), (1, 4), (2, 3), (2, 4), (3, 4)])]
def L5_8 : List (List (List Int)) := [[[0, 1], [0, 2], [0, 3], [0, 4], [1, 2], [1, 3], [1, 4], [2, 3]], [[0, 1], [0, 2], [0, 3], [0, 4], [1, 2], [1, 3], [2, 4], [3, 4]]]
def F5_8 : List (Bool × List Int × List Ed) := [(false, [0, 0, 0, 0, 0], [(0, 3), (0, 4), (1, 2), (1, 3), (1, 4), (2, 3), (2, 4), (3, 4)]), (false, [0, 0, 0, 0, 0], [(0, 1), (0, 2), (0, 4), (1, 3), (1, 4), (2, 3), (2, 4), (3, 4)])]
def L5_9 : List (List (List Int)) := [[[0, 1], [0, 2], [0, 3], [0, 4], [1, 2], [1, 3], [1, 4], [2, 3], [2, 4]]]
def F5_9 : List (Bool × List Int × List Ed) := [(false, [0, 0, 0, 0, 0], [(0, 2), (0, 3), (0, 4), (1, 2), (1, 3), (1, 4), (2, 3), (2, 4), (3, 4)])]
def L5_10 : List (List (List Int)) := [[[0, 1], [0, 2], [0, 3], [0, 4], [1, 2], [1, 3], [1, 4], [2, 3], [2, 4], [3, 4]]]
def F5_10 : List (Bool × List Int × List Ed) := [(false, [0, 0, 0, 0, 0], [(0, 1), (0, 2), (0, 3), (0, 4), (1, 2), (1, 3), (1, 4), (2, 3), (2, 4), (3, 4)])]
def L5 : List (List (List Int)) := L5_0 ++ L5_1 ++ L5_2 ++ L5_3 ++ L5_4 ++ L5_5 ++ L5_6 ++ L5_7 ++ L5_8 ++ L5_9 ++ L5_10
def F5 : List (Bool × List Int × List Ed) := F5_0 ++ F5_1 ++ F5_2 ++ F5_3 ++ F5_4 ++ F5_5 ++ F5_6 ++ F5_7 ++ F5_8 ++ F5_9 ++ F5_10
set_option maxRecDepth 100000 in
theorem stepL1_0 : extdF 1 (permK 1 (factN 1)) L1_0 = [] := by decide +kernel
set_option maxRecDepth 100000 in
theorem form1_0 : L1_0.map (formG 1) = F1_0 := by decide +kernel
set_option maxRecDepth 100000 in
theorem stepL2_0 : extdF 2 (permK 2 (factN 2)) L2_0 = L2_1 := by decide +kernel
set_option maxRecDepth 100000 in
theorem form2_0 : L2_0.map (formG 2) = F2_0 := by decide +kernel
set_option maxRecDepth 100000 in
theorem stepL2_1 : extdF 2 (permK 2 (factN 2)) L2_1 = [] := by decide +kernel
set_option maxRecDepth 100000 in
theorem form2_1 : L2_1.map (formG 2) = F2_1 := by decide +kernel
set_option maxRecDepth 100000 in
theorem stepL3_0 : extdF 3 (permK 3 (factN 3)) L3_0 = L3_1 := by decide +kernel
set_option maxRecDepth 100000 in
theorem form3_0 : L3_0.map (formG 3) = F3_0 := by decide +kernel
set_option maxRecDepth 100000 in
theorem stepL3_1 : extdF 3 (permK 3 (factN 3)) L3_1 = L3_2 := by decide +kernel
set_option maxRecDepth 100000 in
theorem form3_1 : L3_1.map (formG 3) = F3_1 := by decide +kernel
set_option maxRecDepth 100000 in
theorem stepL3_2 : extdF 3 (permK 3 (factN 3)) L3_2 = L3_3 := by decide +kernel
set_option maxRecDepth 100000 in
theorem form3_2 : L3_2.map (formG 3) = F3_2 := by decide +kernel
set_option maxRecDepth 100000 in
theorem stepL3_3 : extdF 3 (permK 3 (factN 3)) L3_3 = [] := by decide +kernel
set_option maxRecDepth 100000 in
theorem form3_3 : L3_3.map (formG 3) = F3_3 := by decide +kernel
set_option maxRecDepth 100000 in
theorem stepL4_0 : extdF 4 (permK 4 (factN 4)) L4_0 = L4_1 := by decide +kernel
set_option maxRecDepth 100000 in
theorem form4_0 : L4_0.map (formG 4) = F4_0 := by decide +kernel
set_option maxRecDepth 100000 in
theorem stepL4_1 : extdF 4 (permK 4 (factN 4)) L4_1 = L4_2 := by decide +kernel
set_option maxRecDepth 100000 in
theorem form4_1 : L4_1.map (formG 4) = F4_1 := by decide +kernel
set_option maxRecDepth 100000 in
theorem stepL4_2 : extdF 4 (permK 4 (factN 4)) L4_2 = L4_3 := by decide +kernel
set_option maxRecDepth 100000 in
theorem form4_2 : L4_2.map (formG 4) = F4_2 := by decide +kernel
set_option maxRecDepth 100000 in
theorem stepL4_3 : extdF 4 (permK 4 (factN 4)) L4_3 = L4_4 := by decide +kernel
set_option maxRecDepth 100000 in
theorem form4_3 : L4_3.map (formG 4) = F4_3 := by decide +kernel
set_option maxRecDepth 100000 in
theorem stepL4_4 : extdF 4 (permK 4 (factN 4)) L4_4 = L4_5 := by decide +kernel
set_option maxRecDepth 100000 in
theorem form4_4 : L4_4.map (formG 4) = F4_4 := by decide +kernel
set_option maxRecDepth 100000 in
theorem stepL4_5 : extdF 4 (permK 4 (factN 4)) L4_5 = L4_6 := by decide +kernel
set_option maxRecDepth 100000 in
theorem form4_5 : L4_5.map (formG 4) = F4_5 := by decide +kernel
set_option maxRecDepth 100000 in
theorem stepL4_6 : extdF 4 (permK 4 (factN 4)) L4_6 = [] := by decide +kernel
set_option maxRecDepth 100000 in
theorem form4_6 : L4_6.map (formG 4) = F4_6 := by decide +kernel
set_option maxRecDepth 100000 in
theorem form5_0 : L5_0.map (formG 5) = F5_0 := by decide +kernel
set_option maxRecDepth 100000 in
theorem form5_1 : L5_1.map (formG 5) = F5_1 := by decide +kernel
set_option maxRecDepth 100000 in
theorem form5_2 : L5_2.map (formG 5) = F5_2 := by decide +kernel
set_option maxRecDepth 100000 in
theorem form5_3 : L5_3.map (formG 5) = F5_3 := by decide +kernel
set_option maxRecDepth 100000 in
theorem form5_4 : L5_4.map (formG 5) = F5_4 := by decide +kernel
set_option maxRecDepth 100000 in
theorem form5_5 : L5_5.map (formG 5) = F5_5 := by decide +kernel
set_option maxRecDepth 100000 in
theorem form5_6 : L5_6.map (formG 5) = F5_6 := by decide +kernel
set_option maxRecDepth 100000 in
theorem form5_7 : L5_7.map (formG 5) = F5_7 := by decide +kernel
set_option maxRecDepth 100000 in
theorem form5_8 : L5_8.map (formG 5) = F5_8 := by decide +kernel
set_option maxRecDepth 100000 in
theorem form5_9 : L5_9.map (formG 5) = F5_9 := by decide +kernel
set_option maxRecDepth 100000 in
theorem form5_10 : L5_10.map (formG 5) = F5_10 := by decide +kernel
end Go.Proofs.YtncknfhfkmmhbaaGreat
/- The levels with five vertices, first half. No condition beyond those stated. -/
namespace Go.Proofs.YtncknfhfkmmhbaaGreat
open Go.RowKit

set_option maxRecDepth 100000 in
theorem stepL5_0 : extdF 5 (permK 5 (factN 5)) L5_0 = L5_1 := by decide +kernel
set_option maxRecDepth 100000 in
theorem stepL5_1 : extdF 5 (permK 5 (factN 5)) L5_1 = L5_2 := by decide +kernel
set_option maxRecDepth 100000 in
theorem stepL5_2 : extdF 5 (permK 5 (factN 5)) L5_2 = L5_3 := by decide +kernel
set_option maxRecDepth 100000 in
theorem stepL5_3 : extdF 5 (permK 5 (factN 5)) L5_3 = L5_4 := by decide +kernel
set_option maxRecDepth 100000 in
theorem stepL5_4 : extdF 5 (permK 5 (factN 5)) L5_4 = L5_5 := by decide +kernel
set_option maxRecDepth 100000 in
theorem stepL5_5 : extdF 5 (permK 5 (factN 5)) L5_5 = L5_6 := by decide +kernel
end Go.Proofs.YtncknfhfkmmhbaaGreat
/- The levels with five vertices, second half. No condition beyond those stated. -/
namespace Go.Proofs.YtncknfhfkmmhbaaGreat
open Go.RowKit

set_option maxRecDepth 100000 in
theorem stepL5_6 : extdF 5 (permK 5 (factN 5)) L5_6 = L5_7 := by decide +kernel
set_option maxRecDepth 100000 in
theorem stepL5_7 : extdF 5 (permK 5 (factN 5)) L5_7 = L5_8 := by decide +kernel
set_option maxRecDepth 100000 in
theorem stepL5_8 : extdF 5 (permK 5 (factN 5)) L5_8 = L5_9 := by decide +kernel
set_option maxRecDepth 100000 in
theorem stepL5_9 : extdF 5 (permK 5 (factN 5)) L5_9 = L5_10 := by decide +kernel
set_option maxRecDepth 100000 in
theorem stepL5_10 : extdF 5 (permK 5 (factN 5)) L5_10 = [] := by decide +kernel
end Go.Proofs.YtncknfhfkmmhbaaGreat
