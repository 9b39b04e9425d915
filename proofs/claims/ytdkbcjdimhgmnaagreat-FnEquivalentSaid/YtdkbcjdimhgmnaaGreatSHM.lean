/- The graph of a design, the reference's. No condition beyond those stated. -/
import Derived.Test.YtdkbcjdimhgmnaaGreatSHL
import Derived.Test.YtdkbcjdimhgmnaaGreatSHI
set_option linter.unusedVariables false
set_option linter.unusedSimpArgs false
namespace Go.Proofs.YtdkbcjdimhgmnaaGreat
open Go.RowKit
theorem ds_graphOk {v : Nat} {bs : List (List Int)} (h1 : v + bs.length ≤ 64) (h2 : (dsE v bs v).length ≤ 512) : GraphOk (dsC v bs.length) (dsE v bs v) := by
  refine ⟨by rw [dsC_len]; exact h1, h2, fun k hk => ?_, fun i hi => ?_, fun i hi => ?_⟩
  · rw [nth_get hk]
    have := List.getElem_mem hk
    generalize (dsC v bs.length)[k] = x at this
    unfold dsC at this
    rcases List.mem_append.1 this with h | h
    · rw [List.eq_of_mem_replicate h]; omega
    · rw [List.eq_of_mem_replicate h]; omega
  · rw [nthE_get hi]
    obtain ⟨x, j, hx, hj, -, he⟩ := (dsE_mem _).1 (List.getElem_mem hi)
    rw [he, dsC_len]
    simp only []
    omega
  · have := List.pairwise_iff_getElem.1 (dsE_strict (v := v) (bs := bs)) i (i + 1) (by omega) hi (by omega)
    rw [nthE_get (by omega), nthE_get hi]
    exact (cmpE_neg _ _).1 this
theorem codeP_two {cs : List Int} {es : List Ed} {b : Int} (h : GraphOk cs es) (hb : inB b 1 20000 = true) : codeP cs es b = 0 ∨ codeP cs es b = 5 := by
  unfold codeP
  rw [tB_yes h, hb]
  cases (runP cs es b.toNat).spent <;> simp
end Go.Proofs.YtdkbcjdimhgmnaaGreat
