/- CanonicalDesign, the program's side. No condition beyond those stated. -/
import Derived.Test.YtdkbcjdimhgmnaaGreatRHU
set_option linter.unusedVariables false
set_option linter.unusedSimpArgs false
namespace Go.Proofs.YtdkbcjdimhgmnaaGreat
open Go.RowKit
theorem rel_ok {n : Nat} {es : List Ed} {p : List Int} (h : EdgesOk n es) (hp : Perm p) (hl : p.length = n) : EdgesOk n (relE es p) := by
  refine ⟨fun e he => ?_, setG_strict cmpE_ord _⟩
  rw [relE_tab h hp hl, tabE_mem] at he
  obtain ⟨a, b, rfl, h1, h2, -⟩ := he
  exact ⟨by simp, by simp; omega, by simp; omega⟩
theorem edges_graph {cs : List Int} {es : List Ed} (h : EdgesOk cs.length es) (hc : cs.length ≤ 64) (he : es.length ≤ 512) (hcol : ∀ k, k < cs.length → 0 ≤ nth cs k ∧ nth cs k ≤ 63) : GraphOk cs es := by
  refine ⟨hc, he, hcol, fun i hi => ?_, fun i hi => ?_⟩
  · have := h.edge (nthE es i) (by rw [nthE_get hi]; exact List.getElem_mem hi)
    exact this
  · have := List.pairwise_iff_getElem.1 h.strict i (i + 1) (by omega) hi (by omega)
    rw [nthE_get (by omega), nthE_get hi]
    exact (cmpE_neg _ _).1 this
theorem cd_bip {V : Nat} {bs : List (List Int)} {p : List Int} (hD : Design (V : Int) bs) (hE : GraphOk (dsC V bs.length) (dsE V bs V)) (hp : Perm p) (hu : UpL (dsC V bs.length) p) : Bip V bs.length (relE (dsE V bs V) p) := by
  have hl : p.length = V + bs.length := by rw [hu.1, dsC_len]
  have hlc : (dsC V bs.length).length = V + bs.length := dsC_len _ _
  have h1 := hD.v1
  have h2 := hD.v2
  refine ⟨by omega, by omega, ?_, cd_edges hp hu, fun i hi => ?_⟩
  · refine edges_graph ?_ hE.clen (Nat.le_trans (relE_len _ _) hE.elen) hE.col
    rw [hlc]
    exact rel_ok dsE_ok hp hl
  · have hm : row ((nearP (V + bs.length) (relE (dsE V bs V) p)).drop V) i ∈ (nearP (V + bs.length) (relE (dsE V bs V) p)).drop V := by
      rw [row_get (by rw [List.length_drop, nearP_len]; omega)]
      exact List.getElem_mem _
    have := (cd_lists hD hp hu).mem_iff.1 hm
    obtain ⟨r, hr, he⟩ := List.mem_map.1 this
    obtain ⟨k, hk, rfl⟩ := List.mem_iff_getElem.1 hr
    rw [← he]
    refine imgR_ne ?_
    have := (hD.blk k hk).1
    rw [row_get hk] at this
    omega
end Go.Proofs.YtdkbcjdimhgmnaaGreat
