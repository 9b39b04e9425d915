/- Permutations composed and inverted, both sides. No condition beyond those stated. -/
import Derived.Test.YtdkbcjdimhgmnaaGreatRGQ
set_option linter.unusedVariables false
set_option linter.unusedSimpArgs false
namespace Go.Proofs.YtdkbcjdimhgmnaaGreat
open Go.RowKit
theorem apart_pairwise {w : World} {B : Nat} {e2 e1 : TypeId} {A : Option Addr} {n c : Nat} {vs : List Sl} {zss : List (List Int)} (h : ORv w B e2 e1 A n c vs zss) : vs.Pairwise apart :=
  List.pairwise_iff_getElem.2 fun i j hi hj hij => h.sep i j _ _ (by omega) (List.getElem?_eq_getElem hi) (List.getElem?_eq_getElem hj)
theorem pairwise_apart {vs : List Sl} (h : vs.Pairwise apart) (i j : Nat) (v u : Sl) (hij : i ≠ j) (hv : vs[i]? = some v) (hu : vs[j]? = some u) : apart v u := by
  obtain ⟨hi, rfl⟩ := List.getElem?_eq_some_iff.1 hv
  obtain ⟨hj, rfl⟩ := List.getElem?_eq_some_iff.1 hu
  rcases Nat.lt_or_ge i j with h1 | h1
  · exact List.pairwise_iff_getElem.1 h i j hi hj h1
  · exact (List.pairwise_iff_getElem.1 h j i hj hi (by omega)).symm
theorem zip_fst (vs : List Sl) (zss : List (List Int)) (h : vs.length = zss.length) : (vs.zip zss).map (·.1) = vs := by
  rw [List.map_fst_zip (by omega)]
theorem zip_snd (vs : List Sl) (zss : List (List Int)) (h : vs.length = zss.length) : (vs.zip zss).map (·.2) = zss := by
  rw [List.map_snd_zip (by omega)]
theorem ORv.pv {w : World} {B : Nat} {g n c : Nat} {vs : List Sl} {zss : List (List Int)} (h : ORv w B 22 2 (some ⟨g, 0, none⟩) n c vs zss) : PV w B 22 g n c (vs.zip zss) := by
  refine ⟨?_, fun p hp => ?_⟩
  · have := h.os
    rw [← zip_fst vs zss h.len, List.map_map] at this
    exact this
  · obtain ⟨j, hj⟩ := List.getElem?_of_mem hp
    rw [List.getElem?_zip_eq_some] at hj
    obtain ⟨h1, h2⟩ := hj
    have ho := h.rows j _ _ h1 h2
    refine ⟨ho.os.cap.1, ho.os.cap.2, ho.reads, ?_⟩
    rcases h.outer_row h1 with h3 | h3
    · rw [h3]; simp
    · simpa [blk] using h3
theorem ORv.sorted {w w' : World} {B : Nat} {g n c : Nat} {vs : List Sl} {zss : List (List Int)} (h : ORv w B 22 2 (some ⟨g, 0, none⟩) n c vs zss) {Y : List PL} (hp : Y.Perm (vs.zip zss)) (hv : PV w' B 22 g n c Y) (hg : w.grownBy w' (some g)) :
    ORv w' B 22 2 (some ⟨g, 0, none⟩) n c (Y.map (·.1)) (Y.map (·.2)) := by
  refine ⟨?_, by simp, fun j v z hv' hz => ?_, ?_, h.ne⟩
  · have := hv.os
    rw [List.map_map]
    exact this
  · rw [List.getElem?_map] at hv' hz
    cases hy : Y[j]? with
    | none => rw [hy] at hv'; cases hv'
    | some p =>
      rw [hy] at hv' hz
      simp only [Option.map_some, Option.some.injEq] at hv' hz
      subst hv'; subst hz
      have hm : p ∈ vs.zip zss := hp.mem_iff.1 (List.mem_of_getElem? hy)
      obtain ⟨i, hi⟩ := List.getElem?_of_mem hm
      rw [List.getElem?_zip_eq_some] at hi
      obtain ⟨h1, h2⟩ := hi
      refine (h.rows i _ _ h1 h2).kept hg ?_
      rcases h.outer_row h1 with h3 | h3
      · exact .inl h3
      · exact .inr (by simpa [blk] using h3)
  · have h1 := apart_pairwise h
    have h2 : (Y.map (·.1)).Perm vs := by
      have := hp.map (·.1)
      rwa [zip_fst vs zss h.len] at this
    exact pairwise_apart ((h2.pairwise_iff (fun {a b} h => h.symm)).2 h1)
end Go.Proofs.YtdkbcjdimhgmnaaGreat
