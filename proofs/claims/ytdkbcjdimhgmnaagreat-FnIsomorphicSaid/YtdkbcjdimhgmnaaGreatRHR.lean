/- The group of a design, plain: rows put where the search finds them. -/
import Derived.Test.YtdkbcjdimhgmnaaGreatRHP
set_option linter.unusedVariables false
set_option linter.unusedSimpArgs false
namespace Go.Proofs.YtdkbcjdimhgmnaaGreat
theorem setG_self {zss : List (List Int)} (hs : StrictL cmpL zss) : setG cmpL zss = zss := setG_eq cmpL_ord hs fun _ => Iff.rfl
theorem putG_snoc {zss : List (List Int)} (hs : StrictL cmpL zss) (x : List Int) : putG cmpL zss x = setG cmpL (zss ++ [x]) := by
  rw [setG_snoc, setG_self hs]
theorem fd_put {zss : List (List Int)} {x : List Int} {k : Nat} (hs : StrictL cmpL zss) (h : FdAt zss x k false) : zss.take k ++ [x] ++ zss.drop k = putG cmpL zss x := by
  rw [putG_snoc hs]
  obtain ⟨hk, h⟩ := h
  rcases h with ⟨h, -⟩ | ⟨-, h1, h2⟩
  · cases h
  · refine (setG_eq cmpL_ord ?_ fun y => ?_).symm
    · have a1 : ∀ a ∈ zss.take k, cmpL a x < 0 := fun a ha => by
        obtain ⟨i, hi, rfl⟩ := List.mem_iff_getElem.1 ha
        rw [List.length_take] at hi
        rw [List.getElem_take]
        have := h1 i (by omega)
        rwa [row_get (by omega)] at this
      have a2 : ∀ a ∈ zss.drop k, cmpL x a < 0 := fun a ha => by
        obtain ⟨i, hi, rfl⟩ := List.mem_iff_getElem.1 ha
        rw [List.length_drop] at hi
        rw [List.getElem_drop]
        have := h2 (k + i) (by omega) (by omega)
        rw [row_get (by omega)] at this
        have := cmpL_ord.swap zss[k + i] x
        omega
      unfold StrictL
      rw [List.append_assoc, List.pairwise_append]
      refine ⟨hs.sublist (List.take_sublist _ _), List.pairwise_cons.2 ⟨a2, hs.sublist (List.drop_sublist _ _)⟩, fun a ha b hb => ?_⟩
      rcases List.mem_cons.1 hb with rfl | hb
      · exact a1 a ha
      · exact cmpL_ord.lt_trans (a1 a ha) (a2 b hb)
    · have e : y ∈ zss ↔ y ∈ zss.take k ∨ y ∈ zss.drop k := by rw [← List.mem_append, List.take_append_drop]
      simp only [List.mem_append, List.mem_singleton, e]
      constructor
      · rintro ((h | h) | h)
        · exact .inl (.inl h)
        · exact .inr h
        · exact .inl (.inr h)
      · rintro ((h | h) | h)
        · exact .inl (.inl h)
        · exact .inr h
        · exact .inl (.inr h)
def cutL (V : Nat) (best : List (List Int)) : List (List Int) := best.map fun p => thenP (p.take V) (invP ((row best 0).take V))
theorem cutL_len (V : Nat) (best : List (List Int)) : (cutL V best).length = best.length := by simp [cutL]
theorem cutL_aut {V m : Nat} {best : List (List Int)} (h0 : 0 < best.length) (h : ∀ p ∈ best, UpL (dsC V m) p ∧ Perm p) : (autL best).map (fun p => p.take V) = cutL V best := by
  unfold autL cutL
  rw [List.map_map]
  refine List.map_congr_left fun p hp => ?_
  have hr : row best 0 ∈ best := by rw [row_get h0]; exact List.getElem_mem _
  exact cut_then (h p hp).1 (h p hp).2 (h _ hr).1 (h _ hr).2
end Go.Proofs.YtdkbcjdimhgmnaaGreat
namespace Go.Proofs.YtdkbcjdimhgmnaaGreat
open Go.RowKit
noncomputable def grL (v : Int) (bs : List (List Int)) (b : Int) : List (List Int) := setG cmpL (cutL v.toNat (runP (dgC v.toNat bs) (dgE v.toNat bs) b.toNat).best)
noncomputable def grK (v : Int) (bs : List (List Int)) (b : Int) : Int := if dK v bs b ≠ 0 then dK v bs b else if 720 < (grL v bs b).length then 5 else 0
noncomputable def grV (v : Int) (bs : List (List Int)) (b : Int) : Int := if grK v bs b = 0 then v else 0
noncomputable def grR (v : Int) (bs : List (List Int)) (b : Int) : List (List Int) := if grK v bs b = 0 then grL v bs b else []
theorem gr_err {v : Int} {bs : List (List Int)} {b : Int} (h : dK v bs b ≠ 0) : grK v bs b = dK v bs b ∧ grV v bs b = 0 ∧ grR v bs b = [] := by
  have h1 : grK v bs b = dK v bs b := by simp [grK, h]
  exact ⟨h1, by simp [grV, h1, h], by simp [grR, h1, h]⟩
theorem gr_big {v : Int} {bs : List (List Int)} {b : Int} (h : dK v bs b = 0) (k : 720 < (grL v bs b).length) : grK v bs b = 5 ∧ grV v bs b = 0 ∧ grR v bs b = [] := by
  have h1 : grK v bs b = 5 := by simp [grK, h, k]
  exact ⟨h1, by simp [grV, h1], by simp [grR, h1]⟩
theorem gr_ok {v : Int} {bs : List (List Int)} {b : Int} (h : dK v bs b = 0) (k : ¬ 720 < (grL v bs b).length) : grK v bs b = 0 ∧ grV v bs b = v ∧ grR v bs b = grL v bs b := by
  have h1 : grK v bs b = 0 := by simp [grK, h, k]
  exact ⟨h1, by simp [grV, h1], by simp [grR, h1]⟩
theorem cut_rows {V m : Nat} {best : List (List Int)} (h : ∀ p ∈ best, UpL (dsC V m) p ∧ Perm p) {k : Nat} (hk : k < best.length) : ((row best k).take V).length = V ∧ Perm ((row best k).take V) := by
  have hr : row best k ∈ best := by rw [row_get hk]; exact List.getElem_mem _
  exact up_perm (h _ hr).1 (h _ hr).2
theorem run_cut {V m : Nat} (es : List Ed) (b : Nat) : ∀ p ∈ (runP (dsC V m) es b).best, UpL (dsC V m) p ∧ Perm p := fun p hp => ⟨runP_up _ _ b hp, (runP_rows _ _ b p hp).2⟩
end Go.Proofs.YtdkbcjdimhgmnaaGreat
