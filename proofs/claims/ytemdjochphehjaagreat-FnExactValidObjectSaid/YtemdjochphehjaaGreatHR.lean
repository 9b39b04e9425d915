/- The group of a design, plain: rows put where the search finds them. -/
import Derived.Test.YtemdjochphehjaaGreatHP
import Derived.Test.YtemdjochphehjaaGreatHA
set_option linter.unusedVariables false
set_option linter.unusedSimpArgs false
namespace Go.Proofs.YtemdjochphehjaaGreat

theorem setG_self {zss : List (List Int)} (hs : StrictL cmpL zss) : setG cmpL zss = zss := setG_eq cmpL_ord hs fun _ => Iff.rfl
theorem putG_snoc {zss : List (List Int)} (hs : StrictL cmpL zss) (x : List Int) : putG cmpL zss x = setG cmpL (zss ++ [x]) := by
  rw [setG_snoc, setG_self hs]
theorem fd_same {zss : List (List Int)} {x : List Int} {k : Nat} (hs : StrictL cmpL zss) (h : FdAt zss x k true) : putG cmpL zss x = zss := by
  rw [putG_snoc hs]
  rcases h.2 with ⟨-, hx⟩ | ⟨h, -⟩
  · refine setG_eq cmpL_ord hs fun y => ⟨fun hy => List.mem_append_left _ hy, fun hy => ?_⟩
    rcases List.mem_append.1 hy with hy | hy
    · exact hy
    · rw [List.mem_singleton.1 hy]; exact hx
  · cases h
theorem fd_put {zss : List (List Int)} {x : List Int} {k : Nat} (hs : StrictL cmpL zss) (h : FdAt zss x k false) : zss.take k ++ [x] ++ zss.drop k = putG cmpL zss x := by
  rw [putG_snoc hs]
  obtain ⟨hk, h⟩ := h
  rcases h with ⟨h, -⟩ | ⟨-, h1, h2⟩
  · cases h
  · refine (setG_eq cmpL_ord ?_ fun y => ?_).symm
    · have a1 : ∀ a ∈ zss.take k, cmpL a x < 0 := fun a ha => by
        obtain ⟨i, hi, rfl⟩ := List.mem_iff_getElem.1 ha
        rw [List.length_take] at hi
        rw [List.getElem_take]
        have := h1 i (by omega)
        rwa [row_get (by omega)] at this
      have a2 : ∀ a ∈ zss.drop k, cmpL x a < 0 := fun a ha => by
        obtain ⟨i, hi, rfl⟩ := List.mem_iff_getElem.1 ha
        rw [List.length_drop] at hi
        rw [List.getElem_drop]
        have := h2 (k + i) (by omega) (by omega)
        rw [row_get (by omega)] at this
        have := cmpL_ord.swap zss[k + i] x
        omega
      unfold StrictL
      rw [List.append_assoc, List.pairwise_append]
      refine ⟨hs.sublist (List.take_sublist _ _), List.pairwise_cons.2 ⟨a2, hs.sublist (List.drop_sublist _ _)⟩, fun a ha b hb => ?_⟩
      rcases List.mem_cons.1 hb with rfl | hb
      · exact a1 a ha
      · exact cmpL_ord.lt_trans (a1 a ha) (a2 b hb)
    · have e : y ∈ zss ↔ y ∈ zss.take k ∨ y ∈ zss.drop k := by rw [← List.mem_append, List.take_append_drop]
      simp only [List.mem_append, List.mem_singleton, e]
      constructor
      · rintro ((h | h) | h)
        · exact .inl (.inl h)
        · exact .inr h
        · exact .inl (.inr h)
      · rintro ((h | h) | h)
        · exact .inl (.inl h)
        · exact .inr h
        · exact .inl (.inr h)
/-- the cut automorphisms -/
def cutL (V : Nat) (best : List (List Int)) : List (List Int) := best.map fun p => thenP (p.take V) (invP ((row best 0).take V))
theorem cutL_len (V : Nat) (best : List (List Int)) : (cutL V best).length = best.length := by simp [cutL]
theorem cutL_at {V : Nat} {best : List (List Int)} {k : Nat} (h : k < best.length) : row (cutL V best) k = thenP ((row best k).take V) (invP ((row best 0).take V)) := by
  rw [row_get (by rw [cutL_len]; exact h)]
  unfold cutL
  rw [List.getElem_map, row_get h]
theorem cutL_aut {V m : Nat} {best : List (List Int)} (h0 : 0 < best.length) (h : ∀ p ∈ best, UpL (dsC V m) p ∧ Perm p) : (autL best).map (fun p => p.take V) = cutL V best := by
  unfold autL cutL
  rw [List.map_map]
  refine List.map_congr_left fun p hp => ?_
  have hr : row best 0 ∈ best := by rw [row_get h0]; exact List.getElem_mem _
  exact cut_then (h p hp).1 (h p hp).2 (h _ hr).1 (h _ hr).2
end Go.Proofs.YtemdjochphehjaaGreat
