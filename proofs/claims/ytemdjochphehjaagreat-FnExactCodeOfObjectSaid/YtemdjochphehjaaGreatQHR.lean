/- The group of a design, plain: rows put where the search finds them. -/
import Derived.Test.YtemdjochphehjaaGreatQHP
import Derived.Test.YtemdjochphehjaaGreatQHA
set_option linter.unusedVariables false
set_option linter.unusedSimpArgs false
namespace Go.Proofs.YtemdjochphehjaaGreat

theorem setG_self {zss : List (List Int)} (hs : StrictL cmpL zss) : setG cmpL zss = zss := setG_eq cmpL_ord hs fun _ => Iff.rfl
theorem putG_snoc {zss : List (List Int)} (hs : StrictL cmpL zss) (x : List Int) : putG cmpL zss x = setG cmpL (zss ++ [x]) := by
  rw [setG_snoc, setG_self hs]
theorem fd_put {zss : List (List Int)} {x : List Int} {k : Nat} (hs : StrictL cmpL zss) (h : FdAt zss x k false) : zss.take k ++ [x] ++ zss.drop k = putG cmpL zss x := by
  rw [putG_snoc hs]
  obtain ⟨hk, h⟩ := h
  rcases h with ⟨h, -⟩ | ⟨-, h1, h2⟩
  · cases h
  · refine (setG_eq cmpL_ord ?_ fun y => ?_).symm
    · have a1 : ∀ a ∈ zss.take k, cmpL a x < 0 := fun a ha => by
        obtain ⟨i, hi, rfl⟩ := List.mem_iff_getElem.1 ha
        rw [List.length_take] at hi
        rw [List.getElem_take]
        have := h1 i (by omega)
        rwa [row_get (by omega)] at this
      have a2 : ∀ a ∈ zss.drop k, cmpL x a < 0 := fun a ha => by
        obtain ⟨i, hi, rfl⟩ := List.mem_iff_getElem.1 ha
        rw [List.length_drop] at hi
        rw [List.getElem_drop]
        have := h2 (k + i) (by omega) (by omega)
        rw [row_get (by omega)] at this
        have := cmpL_ord.swap zss[k + i] x
        omega
      unfold StrictL
      rw [List.append_assoc, List.pairwise_append]
      refine ⟨hs.sublist (List.take_sublist _ _), List.pairwise_cons.2 ⟨a2, hs.sublist (List.drop_sublist _ _)⟩, fun a ha b hb => ?_⟩
      rcases List.mem_cons.1 hb with rfl | hb
      · exact a1 a ha
      · exact cmpL_ord.lt_trans (a1 a ha) (a2 b hb)
    · have e : y ∈ zss ↔ y ∈ zss.take k ∨ y ∈ zss.drop k := by rw [← List.mem_append, List.take_append_drop]
      simp only [List.mem_append, List.mem_singleton, e]
      constructor
      · rintro ((h | h) | h)
        · exact .inl (.inl h)
        · exact .inr h
        · exact .inl (.inr h)
      · rintro ((h | h) | h)
        · exact .inl (.inl h)
        · exact .inr h
        · exact .inl (.inr h)
end Go.Proofs.YtemdjochphehjaaGreat
