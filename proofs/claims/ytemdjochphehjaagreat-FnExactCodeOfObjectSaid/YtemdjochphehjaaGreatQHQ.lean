/- Canonical designs, plain: the neighbors of the blocks in the relabeled graph are the images of the blocks. No program in sight. -/
import Derived.Test.YtemdjochphehjaaGreatQHP
import Derived.Test.YtemdjochphehjaaGreatQGG
import Derived.Test.YtemdjochphehjaaGreatQGF
import Derived.Test.YtemdjochphehjaaGreatQGM
import Derived.Test.YtemdjochphehjaaGreatQGB
import Derived.Test.YtemdjochphehjaaGreatQJA
import Derived.Deep.QuietTactic
import Derived.BigQuiet
set_option linter.unusedVariables false
set_option linter.unusedSimpArgs false
namespace Go.Proofs.YtemdjochphehjaaGreat

end Go.Proofs.YtemdjochphehjaaGreat
/- spec.l10Sort and spec.l04Image. No condition beyond those stated. -/
namespace Go.Proofs.YtemdjochphehjaaGreat
open Go.RowKit

theorem fresh_of {A A' : Option Addr} {g : Nat} {m : Nat} (hn : blk A' = blk (some (⟨g, 0, none⟩ : Addr)) ∨ blk A' = some m) (hm : g ≤ m) : ∀ b, blk A' = some b → g ≤ b := fun b hb => by
  rcases hn with h | h
  · rw [h] at hb; simp [blk] at hb; omega
  · rw [h] at hb; injection hb with hb; omega
theorem fresh_next {A A' : Option Addr} {g m : Nat} (h : ∀ b, blk A = some b → g ≤ b) (hn : blk A' = blk A ∨ ∃ k, blk A' = some k ∧ m ≤ k) (hm : g ≤ m) : ∀ b, blk A' = some b → g ≤ b := fun b hb => by
  rcases hn with h1 | ⟨k, h1, h2⟩
  · exact h b (h1 ▸ hb)
  · rw [h1] at hb; injection hb with hb; omega
section
variable {w w' : World} {B : Nat} {A : Option Addr} {n c : Nat} {vs : List Sl} {zss : List (List Int)}
theorem OB.take_cells {ad : Addr} (h : OB w B (some ad) n c vs zss) (k : Nat) : ∀ j v, (vs.take k)[j]? = some v → ∃ a, some ad = some a ∧ w.cell? (a.add j) = some (slv v) := fun j v hv => by
  rw [List.getElem?_take] at hv
  split at hv
  · exact h.os.cells j (slv v) (by rw [List.getElem?_map, hv]; rfl)
  · cases hv
theorem OB.drop_cells {ad : Addr} (h : OB w B (some ad) n c vs zss) (k : Nat) : ∀ j v, (vs.drop k)[j]? = some v → ∃ a, some (ad.add k) = some a ∧ w.cell? (a.add j) = some (slv v) := fun j v hv => by
  rw [List.getElem?_drop] at hv
  obtain ⟨a, e, hc⟩ := h.os.cells (k + j) (slv v) (by rw [List.getElem?_map, hv]; rfl)
  cases e
  exact ⟨_, rfl, by rw [add_add_]; exact hc⟩
theorem OB.ins {k : Nat} (h : OB w B A n c vs zss) (hk : k ≤ n) (hb : Below w.heap.size w w') {v : Sl} {z : List Int} (ho : OI w' B 2 v.1 v.2.1 v.2.2 z) {A' : Option Addr} {c' : Nat}
    (hos : OS w' B 22 1 A' (n + 1) c' ((vs.take k ++ [v] ++ vs.drop k).map slv)) : OB w' B A' (n + 1) c' (vs.take k ++ [v] ++ vs.drop k) (zss.take k ++ [z] ++ zss.drop k) := by
  obtain ⟨l1, l2⟩ := h.slen
  refine ⟨hos, by simp only [List.length_append, List.length_take, List.length_drop, List.length_singleton]; omega, fun j u y hu hy => ?_⟩
  rw [List.append_assoc, List.getElem?_append, List.length_take, l1, Nat.min_eq_left hk] at hu
  rw [List.append_assoc, List.getElem?_append, List.length_take, l2, Nat.min_eq_left hk] at hy
  split at hu
  · rename_i hj
    rw [if_pos hj] at hy
    rw [List.getElem?_take, if_pos hj] at hu hy
    exact (h.rows j u y hu hy).below hb
  · rename_i hj
    rw [if_neg hj] at hy
    by_cases e : j = k
    · subst e
      rw [Nat.sub_self] at hu hy
      simp at hu hy
      subst hu; subst hy
      exact ho
    · obtain ⟨d, rfl⟩ : ∃ d, j = k + 1 + d := ⟨j - k - 1, by omega⟩
      rw [show k + 1 + d - k = d + 1 by omega] at hu hy
      simp only [List.singleton_append, List.getElem?_cons_succ, List.getElem?_drop] at hu hy
      exact (h.rows (k + d) u y hu hy).below hb
end
end Go.Proofs.YtemdjochphehjaaGreat
