/- One round of refinement: the reference's side. No condition beyond those stated. -/
import Derived.Test.YtdkbcjdimhgmnaaGreatSGM
import Derived.Test.YtdkbcjdimhgmnaaGreatSGF
set_option linter.unusedVariables false
set_option linter.unusedSimpArgs false
namespace Go.Proofs.YtdkbcjdimhgmnaaGreat
open Go.RowKit
attribute [local go_sem ↓] Go.wp_at_zero Go.wp_at_succ
structure Nears (n : Nat) (near : List (List Int)) : Prop where
  len : near.length = n
  bd : ∀ v, v < n → ∀ x ∈ row near v, 0 ≤ x ∧ x < n
  few : ∀ v, v < n → (row near v).length ≤ n
theorem nearP_nears (n : Nat) (es : List Ed) : Nears n (nearP n es) :=
  ⟨nearP_len n es, fun v hv x hx => by rw [nearP_row hv] at hx; exact nearV_bd hx, fun v hv => by rw [nearP_row hv]; exact nearV_len n es v⟩
theorem Nears.at_ {n : Nat} {near : List (List Int)} (h : Nears n near) {v i : Nat} (hv : v < n) (hi : i < (row near v).length) : ∃ u : Nat, nth (row near v) i = u ∧ u < n := by
  have := h.bd v hv _ (nth_mem hi)
  exact ⟨(nth (row near v) i).toNat, by omega, by omega⟩
def arTo (near : List (List Int)) (cells : List Int) (v i : Nat) : List Int := ((row near v).take i).map fun w => nth cells w.toNat
theorem arTo_zero (near : List (List Int)) (cells : List Int) (v : Nat) : arTo near cells v 0 = [] := by simp [arTo]
theorem arTo_step {near : List (List Int)} {cells : List Int} {v i u : Nat} (hi : i < (row near v).length) (hu : nth (row near v) i = u) : arTo near cells v (i + 1) = arTo near cells v i ++ [nth cells u] := by
  unfold arTo
  rw [List.take_succ_eq_append_getElem hi, List.map_append, ← nth_get hi, hu]
  simp
theorem arTo_all (near : List (List Int)) (cells : List Int) (v : Nat) : arTo near cells v (row near v).length = (row near v).map fun w => nth cells w.toNat := by simp [arTo]
def keysTo (near : List (List Int)) (cells : List Int) (k : Nat) : List (List Int) := (List.range k).map (keyP near cells)
theorem keysTo_step (near : List (List Int)) (cells : List Int) (k : Nat) : keysTo near cells (k + 1) = keysTo near cells k ++ [keyP near cells k] := by simp [keysTo, List.range_succ]
theorem keysTo_len (near : List (List Int)) (cells : List Int) (k : Nat) : (keysTo near cells k).length = k := by simp [keysTo]
theorem keyP_arTo (near : List (List Int)) (cells : List Int) (v : Nat) : keyP near cells v = [nth cells v] ++ srt (arTo near cells v (row near v).length) := by rw [arTo_all]; rfl
end Go.Proofs.YtdkbcjdimhgmnaaGreat
