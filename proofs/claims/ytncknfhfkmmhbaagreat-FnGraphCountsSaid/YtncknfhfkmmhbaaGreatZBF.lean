/- One round of refinement: the reference's side. No condition beyond those stated. -/
import Derived.Test.YtncknfhfkmmhbaaGreatZBE
import Derived.Test.YtncknfhfkmmhbaaGreatZAY
import Derived.Deep.RegionHeldLaw
import Derived.Deep.DrawnRows
set_option linter.unusedVariables false
set_option linter.unusedSimpArgs false
namespace Go.Proofs.YtncknfhfkmmhbaaGreat
open Go.RowKit
attribute [local go_sem ↓] Go.wp_at_zero Go.wp_at_succ

/-- lists of neighbors of n vertices -/
structure Nears (n : Nat) (near : List (List Int)) : Prop where
  len : near.length = n
  bd : ∀ v, v < n → ∀ x ∈ row near v, 0 ≤ x ∧ x < n
  few : ∀ v, v < n → (row near v).length ≤ n
theorem nearP_nears (n : Nat) (es : List Ed) : Nears n (nearP n es) :=
  ⟨nearP_len n es, fun v hv x hx => by rw [nearP_row hv] at hx; exact nearV_bd hx, fun v hv => by rw [nearP_row hv]; exact nearV_len n es v⟩
theorem Nears.at_ {n : Nat} {near : List (List Int)} (h : Nears n near) {v i : Nat} (hv : v < n) (hi : i < (row near v).length) : ∃ u : Nat, nth (row near v) i = u ∧ u < n := by
  have := h.bd v hv _ (nth_mem hi)
  exact ⟨(nth (row near v) i).toNat, by omega, by omega⟩
/-- the numbers of the first i neighbors -/
def arTo (near : List (List Int)) (cells : List Int) (v i : Nat) : List Int := ((row near v).take i).map fun w => nth cells w.toNat
theorem arTo_zero (near : List (List Int)) (cells : List Int) (v : Nat) : arTo near cells v 0 = [] := by simp [arTo]
theorem arTo_step {near : List (List Int)} {cells : List Int} {v i u : Nat} (hi : i < (row near v).length) (hu : nth (row near v) i = u) : arTo near cells v (i + 1) = arTo near cells v i ++ [nth cells u] := by
  unfold arTo
  rw [List.take_succ_eq_append_getElem hi, List.map_append, ← nth_get hi, hu]
  simp
theorem arTo_all (near : List (List Int)) (cells : List Int) (v : Nat) : arTo near cells v (row near v).length = (row near v).map fun w => nth cells w.toNat := by simp [arTo]
theorem arTo_len (near : List (List Int)) (cells : List Int) (v i : Nat) : (arTo near cells v i).length ≤ i := by simp [arTo]; omega
/-- the keys of the first k vertices -/
def keysTo (near : List (List Int)) (cells : List Int) (k : Nat) : List (List Int) := (List.range k).map (keyP near cells)
theorem keysTo_zero (near : List (List Int)) (cells : List Int) : keysTo near cells 0 = [] := rfl
theorem keysTo_step (near : List (List Int)) (cells : List Int) (k : Nat) : keysTo near cells (k + 1) = keysTo near cells k ++ [keyP near cells k] := by simp [keysTo, List.range_succ]
theorem keysTo_all (near : List (List Int)) (cells : List Int) : keysTo near cells cells.length = keysP near cells := rfl
theorem keysTo_len (near : List (List Int)) (cells : List Int) (k : Nat) : (keysTo near cells k).length = k := by simp [keysTo]
theorem keyP_arTo (near : List (List Int)) (cells : List Int) (v : Nat) : keyP near cells v = [nth cells v] ++ srt (arTo near cells v (row near v).length) := by rw [arTo_all]; rfl
theorem kinds_eq {near : List (List Int)} {cells key : List Int} {v : Nat} (hi : (kindsP near cells)[idxG cmpL (kindsP near cells) key]? = some key) (hv : v < (kindsP near cells).length) :
    cmpL (row (kindsP near cells) v) key = 0 ↔ v = idxG cmpL (kindsP near cells) key := by
  constructor
  · intro h
    have e := cmpL_zero h
    rw [row_get hv] at e
    have := idxG_at cmpL_ord (kindsP_strict (near := near) (cells := cells)) hv
    rw [e] at this
    exact this.symm
  · intro h
    rw [← h] at hi
    rw [row_eq hi]
    exact cmpL_refl key
/-- nothing that w held has changed, and this is what stands there -/
def BC (w : World) (p : Addr) (v : Value) (w' : World) : Prop := Below w.heap.size w w' ∧ w'.cell? p = some v
theorem BC.of {w w' : World} {p : Addr} {v : Value} (h : w.cell? p = some v) (hb : Below w.heap.size w w') : BC w p v w' := ⟨hb, below_cell hb h⟩
theorem rowsApart {vs : List Sl} {i D g : Nat} {v : Sl} (H : ∀ (j : Nat) (u : Sl) (b : Nat), vs[j]? = some u → blk u.1 = some b → b < D) (hv : vs[i]? = some v) (hg : D ≤ g) : blk v.1 = none ∨ blk v.1 ≠ some g := by
  cases hb : blk v.1 with
  | none => exact .inl rfl
  | some b => exact .inr fun e => by have := H i v b hv hb; injection e with e; omega
theorem rowsApart' {vs : List Sl} {i D : Nat} {v u : Sl} (H : ∀ (j : Nat) (u : Sl) (b : Nat), vs[j]? = some u → blk u.1 = some b → b < D) (hu : ∀ b, blk u.1 = some b → D ≤ b) (hv : vs[i]? = some v) : apart v u := by
  unfold apart
  cases hb : blk v.1 with
  | none => exact .inl rfl
  | some b => exact .inr fun e => by have := H i v b hv hb; have := hu b e.symm; omega
end Go.Proofs.YtncknfhfkmmhbaaGreat
