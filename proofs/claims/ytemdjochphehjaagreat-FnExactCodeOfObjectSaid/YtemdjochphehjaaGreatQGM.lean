/- Rising lists by putting, and lists in order by insertion: the reference's side. No condition beyond those stated. -/
import Derived.Test.YtemdjochphehjaaGreatQGC
import Derived.Test.YtemdjochphehjaaGreatQGB
import Derived.Deep.QuietTactic
import Derived.BigQuiet
import Derived.Test.YtemdjochphehjaaGreatQGG
set_option linter.unusedVariables false
set_option linter.unusedSimpArgs false
namespace Go.Proofs.YtemdjochphehjaaGreat
open Go.RowKit

section
variable {α : Type} {c : α → α → Int} {zs L : List α} {x : α} {k : Nat} {d : Bool}
end
end Go.Proofs.YtemdjochphehjaaGreat
/- Rising lists of lists by putting: the reference's side. No condition beyond those stated. -/
namespace Go.Proofs.YtemdjochphehjaaGreat
open Go.RowKit

/-- slices that read as lists, one by one -/
structure Rows (w : World) (vs : List Sl) (L : List (List Int)) : Prop where
  len : vs.length = L.length
  row : ∀ (j : Nat) (v : Sl) (z : List Int), vs[j]? = some v → L[j]? = some z → v.2.1 ≤ v.2.2 ∧ v.2.2 ≤ 9223372036854775807 ∧ RI w v.1 v.2.1 z
section
variable {w w' : World} {vs us : List Sl} {L M : List (List Int)}
theorem Rows.nil_ (w : World) : Rows w [] [] := ⟨rfl, fun _ _ _ h => by simp at h⟩
theorem Rows.keep (h : Rows w vs L) (hb : Below w.heap.size w w') : Rows w' vs L := ⟨h.len, fun j v z hv hz => let ⟨a, b, c⟩ := h.row j v z hv hz; ⟨a, b, c.keep hb⟩⟩
theorem Rows.snoc (h : Rows w vs L) {v : Sl} {z : List Int} (h1 : v.2.1 ≤ v.2.2) (h2 : v.2.2 ≤ 9223372036854775807) (h3 : RI w v.1 v.2.1 z) : Rows w (vs ++ [v]) (L ++ [z]) := by
  refine ⟨by simp [h.len], fun j u y hu hy => ?_⟩
  rw [List.getElem?_append] at hu hy
  rw [h.len] at hu
  split at hu
  · rename_i hj
    rw [if_pos hj] at hy
    exact h.row j u y hu hy
  · rename_i hj
    rw [if_neg hj] at hy
    have e : j - L.length = 0 := by have := (List.getElem?_eq_some_iff.1 hu).1; simp at this; omega
    rw [e] at hu hy
    simp at hu hy
    subst hu; subst hy
    exact ⟨h1, h2, h3⟩
theorem Rows.reads (h : Rows w vs L) {B : Nat} {e2 : TypeId} {A : Option Addr} {n c : Nat} (ho : OS w B e2 1 A n c (vs.map slv)) : RR w A n L := by
  have hl := ho.len
  simp at hl
  refine ⟨by rw [← h.len]; exact hl, fun j z hz => ?_⟩
  have hj : j < vs.length := by rw [h.len]; exact (List.getElem?_eq_some_iff.1 hz).1
  have hv := List.getElem?_eq_getElem hj
  obtain ⟨ad, ha, hc⟩ := ho.cells j (slv vs[j]) (by rw [List.getElem?_map, hv]; rfl)
  obtain ⟨h1, h2, h3⟩ := h.row j _ z hv hz
  exact ⟨ad, _, ha, hc, _, _, _, rfl, h1, h2, h3⟩
end
section
variable {ops : Array Oper} {rest : List Oper} {o : Oper} {a : Act} {Q : Exit → Act → World → Prop}
/-- one slice more, whatever it reads as -/
theorem app_sl (w : World) (hgd : o.guard = none) (s x : Operand) (ho : o.op = .call { callee := .builtin .append, args := #[s, x], argTypes := #[25, 25] })
    (B : Nat) (A : Option Addr) (n c : Nat) (vs : List Sl) (hs : a.eval s = .slice A n c) (hown : OS w B 22 1 A n c (vs.map slv)) (v : Sl)
    (g : Nat) (hx : a.eval x = .slice (some ⟨g, 0, none⟩) 1 1) (hgx : g = w.heap.size) (hbig : n + 1 ≤ 2199023255552) (hB : B ≤ w.heap.size)
    (h : ∀ A' c' w', OS w' B 22 1 A' (n + 1) c' ((vs ++ [v]).map slv) → w.grownBy w' (blk A) → (blk A' = blk A ∨ ∃ k, blk A' = some k ∧ w.heap.size ≤ k) → wpList Tryz.prog ops Q rest (a.put o.dst (.slice A' (n + 1) c')) w') :
    wpList Tryz.prog ops Q (o :: rest) a (w.alloc (.cells #[.slice v.1 v.2.1 v.2.2] 22)) :=
  wpList_app1' w hgd s x 25 ho 22 (.slice none 0 0) 24 Tryz.underlying25 ints_info rfl (by omega) B A n c (vs.map slv) hs hown (.slice v.1 v.2.1 v.2.2) g hx hgx rfl hbig hB
    fun A' c' w' h1 h2 h3 => h A' c' w' (by simpa [slv] using h1) h2 h3
end
end Go.Proofs.YtemdjochphehjaaGreat
