/- The table of neighbors and the lists of neighbors: the reference's side. No condition beyond those stated. -/
import Derived.Test.YtemdjochphehjaaGreatQGD
import Derived.Test.YtemdjochphehjaaGreatQGB
import Derived.Test.YtemdjochphehjaaGreatQGG
import Derived.Test.YtemdjochphehjaaGreatQGF
import Derived.StillTailTactics
set_option linter.unusedVariables false
set_option linter.unusedSimpArgs false
namespace Go.Proofs.YtemdjochphehjaaGreat
open Go.RowKit

section
variable {ops : Array Oper} {rest : List Oper} {o : Oper} {a : Act} {Q : Exit → Act → World → Prop}
end
theorem OS.typed' {w : World} {B : Nat} {e t : TypeId} {size : Nat} {A : Option Addr} {n c : Nat} {xs : List Value} {g : Nat} {cs : Array Value} (h : OS w B e size A n c xs) (k : Blk w g t cs) (hne : e ≠ t) : some g ≠ blk A := by
  rcases h.cases with ⟨rfl, _⟩ | ⟨g', cur, rfl, _, hg, _⟩
  · simp [blk]
  · intro h1
    have : g = g' := by simpa [blk] using h1
    subst this
    unfold Blk at k
    rw [k] at hg
    injection hg with hg
    injection hg with _ h2
    exact hne h2.symm
/-- one truth value: where it stands, and what it is to write it over -/
theorem TBv.at_ {w : World} {B : Nat} {eo eb : TypeId} {A : Option Addr} {n c m : Nat} {vs : List Sl} {f : Nat → Nat → Bool} (h : TBv w B eo eb A n c vs m f) {a b : Nat} (ha : a < n) (hb : b < m) :
    ∃ g r k, A = some ⟨g, 0, none⟩ ∧ w.cell? ⟨g, a, none⟩ = some (.slice (some ⟨r, 0, none⟩) m k) ∧ m ≤ k ∧ k ≤ 9223372036854775807 ∧ w.cell? ⟨r, b, none⟩ = some (.bool (f a b)) ∧ w.frozen? ⟨r, b, none⟩ = false ∧ B ≤ r ∧ r < w.heap.size ∧ (∃ v, (⟨r, 0, none⟩ : Addr) = v ∧ OS w B eb 1 (some v) m k (bools m (f a))) ∧
      ∀ x, TBv (w.setCell ⟨r, b, none⟩ (.bool x)) B eo eb A n c vs m (fun p q => if p = a ∧ q = b then x else f p q) := by
  obtain ⟨g, v, h1, h2, h3, h4, h5, h6⟩ := h.get ha
  obtain ⟨r, hr, h7, h8, h9, h10⟩ := h6 b hb
  obtain ⟨e, ho⟩ := h.rows a _ h2
  rw [hr] at h3 ho
  rw [e] at ho
  exact ⟨g, r, v.2.2, h1, h3, h4, h5, h7, h8, h9, h10, ⟨_, rfl, ho⟩, fun x => h.set h2 hr b x⟩
end Go.Proofs.YtemdjochphehjaaGreat
