/- The table of neighbors and the lists of neighbors: the reference's side. No condition beyond those stated. -/
import Derived.Test.YtdkbcjdimhgmnaaGreatSGG
import Derived.Test.YtdkbcjdimhgmnaaGreatSGF
import Derived.StillTailTactics
set_option linter.unusedVariables false
set_option linter.unusedSimpArgs false
namespace Go.Proofs.YtdkbcjdimhgmnaaGreat
open Go.RowKit
section
variable {ops : Array Oper} {rest : List Oper} {o : Oper} {a : Act} {Q : Exit → Act → World → Prop}
end
theorem OS.typed' {w : World} {B : Nat} {e t : TypeId} {size : Nat} {A : Option Addr} {n c : Nat} {xs : List Value} {g : Nat} {cs : Array Value} (h : OS w B e size A n c xs) (k : Blk w g t cs) (hne : e ≠ t) : some g ≠ blk A := by
  rcases h.cases with ⟨rfl, _⟩ | ⟨g', cur, rfl, _, hg, _⟩
  · simp [blk]
  · intro h1
    have : g = g' := by simpa [blk] using h1
    subst this
    unfold Blk at k
    rw [k] at hg
    injection hg with hg
    injection hg with _ h2
    exact hne h2.symm
def EdgesIn (n : Nat) (es : List Ed) : Prop := ∀ k, k < es.length → ∃ x y : Nat, (nthE es k).1 = x ∧ (nthE es k).2 = y ∧ x < n ∧ y < n
theorem EdgesOk.inn {n : Nat} {es : List Ed} (h : EdgesOk n es) : EdgesIn n es := fun k hk => by
  have := h.edge (nthE es k) (by rw [nthE_get hk]; exact List.getElem_mem hk)
  exact ⟨(nthE es k).1.toNat, (nthE es k).2.toNat, by omega, by omega, by omega, by omega⟩
theorem graph_info : (Tryz.prog.info? 46).map (fun i => (i.zero, i.size, i.bytes)) = some (some (.agg #[.slice none 0 0, .slice none 0 0]), 2, 48) := by kernel_rfl
end Go.Proofs.YtdkbcjdimhgmnaaGreat
