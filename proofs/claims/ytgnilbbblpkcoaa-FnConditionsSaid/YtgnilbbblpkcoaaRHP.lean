/- The search keeps the order of the colors; permutations cut to the points. No program in sight. -/
import Derived.Test.YtgnilbbblpkcoaaRHL
import Derived.Test.YtgnilbbblpkcoaaRGM
set_option linter.unusedVariables false
set_option linter.unusedSimpArgs false
namespace Go.Proofs.Ytgnilbbblpkcoaa
end Go.Proofs.Ytgnilbbblpkcoaa
namespace Go.Proofs.Ytgnilbbblpkcoaa
open Go.RowKit
section
variable {ops : Array Oper} {rest : List Oper} {o : Oper} {a : Act} {Q : Exit → Act → World → Prop}
theorem app_sls (w : World) (hgd : o.guard = none) (s x : Operand) (ho : o.op = .call { callee := .builtin .append, args := #[s, x], argTypes := #[24, 24] })
    (B : Nat) (A : Option Addr) (n c : Nat) (vs : List Sl) (hs : a.eval s = .slice A n c) (hown : OS w B 32 1 A n c (vs.map slv))
    (A2 : Option Addr) (m c2 : Nat) (us : List Sl) (hx : a.eval x = .slice A2 m c2) (hl : us.length = m) (hu : ∀ j v, us[j]? = some v → ∃ ad, A2 = some ad ∧ w.cell? (ad.add j) = some (slv v)) (hbig : n + m ≤ 2199023255552) (hB : B ≤ w.heap.size)
    (h : ∀ A' c' w', OS w' B 32 1 A' (n + m) c' ((vs ++ us).map slv) → w.grownBy w' (blk A) → (blk A' = blk A ∨ blk A' = some w.heap.size) → wpList Try.prog ops Q rest (a.put o.dst (.slice A' (n + m) c')) w') :
    wpList Try.prog ops Q (o :: rest) a w :=
  wpList_app w hgd s x 24 ho 32 (.slice none 0 0) 1 24 Try.underlying24 ints_info rfl (by omega) (by omega) B A n c (vs.map slv) hs hown A2 m c2 (us.map slv) hx (by simp [hl])
    (fun j u hj => by
      rw [List.getElem?_map] at hj
      cases e : us[j]? with
      | none => rw [e] at hj; cases hj
      | some v =>
        rw [e] at hj
        simp only [Option.map_some, Option.some.injEq] at hj
        subst hj
        exact hu j v e)
    (fun u hu => by obtain ⟨v, -, rfl⟩ := List.mem_map.1 hu; rfl) hbig hB
    fun A' c' w' h1 h2 h3 => h A' c' w' (by rw [List.map_append]; exact h1) h2 h3
end
theorem add_add_ (ad : Addr) (k j : Nat) : (ad.add k).add j = ad.add (k + j) := by
  unfold Addr.add
  by_cases hk : k = 0
  · subst hk; simp
  · by_cases hj : j = 0
    · subst hj; simp
    · simp [hk, hj, Nat.add_assoc]
end Go.Proofs.Ytgnilbbblpkcoaa
