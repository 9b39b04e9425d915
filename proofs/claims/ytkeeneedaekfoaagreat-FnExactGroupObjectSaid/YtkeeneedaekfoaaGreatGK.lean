/- The builtin clear on the tail of a row that a call owns. No condition beyond those stated. -/
import Derived.Test.YtkeeneedaekfoaaGreatGB
import Derived.Test.YtkeeneedaekfoaaGreatGD
import Derived.Test.YtkeeneedaekfoaaGreatGG
import Derived.Lib.SliceRun
import Derived.Deep.QuietTactic
import Derived.BigQuiet
set_option linter.unusedVariables false
set_option linter.unusedSimpArgs false
namespace Go.Proofs.YtkeeneedaekfoaaGreat
open Go.RowKit

section
variable {w w' : World} {B : Nat} {e : TypeId} {size g n c k : Nat} {xs : List Value}
theorem OS.cut (h : OS w B e 1 (some ⟨g, 0, none⟩) n c xs) (hk : k ≤ n) : OS w B e 1 (some ⟨g, 0, none⟩) k c (xs.take k) := by
  rcases h.cases with ⟨h0, _⟩ | ⟨g', cur, h0, hB, hg, hnc, hc, hs, ht⟩
  · cases h0
  · injection h0 with h0
    injection h0 with h0
    subst h0
    refine ⟨by have := h.len; simp; omega, .inr ⟨g, c, cur, rfl, hB, hg, by omega, hc, hs, ?_⟩⟩
    rw [← ht, Nat.mul_one, Nat.mul_one, List.take_take, Nat.min_eq_left hk]
theorem OS.cleared (vs : List Value) : ∀ {w : World} {xs : List Value} (o : Nat), OS w B e 1 (some ⟨g, 0, none⟩) n c xs → k ≤ o → ∃ ys, OS (w.setCells g o vs) B e 1 (some ⟨g, 0, none⟩) n c ys ∧ ys.take k = xs.take k ∧ w.grownBy (w.setCells g o vs) (some g) := by
  induction vs with
  | nil => intro w xs o h _; exact ⟨xs, h, rfl, World.grownBy.refl _ _⟩
  | cons v r ih =>
    intro w xs o h hk
    obtain ⟨ys, h1, h2, h3⟩ := ih (o + 1) (h.set o v) (by omega)
    exact ⟨ys, h1, by rw [h2, List.take_set_of_le (by omega)], grown_set.trans h3⟩
end
section
variable {P : Program} {ops : Array Oper} {rest : List Oper} {o : Oper} {a : Act} {Q : Exit → Act → World → Prop}
theorem wpList_clear (w : World) (hgd : o.guard = none) (x : Operand) (t : TypeId) (ho : o.op = .call { callee := .builtin .clear, args := #[x], argTypes := #[t] }) (e : TypeId) (z : Value)
    (ht : P.underlying t = some (.slice e)) (hv : ∀ w, (zeroValue e).run P w = .ok z w) (hz : z.cells = #[z]) (h1 : z.oneCell' = true) (B g k n m c c' : Nat) (xs : List Value) (hown : OS w B e 1 (some ⟨g, 0, none⟩) n c xs)
    (hx : a.eval x = .slice (some ⟨g, k, none⟩) m c') (hm : 0 < m) (hkm : k + m = n)
    (h : ∀ w', OS w' B e 1 (some ⟨g, 0, none⟩) k c (xs.take k) → w.grownBy w' (some g) → wpList P ops Q rest (a.put o.dst (.tuple #[])) w') :
    wpList P ops Q (o :: rest) a w := by
  have hl := hown.len
  have hcell : ∀ j, j < m → (w.cell? ⟨g, k + j, none⟩).isSome = true ∧ w.frozen? ⟨g, k + j, none⟩ = false := fun j hj => by
    have hlt : k + j < xs.length := by omega
    obtain ⟨g', e1, h2, h3⟩ := hown.cell (List.getElem?_eq_getElem hlt)
    injection e1 with e1
    injection e1 with e1
    subst e1
    exact ⟨by rw [h2]; rfl, h3⟩
  have hrun := Lib.run_clear_slice (P := P) w t e o.type z ht hv hz h1 g k m c' hm (fun j hj => (hcell j hj).1) (fun j hj => (hcell j hj).2)
  obtain ⟨ys, h2, h3, h4⟩ := OS.cleared (k := k) (List.replicate m z) k hown (Nat.le_refl _)
  refine wpList_plain hgd fun K hK => ?_
  unfold Oper.wp execOp
  simp only [ho, resolve, invoke, builtin, Sem.run_bind, Sem.run_pure, Result.andThen_ok, List.map_toArray, List.map_cons, List.map_nil, hx, hrun]
  exact hK _ _ (h _ (by rw [← h3]; exact h2.cut (by omega)) h4)
end
theorem comp_short {α : Type} [DecidableEq α] {l : List α} (h : l.length < 2) : comp l = l := comp_same fun k hk => by omega
end Go.Proofs.YtkeeneedaekfoaaGreat
/- slices.CompactFunc on slices of numbers, in a row that a call owns. No condition beyond those stated. -/
namespace Go.Proofs.YtkeeneedaekfoaaGreat
open Go.RowKit

def noneSameR (zs : List (List Int)) (k : Nat) : Prop := ∀ (i : Nat), i + 1 < k → row zs (i + 1) ≠ row zs i
theorem noneSameR_step {zs : List (List Int)} {k : Nat} (h : noneSameR zs k) (hk : 0 < k) (hne : row zs k ≠ row zs (k - 1)) : noneSameR zs (k + 1) := fun i hi => by
  rcases Nat.lt_succ_iff_lt_or_eq.1 hi with h1 | h1
  · exact h i h1
  · have e : i = k - 1 := by omega
    subst e
    rw [show k - 1 + 1 = k by omega]
    exact hne
theorem noneSameR_comp {zs : List (List Int)} (h : noneSameR zs zs.length) : comp zs = zs := comp_same fun k hk => by
  have := h k hk
  rwa [row_get hk, row_get (by omega)] at this
theorem compTR_start {zs : List (List Int)} {k : Nat} (h : noneSameR zs (k + 1)) (hk : k + 1 < zs.length) (he : row zs (k + 1) = row zs k) : CompT zs zs (k + 1) (k + 1 + 1) := by
  rw [row_get hk, row_get (by omega)] at he
  refine CompT.start hk (fun i hi hd => ?_) he
  have := h i (by omega)
  rwa [row_get hd, row_get (by omega)] at this
theorem compTR_same {d z : List (List Int)} {k j : Nat} (h : CompT d z k (j + 1)) (hj : j + 1 < d.length) (he : row d (j + 1) = row d j) : CompT d z k (j + 1 + 1) := by
  rw [row_get hj, row_get (by omega)] at he
  exact h.same hj he
theorem compTR_new {d z : List (List Int)} {k j : Nat} (h : CompT d z k (j + 1)) (hj : j + 1 < d.length) (he : row d (j + 1) ≠ row d j) : CompT d (z.set k (row d (j + 1))) (k + 1) (j + 1 + 1) := by
  rw [row_get hj, row_get (by omega)] at he
  rw [row_get hj]
  exact h.new hj he
/-- what is kept stood in the row before, in that order -/
structure SubT {α : Type} (Z Y : List α) (q j : Nat) : Prop where
  sub : (Y.take q).Sublist (Z.take j)
  rest : ∀ i, j ≤ i + 1 → Y[i]? = Z[i]?
theorem SubT.start {α : Type} (Z : List α) (q j : Nat) (h : q ≤ j) : SubT Z Z q j := ⟨List.take_sublist_take_left h, fun _ _ => rfl⟩
theorem SubT.same {α : Type} {Z Y : List α} {q j : Nat} (h : SubT Z Y q j) : SubT Z Y q (j + 1) := ⟨h.sub.trans (List.take_sublist_take_left (Nat.le_succ j)), fun i hi => h.rest i (by omega)⟩
theorem SubT.new {α : Type} {Z Y : List α} {q j : Nat} {p : α} (h : SubT Z Y q j) (hp : Y[j]? = some p) (hqj : q < j) : SubT Z (Y.set q p) (q + 1) (j + 1) := by
  have hz := (h.rest j (by omega)).symm.trans hp
  obtain ⟨hjl, rfl⟩ := List.getElem?_eq_some_iff.1 hz
  have hyl := (List.getElem?_eq_some_iff.1 hp).1
  refine ⟨?_, fun i hi => ?_⟩
  · rw [List.take_succ_eq_append_getElem (by simp; omega), List.take_set_of_le (by omega), List.take_succ_eq_append_getElem hjl]
    refine List.Sublist.append h.sub ?_
    simp
  · rw [List.getElem?_set_ne (by omega)]
    exact h.rest i (by omega)
theorem SubT.done {α : Type} {Z Y : List α} {q j : Nat} (h : SubT Z Y q j) : (Y.take q).Sublist Z := h.sub.trans (List.take_sublist _ _)
abbrev PL := Sl × List Int
/-- slices in a row of the call's own, what they read as beside them -/
structure PV (w : World) (B : Nat) (e2 : TypeId) (g n c : Nat) (Z : List PL) : Prop where
  os : OS w B e2 1 (some ⟨g, 0, none⟩) n c (Z.map fun p => slv p.1)
  rows : ∀ p ∈ Z, p.1.2.1 ≤ p.1.2.2 ∧ p.1.2.2 ≤ 9223372036854775807 ∧ RI w p.1.1 p.1.2.1 p.2 ∧ blk p.1.1 ≠ some g
section
variable {w w' : World} {B : Nat} {e2 : TypeId} {g n c : Nat} {Z : List PL}
theorem RI.kept {A : Option Addr} {m : Nat} {z : List Int} (h : RI w A m z) (hg : w.grownBy w' (some g)) (hne : blk A ≠ some g) : RI w' A m z :=
  ⟨h.len, fun j x hx => by
    obtain ⟨ad, u, ha, hc, he⟩ := RS.at_ h j x hx
    refine ⟨ad, u, ha, ?_, he⟩
    have hb := block_lt hc
    have hblk : (ad.add j).block ≠ g := fun e => hne (by rw [ha]; simp [blk]; rw [← add_block ad j]; exact e)
    have := hg.block _ hb (by intro e; injection e with e; exact hblk e)
    unfold World.cell? at hc ⊢
    rw [this]
    exact hc⟩
theorem PV.len (h : PV w B e2 g n c Z) : Z.length = n := by have := h.os.len; simpa using this
theorem PV.drewN (h : PV w B e2 g n c Z) (q : Nat) : PV (w.drewN q) B e2 g n c Z := ⟨h.os.drewN q, fun p hp => let ⟨a, b, d, e⟩ := h.rows p hp; ⟨a, b, d.keep (below_drewn w q), e⟩⟩
theorem PV.get (h : PV w B e2 g n c Z) {k : Nat} (hk : k < n) : ∃ p, Z[k]? = some p ∧ w.cell? ⟨g, k, none⟩ = some (.slice p.1.1 p.1.2.1 p.1.2.2) ∧ w.frozen? ⟨g, k, none⟩ = false ∧
    p.1.2.1 ≤ p.1.2.2 ∧ p.1.2.2 ≤ 9223372036854775807 ∧ RI w p.1.1 p.1.2.1 p.2 ∧ p.2 = row (Z.map (·.2)) k := by
  have hl : k < Z.length := by rw [h.len]; exact hk
  have hz := List.getElem?_eq_getElem hl
  obtain ⟨g', e1, hc, hf⟩ := h.os.cell (j := k) (u := slv Z[k].1) (by rw [List.getElem?_map, hz]; rfl)
  injection e1 with e1
  injection e1 with e1
  subst e1
  obtain ⟨a, b, d, _⟩ := h.rows _ (List.getElem_mem hl)
  exact ⟨_, hz, hc, hf, a, b, d, by rw [row_get (by simpa using hl)]; simp⟩
theorem PV.set (h : PV w B e2 g n c Z) (q : Nat) {p : PL} (hp : p ∈ Z) : PV (w.setCell ⟨g, q, none⟩ (.slice p.1.1 p.1.2.1 p.1.2.2)) B e2 g n c (Z.set q p) := by
  refine ⟨?_, fun u hu => ?_⟩
  · have := h.os.set q (slv p.1)
    rwa [show (Z.map fun p => slv p.1).set q (slv p.1) = (Z.set q p).map fun p => slv p.1 by rw [List.map_set]] at this
  · have hu' : u ∈ Z := (List.mem_or_eq_of_mem_set hu).elim id (fun e => e ▸ hp)
    obtain ⟨a, b, d, e⟩ := h.rows u hu'
    exact ⟨a, b, d.kept (grown_set (g := g)) e, e⟩
theorem PV.cut {k : Nat} (h : PV w B e2 g n c Z) (hg : w.grownBy w' (some g)) (ho : OS w' B e2 1 (some ⟨g, 0, none⟩) k c ((Z.map fun p => slv p.1).take k)) : PV w' B e2 g k c (Z.take k) :=
  ⟨by rwa [← List.map_take] at ho, fun p hp => let ⟨a, b, d, e⟩ := h.rows p (List.mem_of_mem_take hp); ⟨a, b, d.kept hg e, e⟩⟩
end
end Go.Proofs.YtkeeneedaekfoaaGreat
