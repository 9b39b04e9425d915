/- The builtin clear on the tail of a row that a call owns. No condition beyond those stated. -/
import Derived.Test.YtemdjochphehjaaGreatQGB
import Derived.Test.YtemdjochphehjaaGreatQGD
import Derived.Test.YtemdjochphehjaaGreatQGG
import Derived.Lib.SliceRun
import Derived.Deep.QuietTactic
import Derived.BigQuiet
set_option linter.unusedVariables false
set_option linter.unusedSimpArgs false
namespace Go.Proofs.YtemdjochphehjaaGreat
open Go.RowKit

section
variable {w w' : World} {B : Nat} {e : TypeId} {size g n c k : Nat} {xs : List Value}
end
section
variable {P : Program} {ops : Array Oper} {rest : List Oper} {o : Oper} {a : Act} {Q : Exit → Act → World → Prop}
end
end Go.Proofs.YtemdjochphehjaaGreat
/- slices.Compact on numbers that a call owns. No condition beyond those stated. -/
namespace Go.Proofs.YtemdjochphehjaaGreat
open Go.RowKit

theorem OI.of_os {w : World} {B : Nat} {e : TypeId} {A : Option Addr} {n c k : Nat} {zs : List Int} (h : OS w B e 1 A n c ((ints zs).take k)) (ha : All64 zs) : OI w B e A n c (zs.take k) :=
  ⟨by rwa [show (ints zs).take k = ints (zs.take k) by simp [ints]] at h, ha.take k⟩
end Go.Proofs.YtemdjochphehjaaGreat
/- slices.CompactFunc on slices of numbers, in a row that a call owns. No condition beyond those stated. -/
namespace Go.Proofs.YtemdjochphehjaaGreat
open Go.RowKit

/-- what is kept stood in the row before, in that order -/
structure SubT {α : Type} (Z Y : List α) (q j : Nat) : Prop where
  sub : (Y.take q).Sublist (Z.take j)
  rest : ∀ i, j ≤ i + 1 → Y[i]? = Z[i]?
theorem SubT.start {α : Type} (Z : List α) (q j : Nat) (h : q ≤ j) : SubT Z Z q j := ⟨List.take_sublist_take_left h, fun _ _ => rfl⟩
theorem SubT.same {α : Type} {Z Y : List α} {q j : Nat} (h : SubT Z Y q j) : SubT Z Y q (j + 1) := ⟨h.sub.trans (List.take_sublist_take_left (Nat.le_succ j)), fun i hi => h.rest i (by omega)⟩
theorem SubT.new {α : Type} {Z Y : List α} {q j : Nat} {p : α} (h : SubT Z Y q j) (hp : Y[j]? = some p) (hqj : q < j) : SubT Z (Y.set q p) (q + 1) (j + 1) := by
  have hz := (h.rest j (by omega)).symm.trans hp
  obtain ⟨hjl, rfl⟩ := List.getElem?_eq_some_iff.1 hz
  have hyl := (List.getElem?_eq_some_iff.1 hp).1
  refine ⟨?_, fun i hi => ?_⟩
  · rw [List.take_succ_eq_append_getElem (by simp; omega), List.take_set_of_le (by omega), List.take_succ_eq_append_getElem hjl]
    refine List.Sublist.append h.sub ?_
    simp
  · rw [List.getElem?_set_ne (by omega)]
    exact h.rest i (by omega)
theorem SubT.done {α : Type} {Z Y : List α} {q j : Nat} (h : SubT Z Y q j) : (Y.take q).Sublist Z := h.sub.trans (List.take_sublist _ _)
abbrev PL := Sl × List Int
/-- slices in a row of the call's own, what they read as beside them -/
structure PV (w : World) (B : Nat) (e2 : TypeId) (g n c : Nat) (Z : List PL) : Prop where
  os : OS w B e2 1 (some ⟨g, 0, none⟩) n c (Z.map fun p => slv p.1)
  rows : ∀ p ∈ Z, p.1.2.1 ≤ p.1.2.2 ∧ p.1.2.2 ≤ 9223372036854775807 ∧ RI w p.1.1 p.1.2.1 p.2 ∧ blk p.1.1 ≠ some g
section
variable {w w' : World} {B : Nat} {e2 : TypeId} {g n c : Nat} {Z : List PL}
theorem RI.kept {A : Option Addr} {m : Nat} {z : List Int} (h : RI w A m z) (hg : w.grownBy w' (some g)) (hne : blk A ≠ some g) : RI w' A m z :=
  ⟨h.len, fun j x hx => by
    obtain ⟨ad, u, ha, hc, he⟩ := RS.at_ h j x hx
    refine ⟨ad, u, ha, ?_, he⟩
    have hb := block_lt hc
    have hblk : (ad.add j).block ≠ g := fun e => hne (by rw [ha]; simp [blk]; rw [← add_block ad j]; exact e)
    have := hg.block _ hb (by intro e; injection e with e; exact hblk e)
    unfold World.cell? at hc ⊢
    rw [this]
    exact hc⟩
theorem PV.len (h : PV w B e2 g n c Z) : Z.length = n := by have := h.os.len; simpa using this
theorem PV.drewN (h : PV w B e2 g n c Z) (q : Nat) : PV (w.drewN q) B e2 g n c Z := ⟨h.os.drewN q, fun p hp => let ⟨a, b, d, e⟩ := h.rows p hp; ⟨a, b, d.keep (below_drewn w q), e⟩⟩
theorem PV.get (h : PV w B e2 g n c Z) {k : Nat} (hk : k < n) : ∃ p, Z[k]? = some p ∧ w.cell? ⟨g, k, none⟩ = some (.slice p.1.1 p.1.2.1 p.1.2.2) ∧ w.frozen? ⟨g, k, none⟩ = false ∧
    p.1.2.1 ≤ p.1.2.2 ∧ p.1.2.2 ≤ 9223372036854775807 ∧ RI w p.1.1 p.1.2.1 p.2 ∧ p.2 = row (Z.map (·.2)) k := by
  have hl : k < Z.length := by rw [h.len]; exact hk
  have hz := List.getElem?_eq_getElem hl
  obtain ⟨g', e1, hc, hf⟩ := h.os.cell (j := k) (u := slv Z[k].1) (by rw [List.getElem?_map, hz]; rfl)
  injection e1 with e1
  injection e1 with e1
  subst e1
  obtain ⟨a, b, d, _⟩ := h.rows _ (List.getElem_mem hl)
  exact ⟨_, hz, hc, hf, a, b, d, by rw [row_get (by simpa using hl)]; simp⟩
theorem PV.set (h : PV w B e2 g n c Z) (q : Nat) {p : PL} (hp : p ∈ Z) : PV (w.setCell ⟨g, q, none⟩ (.slice p.1.1 p.1.2.1 p.1.2.2)) B e2 g n c (Z.set q p) := by
  refine ⟨?_, fun u hu => ?_⟩
  · have := h.os.set q (slv p.1)
    rwa [show (Z.map fun p => slv p.1).set q (slv p.1) = (Z.set q p).map fun p => slv p.1 by rw [List.map_set]] at this
  · have hu' : u ∈ Z := (List.mem_or_eq_of_mem_set hu).elim id (fun e => e ▸ hp)
    obtain ⟨a, b, d, e⟩ := h.rows u hu'
    exact ⟨a, b, d.kept (grown_set (g := g)) e, e⟩
end
end Go.Proofs.YtemdjochphehjaaGreat
