/- A place of a row of one's own rows: where it stands, and what it is to write it over. No condition beyond those stated. -/
import Derived.Test.YtgnilbbblpkcoaaRGB
set_option linter.unusedVariables false
set_option linter.unusedSimpArgs false
namespace Go.Proofs.Ytgnilbbblpkcoaa
open Go.RowKit
section
variable {w w' : World} {B : Nat} {e2 e1 : TypeId} {A : Option Addr} {n c : Nat} {vs : List Sl} {zss : List (List Int)}
structure At2 (w : World) (B : Nat) (e2 e1 : TypeId) (A : Option Addr) (n c : Nat) (vs : List Sl) (zss : List (List Int)) (i j g r m k : Nat) : Prop where
  ha : A = some ⟨g, 0, none⟩
  co : w.cell? ⟨g, i, none⟩ = some (.slice (some ⟨r, 0, none⟩) m k)
  fo : w.frozen? ⟨g, i, none⟩ = false
  hm : (row zss i).length = m
  mle : m ≤ k
  k1 : k ≤ 9223372036854775807
  ci : w.cell? ⟨r, j, none⟩ = some (.int .i64 (nth (row zss i) j))
  fi : w.frozen? ⟨r, j, none⟩ = false
  br : B ≤ r
  rl : r < w.heap.size
  iz : I64 (nth (row zss i) j)
  set : ∀ u, I64 u → ORv (w.setCell ⟨r, j, none⟩ (.int .i64 u)) B e2 e1 A n c vs (zss.set i ((row zss i).set j u))
theorem ORv.at2 (h : ORv w B e2 e1 A n c vs zss) {i j : Nat} (hi : i < n) (hj : j < (row zss i).length) : ∃ g r m k, At2 w B e2 e1 A n c vs zss i j g r m k := by
  obtain ⟨g, v, ha, hv, co, fo, hr⟩ := h.get hi
  obtain ⟨r, hr1, ci, fi, iz⟩ := hr.cell (k := j) (by rw [← hr.len]; exact hj)
  have hlt := hr.os.lt (k := r) (by rw [hr1]; rfl)
  refine ⟨g, r, v.2.1, v.2.2, ha, by rw [co, hr1], fo, hr.len, hr.os.cap.1, hr.os.cap.2, ci, fi, hlt.1, hlt.2, iz, fun u hu => ?_⟩
  have h2 : OI w B e1 (some ⟨r, 0, none⟩) v.2.1 v.2.2 (row zss i) := by rw [← hr1]; exact hr
  have h3 := h2.set j hu
  rw [← hr1] at h3
  refine h.wrote hv ?_ h3
  rw [hr1]
  exact ⟨rfl, rfl, rfl, by simp [World.setCell], fun k _ hk => Below.heap_setCell _ _ _ _ (fun e => hk (by rw [e]; rfl))⟩
theorem ORv.keptB {g : Nat} (h : ORv w B e2 e1 A n c vs zss) (hg : w.grownBy w' (some g)) (hb : g < B) : ORv w' B e2 e1 A n c vs zss := by
  have far : ∀ {e : TypeId} {size : Nat} {A : Option Addr} {n c : Nat} {xs : List Value}, OS w B e size A n c xs → blk A = none ∨ blk A ≠ some g := fun {e size A n c xs} ho => by
    cases A with
    | none => exact .inl rfl
    | some a => exact .inr fun e => by have := (ho.lt (k := a.block) rfl).1; simp only [blk, Option.map_some, Option.some.injEq] at e; omega
  refine h.kept hg (far h.os) fun j v hv => ?_
  have hj : j < zss.length := by rw [← h.len]; exact (List.getElem?_eq_some_iff.1 hv).1
  exact far (h.rows j v _ hv (List.getElem?_eq_getElem hj)).os
theorem OR.keptB {g : Nat} (h : OR w B e2 e1 A n c zss) (hg : w.grownBy w' (some g)) (hb : g < B) : OR w' B e2 e1 A n c zss := by
  obtain ⟨vs, h⟩ := h
  exact ⟨vs, h.keptB hg hb⟩
theorem OI.keptB {g : Nat} {zs : List Int} (h : OI w B e1 A n c zs) (hg : w.grownBy w' (some g)) (hb : g < B) : OI w' B e1 A n c zs :=
  h.kept hg (by
    cases A with
    | none => exact .inl rfl
    | some a => exact .inr fun e => by have := (h.os.lt (k := a.block) rfl).1; simp only [blk, Option.map_some, Option.some.injEq] at e; omega)
end
end Go.Proofs.Ytgnilbbblpkcoaa
