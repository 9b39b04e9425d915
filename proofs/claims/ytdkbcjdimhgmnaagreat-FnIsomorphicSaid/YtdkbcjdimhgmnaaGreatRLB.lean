/- Plain law: the graph of a design leads back to it. No condition beyond those stated. -/
import Derived.Test.YtdkbcjdimhgmnaaGreatRHV
set_option linter.unusedVariables false
set_option linter.unusedSimpArgs false
namespace Go.Proofs.YtdkbcjdimhgmnaaGreat
open Go.RowKit
theorem iota_up (v m : Nat) : UpL (dsC v m) (iotaP (v + m)) := by
  refine ⟨by rw [iotaP_len, dsC_len], fun a b ha hb h => ?_⟩
  rw [dsC_len] at ha hb
  rw [dsC_nth ha, dsC_nth hb] at h
  rw [iotaP_nth ha, iotaP_nth hb]
  split at h <;> split at h <;> omega
theorem imgR_iota {z : List Int} {n : Nat} (hs : z.Pairwise fun x y => x < y) (hb : ∀ x ∈ z, 0 ≤ x ∧ x < (n : Int)) : imgR (iotaP n) z = z := by
  refine strict_unique sgnI_ord (setG_strict sgnI_ord _) (hs.imp fun {a b} h => ?_) fun y => ?_
  · rcases sgnI_cases a b with ⟨h1, e⟩ | ⟨h1, e⟩ | ⟨h1, e⟩ <;> omega
  · rw [imgR_mem]
    constructor
    · rintro ⟨x, hx, rfl⟩
      have := hb x hx
      rw [iotaP_nth (by omega), Int.toNat_of_nonneg this.1]
      exact hx
    · intro hy
      have := hb y hy
      exact ⟨y, hy, by rw [iotaP_nth (by omega), Int.toNat_of_nonneg this.1]⟩
theorem design_sorted {v : Int} {bs : List (List Int)} (h : Design v bs) : SortedL cmpL bs := by
  refine List.pairwise_iff_getElem.2 fun a b ha hb hab => ?_
  have key : ∀ d i, i + d < bs.length → cmpL (row bs i) (row bs (i + d)) ≤ 0 := by
    intro d
    induction d with
    | zero => intro i hi; have := cmpL_ord.swap (row bs i) (row bs i); simp only [Nat.add_zero]; omega
    | succ d ih =>
      intro i hi
      exact cmpL_ord.trans (ih i (by omega)) (h.ord (i + d) (by omega))
  have := key (b - a) a (by omega)
  rwa [show a + (b - a) = b by omega, row_get ha, row_get hb] at this
theorem design_back {v : Nat} {bs : List (List Int)} (h : Design (v : Int) bs) : srtR ((nearP (v + bs.length) (dsE v bs v)).drop v) = bs := by
  have e := cd_blocks h (iotaP_perm (v + bs.length)) (iota_up v bs.length)
  rw [relE_iota dsE_ok] at e
  rw [e]
  have e2 : bs.map (imgR ((iotaP (v + bs.length)).take v)) = bs := by
    conv => rhs; rw [← List.map_id bs]
    refine List.map_congr_left fun b hb => ?_
    obtain ⟨i, hi, rfl⟩ := List.mem_iff_getElem.1 hb
    obtain ⟨h1, h2⟩ := ds_block h hi
    rw [row_get hi] at h1 h2
    rw [imgR_take h2]
    exact imgR_iota (n := v + bs.length) h1 fun x hx => by have := h2 x hx; omega
  rw [e2]
  exact (srtR_unique (List.Perm.refl _) (design_sorted h)).symm
theorem design_few {v : Nat} {bs : List (List Int)} (h : Design (v : Int) bs) (hb : bs.length ≤ 13) : v + bs.length ≤ 64 ∧ (dsE v bs v).length ≤ 512 := by
  have h2 := h.v2
  have := dsE_len v bs v
  have h3 : v * bs.length ≤ 32 * 13 := Nat.mul_le_mul (by omega) hb
  omega
theorem dg_few {v : Nat} {bs : List (List Int)} (h : Design (v : Int) bs) (hb : bs.length ≤ 13) : dgK v bs = 0 ∧ dgC v bs = dsC v bs.length ∧ dgE v bs = dsE v bs v := by
  obtain ⟨h1, h2⟩ := design_few h hb
  have hF : dsF v bs = false := by
    unfold dsF
    simp
    omega
  exact ⟨by rw [dgK, hF]; rfl, by rw [dgC, hF]; rfl, by rw [dgE, hF]; rfl⟩
section
variable {w w' : World} {B : Nat} {e2 e1 : TypeId} {A : Option Addr} {n c : Nat} {vs : List Sl} {zss : List (List Int)}
theorem ORv.keptB {g : Nat} (h : ORv w B e2 e1 A n c vs zss) (hg : w.grownBy w' (some g)) (hb : g < B) : ORv w' B e2 e1 A n c vs zss := by
  have far : ∀ {e : TypeId} {size : Nat} {A : Option Addr} {n c : Nat} {xs : List Value}, OS w B e size A n c xs → blk A = none ∨ blk A ≠ some g := fun {e size A n c xs} ho => by
    cases A with
    | none => exact .inl rfl
    | some a => exact .inr fun e => by have := (ho.lt (k := a.block) rfl).1; simp only [blk, Option.map_some, Option.some.injEq] at e; omega
  refine h.kept hg (far h.os) fun j v hv => ?_
  have hj : j < zss.length := by rw [← h.len]; exact (List.getElem?_eq_some_iff.1 hv).1
  exact far (h.rows j v _ hv (List.getElem?_eq_getElem hj)).os
theorem OR.keptB {g : Nat} (h : OR w B e2 e1 A n c zss) (hg : w.grownBy w' (some g)) (hb : g < B) : OR w' B e2 e1 A n c zss := by
  obtain ⟨vs, h⟩ := h
  exact ⟨vs, h.keptB hg hb⟩
theorem OI.keptB {g : Nat} {zs : List Int} (h : OI w B e1 A n c zs) (hg : w.grownBy w' (some g)) (hb : g < B) : OI w' B e1 A n c zs :=
  h.kept hg (by
    cases A with
    | none => exact .inl rfl
    | some a => exact .inr fun e => by have := (h.os.lt (k := a.block) rfl).1; simp only [blk, Option.map_some, Option.some.injEq] at e; omega)
end
end Go.Proofs.YtdkbcjdimhgmnaaGreat
