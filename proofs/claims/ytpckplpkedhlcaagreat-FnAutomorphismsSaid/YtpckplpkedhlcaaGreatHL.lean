/- The graph of a design, plain. No program in sight. -/
import Derived.Test.YtpckplpkedhlcaaGreatGG
set_option linter.unusedVariables false
set_option linter.unusedSimpArgs false
namespace Go.Proofs.YtpckplpkedhlcaaGreat

/-- the colors of the graph of a design -/
def dsC (v m : Nat) : List Int := List.replicate v 0 ++ List.replicate m 1
theorem dsC_len (v m : Nat) : (dsC v m).length = v + m := by simp [dsC]
/-- the edges, block by block -/
def dsJ (v : Nat) (bs : List (List Int)) (k j : Nat) : List Ed := ((row bs k).take j).map fun x => (x, ((v + k : Nat) : Int))
def dsK (v : Nat) (bs : List (List Int)) (k : Nat) : List Ed := (List.range k).flatMap fun i => (row bs i).map fun x => (x, ((v + i : Nat) : Int))
theorem dsK_zero (v : Nat) (bs : List (List Int)) : dsK v bs 0 = [] := rfl
theorem dsK_step (v : Nat) (bs : List (List Int)) (k : Nat) : dsK v bs (k + 1) = dsK v bs k ++ dsJ v bs k (row bs k).length := by
  unfold dsK dsJ
  rw [List.take_length, List.range_succ, List.flatMap_append]
  simp
theorem dsJ_zero (v : Nat) (bs : List (List Int)) (k : Nat) : dsJ v bs k 0 = [] := by simp [dsJ]
theorem dsJ_step (v : Nat) (bs : List (List Int)) {k j : Nat} (h : j < (row bs k).length) : dsJ v bs k (j + 1) = dsJ v bs k j ++ [(nth (row bs k) j, ((v + k : Nat) : Int))] := by
  unfold dsJ
  rw [List.take_succ_eq_append_getElem h, List.map_append, nth_get h]
  rfl
/-- the edges, point by point -/
def dsX (v : Nat) (bs : List (List Int)) (x j : Nat) : List Ed := ((List.range j).filter fun i => (row bs i).contains (x : Int)).map fun i => ((x : Int), ((v + i : Nat) : Int))
def dsE (v : Nat) (bs : List (List Int)) (k : Nat) : List Ed := (List.range k).flatMap fun x => dsX v bs x bs.length
theorem dsE_zero (v : Nat) (bs : List (List Int)) : dsE v bs 0 = [] := rfl
theorem dsE_step (v : Nat) (bs : List (List Int)) (k : Nat) : dsE v bs (k + 1) = dsE v bs k ++ dsX v bs k bs.length := by simp [dsE, List.range_succ, List.flatMap_append]
theorem dsX_zero (v : Nat) (bs : List (List Int)) (x : Nat) : dsX v bs x 0 = [] := rfl
theorem dsX_yes {v : Nat} {bs : List (List Int)} {x j : Nat} (h : (row bs j).contains (x : Int) = true) : dsX v bs x (j + 1) = dsX v bs x j ++ [((x : Int), ((v + j : Nat) : Int))] := by
  unfold dsX
  rw [List.range_succ, List.filter_append, List.map_append]
  simp only [List.filter_cons, h, if_true, List.filter_nil, List.map_cons, List.map_nil]
theorem dsX_no {v : Nat} {bs : List (List Int)} {x j : Nat} (h : (row bs j).contains (x : Int) = false) : dsX v bs x (j + 1) = dsX v bs x j := by
  unfold dsX
  rw [List.range_succ, List.filter_append, List.map_append]
  simp only [List.filter_cons, h, Bool.false_eq_true, if_false, List.filter_nil, List.map_nil, List.append_nil]
theorem dsX_len (v : Nat) (bs : List (List Int)) (x j : Nat) : (dsX v bs x j).length ≤ j := by
  unfold dsX
  rw [List.length_map]
  exact Nat.le_trans (List.length_filter_le _ _) (by simp)
theorem dsE_len (v : Nat) (bs : List (List Int)) (k : Nat) : (dsE v bs k).length ≤ k * bs.length := by
  induction k with
  | zero => simp [dsE]
  | succ k ih =>
    have := dsX_len v bs k bs.length
    rw [dsE_step, List.length_append, Nat.succ_mul]; omega
section
variable {v : Nat} {bs : List (List Int)}
theorem ds_block (h : Design (v : Int) bs) {i : Nat} (hi : i < bs.length) : (row bs i).Pairwise (fun x y => x < y) ∧ ∀ x ∈ row bs i, 0 ≤ x ∧ x < (v : Int) := by
  have hb := (h.blk i hi).2
  have hs : ∀ d j, j + 1 + d < (row bs i).length → nth (row bs i) j < nth (row bs i) (j + 1 + d) := by
    intro d
    induction d with
    | zero => intro j hj; exact hb.up j hj
    | succ d ih =>
      intro j hj
      have h1 := ih j (by omega)
      have h2 := hb.up (j + 1 + d) (by omega)
      rw [show j + 1 + (d + 1) = j + 1 + d + 1 by omega]
      omega
  refine ⟨List.pairwise_iff_getElem.2 fun a b ha hb' hab => ?_, fun x hx => ?_⟩
  · have := hs (b - a - 1) a (by omega)
    rw [show a + 1 + (b - a - 1) = b by omega, nth_get ha, nth_get hb'] at this
    exact this
  · obtain ⟨k, hk, rfl⟩ := mem_nth hx
    have := hb.bd k hk
    omega
theorem dsK_mem (e : Ed) : e ∈ dsK v bs bs.length ↔ ∃ i, i < bs.length ∧ e.1 ∈ row bs i ∧ e.2 = ((v + i : Nat) : Int) := by
  unfold dsK
  simp only [List.mem_flatMap, List.mem_range, List.mem_map]
  constructor
  · rintro ⟨i, hi, x, hx, rfl⟩; exact ⟨i, hi, hx, rfl⟩
  · rintro ⟨i, hi, hx, he⟩; exact ⟨i, hi, e.1, hx, Prod.ext rfl he.symm⟩
theorem dsE_mem (e : Ed) : e ∈ dsE v bs v ↔ ∃ x i : Nat, x < v ∧ i < bs.length ∧ (x : Int) ∈ row bs i ∧ e = ((x : Int), ((v + i : Nat) : Int)) := by
  unfold dsE dsX
  simp only [List.mem_flatMap, List.mem_range, List.mem_map, List.mem_filter]
  constructor
  · rintro ⟨x, hx, i, ⟨hi, hh⟩, rfl⟩; exact ⟨x, i, hx, hi, by simpa using hh, rfl⟩
  · rintro ⟨x, i, hx, hi, hh, rfl⟩; exact ⟨x, hx, i, ⟨hi, by simpa using hh⟩, rfl⟩
theorem dsE_strict : StrictL cmpE (dsE v bs v) := by
  unfold StrictL dsE
  rw [List.pairwise_flatMap]
  refine ⟨fun x _ => ?_, List.pairwise_lt_range.imp fun {x y} hxy u hu w hw => ?_⟩
  · unfold dsX
    rw [List.pairwise_map]
    refine (List.pairwise_lt_range.filter _).imp fun {i j} h => (cmpE_neg _ _).2 ?_
    exact .inr ⟨rfl, by simp only []; omega⟩
  · unfold dsX at hu hw
    obtain ⟨_, _, rfl⟩ := List.mem_map.1 hu
    obtain ⟨_, _, rfl⟩ := List.mem_map.1 hw
    exact (cmpE_neg _ _).2 (.inl (by simp only []; omega))
theorem ds_same (h : Design (v : Int) bs) (e : Ed) : e ∈ dsE v bs v ↔ e ∈ dsK v bs bs.length := by
  rw [dsE_mem, dsK_mem]
  constructor
  · rintro ⟨x, i, hx, hi, hh, rfl⟩; exact ⟨i, hi, hh, rfl⟩
  · rintro ⟨i, hi, hh, he⟩
    have := (ds_block h hi).2 _ hh
    refine ⟨e.1.toNat, i, by omega, hi, by rw [Int.toNat_of_nonneg this.1]; exact hh, ?_⟩
    rw [Int.toNat_of_nonneg this.1]
    exact Prod.ext rfl he
theorem ds_edges (h : Design (v : Int) bs) : setG cmpE (dsK v bs bs.length) = dsE v bs v := setG_eq cmpE_ord dsE_strict (ds_same h)
theorem dsK_lt (h : Design (v : Int) bs) : ∀ e ∈ dsK v bs bs.length, 0 ≤ e.1 ∧ e.1 < e.2 := fun e he => by
  obtain ⟨i, hi, hh, h2⟩ := (dsK_mem e).1 he
  have := (ds_block h hi).2 _ hh
  omega
theorem dsK_nodup (h : Design (v : Int) bs) : (dsK v bs bs.length).Nodup := by
  unfold dsK
  rw [List.Nodup, List.pairwise_flatMap]
  refine ⟨fun i hi => ?_, List.pairwise_lt_range.imp fun {i j} hij u hu w hw => ?_⟩
  · rw [List.pairwise_map]
    refine (ds_block h (List.mem_range.1 hi)).1.imp fun {x y} hxy e => ?_
    simp only [Prod.mk.injEq] at e
    omega
  · obtain ⟨_, _, rfl⟩ := List.mem_map.1 hu
    obtain ⟨_, _, rfl⟩ := List.mem_map.1 hw
    intro e
    simp only [Prod.mk.injEq] at e
    omega
theorem ds_length (h : Design (v : Int) bs) : (dsK v bs bs.length).length = (dsE v bs v).length :=
  ((List.perm_ext_iff_of_nodup (dsK_nodup h) (strict_nodup cmpE_ord dsE_strict)).2 fun e => (ds_same h e).symm).length_eq
end
end Go.Proofs.YtpckplpkedhlcaaGreat
