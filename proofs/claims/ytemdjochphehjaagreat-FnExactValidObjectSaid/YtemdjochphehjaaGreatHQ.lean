/- Canonical designs, plain: the neighbors of the blocks in the relabeled graph are the images of the blocks. No program in sight. -/
import Derived.Test.YtemdjochphehjaaGreatHP
import Derived.Test.YtemdjochphehjaaGreatGG
import Derived.Test.YtemdjochphehjaaGreatGF
import Derived.Test.YtemdjochphehjaaGreatGM
import Derived.Test.YtemdjochphehjaaGreatGB
import Derived.Test.YtemdjochphehjaaGreatJA
import Derived.Deep.QuietTactic
import Derived.BigQuiet
set_option linter.unusedVariables false
set_option linter.unusedSimpArgs false
namespace Go.Proofs.YtemdjochphehjaaGreat

/-- lists in ascending order -/
def srtR (l : List (List Int)) : List (List Int) := l.mergeSort fun x y => decide (cmpL x y ≤ 0)
theorem srtR_perm (l : List (List Int)) : (srtR l).Perm l := List.mergeSort_perm _ _
theorem srtR_sorted (l : List (List Int)) : SortedL cmpL (srtR l) := by
  have := List.pairwise_mergeSort (le := fun x y : List Int => decide (cmpL x y ≤ 0)) (fun a b c h1 h2 => by
    simp only [decide_eq_true_eq] at *
    exact cmpL_ord.trans h1 h2) (fun a b => by
    have := cmpL_ord.swap a b
    simp only [Bool.or_eq_true, decide_eq_true_eq]
    omega) l
  exact this.imp fun h => by simpa using h
theorem srtR_unique {l m : List (List Int)} (hp : m.Perm l) (hm : SortedL cmpL m) : m = srtR l :=
  (hp.trans (srtR_perm l).symm).eq_of_pairwise (fun a b _ _ h1 h2 => cmpL_ord.eq_of (by have := cmpL_ord.swap a b; omega)) hm (srtR_sorted l)
theorem srtR_len (l : List (List Int)) : (srtR l).length = l.length := (srtR_perm l).length_eq
/-- the image of a set of points -/
def imgR (p blk : List Int) : List Int := setG sgnI (blk.map fun x => nth p x.toNat)
theorem imgR_mem (p blk : List Int) (y : Int) : y ∈ imgR p blk ↔ ∃ x ∈ blk, nth p x.toNat = y := by
  unfold imgR
  rw [setG_mem sgnI_ord, List.mem_map]
theorem imgR_take {p blk : List Int} {v : Nat} (h : ∀ x ∈ blk, 0 ≤ x ∧ x < (v : Int)) : imgR (p.take v) blk = imgR p blk := by
  unfold imgR
  congr 1
  refine List.map_congr_left fun x hx => ?_
  have := h x hx
  exact nth_takeL (by omega)
/-- what tells neighbors in the relabeled graph -/
theorem rel_iso {n : Nat} {es : List Ed} {p : List Int} (h : EdgesOk n es) (hp : Perm p) (hl : p.length = n) : Iso n es (relE es p) p := by
  have he : EdgesOk n (relE es p) := by
    refine ⟨fun e he => ?_, setG_strict cmpE_ord _⟩
    rw [relE_tab h hp hl, tabE_mem] at he
    obtain ⟨a, b, rfl, h1, h2, -⟩ := he
    exact ⟨by simp, by simp; omega, by simp; omega⟩
  refine ⟨hp, hl, fun x y hx hy => ?_⟩
  have bx := perm_lt hp (v := x) (by omega)
  have bY := perm_lt hp (v := y) (by omega)
  rw [hl] at bx bY
  rw [← relB_nb h hp hl hx hy]
  have key : ∀ a b : Nat, a < b → b < n → nbB (relE es p) a b = relB es p a b := fun a b hab hb => by
    rw [Bool.eq_iff_iff, ← relE_mem h hp hl hab hb]
    unfold nbB
    rw [List.any_eq_true]
    constructor
    · rintro ⟨e, h1, h2⟩
      have := he.edge e h1
      simp only [Bool.or_eq_true, Bool.and_eq_true, beq_iff_eq] at h2
      rcases h2 with ⟨h3, h4⟩ | ⟨h3, h4⟩
      · rw [← h3, ← h4]; exact h1
      · omega
    · intro h1
      exact ⟨_, h1, by simp⟩
  rcases Nat.lt_trichotomy (nth p x).toNat (nth p y).toNat with h1 | h1 | h1
  · exact key _ _ h1 bY.1
  · rw [h1, nbB_irrefl he]
    symm
    rw [← h1]
    have : x = y := perm_inj hp (by omega) (by omega) (by omega)
    subst this
    rw [relB_nb h hp hl hx hx, nbB_irrefl h]
  · rw [nbB_symm, relB_symm]
    exact key _ _ h1 bx.1
theorem perm_high {v m : Nat} {p : List Int} (h : UpL (dsC v m) p) (hp : Perm p) {u : Nat} (hu : v ≤ u) (hm : u < v + m) : (v : Int) ≤ nth p u ∧ nth p u < ((v + m : Nat) : Int) := by
  have hl : p.length = v + m := by rw [h.1, dsC_len]
  have hb := hp.bd u (by omega)
  refine ⟨?_, by omega⟩
  rcases (show nth p u < (v : Int) ∨ (v : Int) ≤ nth p u by omega) with h1 | h1
  · exfalso
    obtain ⟨h2, h3⟩ := up_perm h hp
    obtain ⟨x, hx, e⟩ := perm_surj h3 (i := (nth p u).toNat) (by omega)
    rw [nth_takeL (by omega)] at e
    have := perm_inj hp (i := x) (j := u) (by omega) (by omega) (by omega)
    omega
  · exact h1
theorem dsE_ok {v : Nat} {bs : List (List Int)} : EdgesOk (v + bs.length) (dsE v bs v) := by
  refine ⟨fun e he => ?_, dsE_strict⟩
  obtain ⟨x, i, hx, hi, -, rfl⟩ := (dsE_mem e).1 he
  exact ⟨by simp, by simp; omega, by simp; omega⟩
/-- the neighbors of a block are its points -/
theorem ds_near {v : Nat} {bs : List (List Int)} (h : Design (v : Int) bs) {k : Nat} (hk : k < bs.length) (x : Int) : x ∈ nearV (v + bs.length) (dsE v bs v) (v + k) ↔ x ∈ row bs k := by
  rw [nearV_mem]
  constructor
  · rintro ⟨b, rfl, hb, hn⟩
    unfold nbB at hn
    obtain ⟨e, he, hn⟩ := List.any_eq_true.1 hn
    obtain ⟨y, i, hy, hi, hin, rfl⟩ := (dsE_mem e).1 he
    simp only [Bool.or_eq_true, Bool.and_eq_true, beq_iff_eq] at hn
    rcases hn with ⟨h1, h2⟩ | ⟨h1, h2⟩
    · omega
    · have e1 : y = b := by omega
      have e2 : i = k := by omega
      subst e1; subst e2
      exact hin
  · intro hx
    have hb := (ds_block h hk).2 x hx
    refine ⟨x.toNat, by omega, by omega, ?_⟩
    unfold nbB
    refine List.any_eq_true.2 ⟨((x.toNat : Int), ((v + k : Nat) : Int)), (dsE_mem _).2 ⟨x.toNat, k, by omega, hk, by rw [Int.toNat_of_nonneg hb.1]; exact hx, rfl⟩, by simp⟩
theorem cd_row {v : Nat} {bs : List (List Int)} (h : Design (v : Int) bs) {p : List Int} (hp : Perm p) (hl : p.length = v + bs.length) {k : Nat} (hk : k < bs.length) :
    nearV (v + bs.length) (relE (dsE v bs v) p) (nth p (v + k)).toNat = imgR p (row bs k) := by
  have hi := rel_iso dsE_ok hp hl
  have hn := hi.near (v := v + k) (by omega)
  refine strict_unique sgnI_ord ?_ (setG_strict sgnI_ord _) fun y => ?_
  · refine (nearV_sorted _ _ _).imp fun {a b} hab => ?_
    rcases sgnI_cases a b with ⟨h1, e⟩ | ⟨h1, e⟩ | ⟨h1, e⟩ <;> omega
  · rw [hn.mem_iff, imgR_mem, List.mem_map]
    exact exists_congr fun x => and_congr_left fun _ => ds_near h hk x
/-- the blocks' neighbors, one and all -/
theorem cd_lists {v : Nat} {bs : List (List Int)} (h : Design (v : Int) bs) {p : List Int} (hp : Perm p) (hu : UpL (dsC v bs.length) p) :
    ((nearP (v + bs.length) (relE (dsE v bs v) p)).drop v).Perm (bs.map (imgR p)) := by
  have hl : p.length = v + bs.length := by rw [hu.1, dsC_len]
  have e1 : (nearP (v + bs.length) (relE (dsE v bs v) p)).drop v = (List.range bs.length).map fun i => nearV (v + bs.length) (relE (dsE v bs v) p) (v + i) := by
    unfold nearP
    rw [← List.map_drop]
    refine List.ext_getElem (by simp) fun i h1 h2 => ?_
    simp
  have e2 : bs.map (imgR p) = (List.range bs.length).map fun k => nearV (v + bs.length) (relE (dsE v bs v) p) (v + (nth p (v + k) - v).toNat) := by
    refine List.ext_getElem (by simp) fun i h1 h2 => ?_
    simp only [List.getElem_map, List.getElem_range]
    have hi : i < bs.length := by simpa using h1
    rw [← row_get hi, ← cd_row h hp hl hi]
    have := perm_high hu hp (u := v + i) (by omega) (by omega)
    congr 1
    omega
  rw [e1, e2]
  have e3 : ((List.range bs.length).map fun k => nearV (v + bs.length) (relE (dsE v bs v) p) (v + (nth p (v + k) - v).toNat)) = ((List.range bs.length).map fun k => (nth p (v + k) - v).toNat).map fun i => nearV (v + bs.length) (relE (dsE v bs v) p) (v + i) := by
    rw [List.map_map]; rfl
  rw [e3]
  refine List.Perm.map _ ?_
  refine (List.perm_ext_iff_of_nodup List.nodup_range ?_).2 fun i => ?_
  · rw [List.Nodup, List.pairwise_map]
    refine List.Pairwise.imp_of_mem ?_ List.pairwise_lt_range
    intro a b ha hb hab e
    have ha := List.mem_range.1 ha
    have hb := List.mem_range.1 hb
    have h1 := perm_high hu hp (u := v + a) (by omega) (by omega)
    have h2 := perm_high hu hp (u := v + b) (by omega) (by omega)
    have := perm_inj hp (i := v + a) (j := v + b) (by omega) (by omega) (by omega)
    omega
  · rw [List.mem_range, List.mem_map]
    constructor
    · intro hi
      obtain ⟨u, hu1, e⟩ := perm_surj hp (i := v + i) (by omega)
      rcases Nat.lt_or_ge u v with h1 | h1
      · have := up_low hu hp h1
        omega
      · refine ⟨u - v, List.mem_range.2 (by omega), ?_⟩
        rw [show v + (u - v) = u by omega, e]
        omega
    · rintro ⟨k, hk, rfl⟩
      have hk := List.mem_range.1 hk
      have := perm_high hu hp (u := v + k) (by omega) (by omega)
      omega
/-- the canonical blocks -/
theorem cd_blocks {v : Nat} {bs : List (List Int)} (h : Design (v : Int) bs) {p : List Int} (hp : Perm p) (hu : UpL (dsC v bs.length) p) :
    srtR ((nearP (v + bs.length) (relE (dsE v bs v) p)).drop v) = srtR (bs.map (imgR (p.take v))) := by
  have e : bs.map (imgR (p.take v)) = bs.map (imgR p) := List.map_congr_left fun b hb => by
    obtain ⟨i, hi, rfl⟩ := List.mem_iff_getElem.1 hb
    rw [← row_get hi]
    exact imgR_take (ds_block h hi).2
  rw [e]
  exact srtR_unique ((srtR_perm _).trans (cd_lists h hp hu)) (srtR_sorted _)
/-- the colors are as they were -/
theorem cd_colors {v m : Nat} {p : List Int} (hp : Perm p) (hu : UpL (dsC v m) p) : relC (dsC v m) p = dsC v m := by
  have hl : p.length = (dsC v m).length := hu.1
  refine nth_ext (by rw [relC_len]) fun k hk => ?_
  rw [relC_len] at hk
  obtain ⟨u, hu1, e⟩ := perm_surj hp (i := k) (by omega)
  have hr := relC_nth hp hl (v := u) (by omega)
  rw [e, Int.toNat_natCast] at hr
  rw [hr]
  have hn : ∀ j, j < v + m → nth (dsC v m) j = if j < v then 0 else 1 := fun j hj => by
    rw [nth_get (by rw [dsC_len]; exact hj)]
    unfold dsC
    rw [List.getElem_append]
    simp only [List.length_replicate, List.getElem_replicate]
    split <;> rfl
  rw [dsC_len] at hk hl
  rw [hn _ (by omega), hn _ (by omega)]
  rcases Nat.lt_or_ge u v with h1 | h1
  · have := up_low hu hp h1
    rw [if_pos h1, if_pos (by omega)]
  · have := perm_high hu hp h1 (by omega)
    rw [if_neg (by omega), if_neg (by omega)]
/-- every edge of the relabeled graph leads from a point to a block -/
theorem cd_edges {v : Nat} {bs : List (List Int)} {p : List Int} (hp : Perm p) (hu : UpL (dsC v bs.length) p) : ∀ e ∈ relE (dsE v bs v) p, 0 ≤ e.1 ∧ e.1 < (v : Int) ∧ (v : Int) ≤ e.2 ∧ e.2 < ((v + bs.length : Nat) : Int) := fun e he => by
  rw [relE, setG_mem cmpE_ord, List.mem_map] at he
  obtain ⟨f, hf, rfl⟩ := he
  obtain ⟨x, i, hx, hi, -, rfl⟩ := (dsE_mem f).1 hf
  have h1 := up_low hu hp hx
  have h2 := perm_high hu hp (u := v + i) (by omega) (by omega)
  have hl : p.length = v + bs.length := by rw [hu.1, dsC_len]
  have h3 := hp.bd x (by omega)
  unfold imgE mmE
  simp only [Int.toNat_natCast]
  omega
theorem imgR_ne {p blk : List Int} (h : 0 < blk.length) : 0 < (imgR p blk).length := by
  obtain ⟨x, hx⟩ := List.exists_mem_of_length_pos h
  exact List.length_pos_of_mem ((imgR_mem p blk _).2 ⟨x, hx, rfl⟩)
theorem imgR_len (p blk : List Int) : (imgR p blk).length ≤ blk.length := by
  have := setG_len (c := sgnI) (blk.map fun x => nth p x.toNat)
  rwa [List.length_map] at this
end Go.Proofs.YtemdjochphehjaaGreat
/- spec.l10Sort and spec.l04Image. No condition beyond those stated. -/
namespace Go.Proofs.YtemdjochphehjaaGreat
open Go.RowKit

/-- a row put behind those not above it -/
theorem ins_sorted {L : List (List Int)} {x : List Int} {k : Nat} (hs : SortedL cmpL L) (hk : k ≤ L.length) (h1 : k = 0 ∨ cmpL (row L (k - 1)) x ≤ 0) (h2 : ∀ i, k ≤ i → i < L.length → 0 < cmpL (row L i) x) : SortedL cmpL (L.take k ++ [x] ++ L.drop k) := by
  have a1 : ∀ a ∈ L.take k, cmpL a x ≤ 0 := fun a ha => by
    obtain ⟨i, hi, rfl⟩ := List.mem_iff_getElem.1 ha
    rw [List.length_take] at hi
    rw [List.getElem_take]
    rcases h1 with h1 | h1
    · omega
    · rw [row_get (by omega)] at h1
      by_cases e : i = k - 1
      · subst e; exact h1
      · exact cmpL_ord.trans (List.pairwise_iff_getElem.1 hs i (k - 1) (by omega) (by omega) (by omega)) h1
  have a2 : ∀ a ∈ L.drop k, cmpL x a ≤ 0 := fun a ha => by
    obtain ⟨i, hi, rfl⟩ := List.mem_iff_getElem.1 ha
    rw [List.length_drop] at hi
    rw [List.getElem_drop]
    have := h2 (k + i) (by omega) (by omega)
    rw [row_get (by omega)] at this
    have := cmpL_ord.swap L[k + i] x
    omega
  unfold SortedL
  rw [List.append_assoc, List.pairwise_append]
  refine ⟨hs.sublist (List.take_sublist _ _), List.pairwise_cons.2 ⟨a2, hs.sublist (List.drop_sublist _ _)⟩, fun a ha b hb => ?_⟩
  rcases List.mem_cons.1 hb with rfl | hb
  · exact a1 a ha
  · exact cmpL_ord.trans (a1 a ha) (a2 b hb)
theorem ins_perm {L M : List (List Int)} {x : List Int} (k : Nat) (hp : L.Perm M) : (L.take k ++ [x] ++ L.drop k).Perm (M ++ [x]) := by
  have h1 : (L.take k ++ [x] ++ L.drop k).Perm (x :: (L.take k ++ L.drop k)) := by
    rw [List.append_assoc]
    exact List.perm_middle
  rw [List.take_append_drop] at h1
  exact h1.trans ((List.Perm.cons x hp).trans (List.perm_append_singleton x M).symm)
theorem fresh_of {A A' : Option Addr} {g : Nat} {m : Nat} (hn : blk A' = blk (some (⟨g, 0, none⟩ : Addr)) ∨ blk A' = some m) (hm : g ≤ m) : ∀ b, blk A' = some b → g ≤ b := fun b hb => by
  rcases hn with h | h
  · rw [h] at hb; simp [blk] at hb; omega
  · rw [h] at hb; injection hb with hb; omega
theorem fresh_next {A A' : Option Addr} {g m : Nat} (h : ∀ b, blk A = some b → g ≤ b) (hn : blk A' = blk A ∨ ∃ k, blk A' = some k ∧ m ≤ k) (hm : g ≤ m) : ∀ b, blk A' = some b → g ≤ b := fun b hb => by
  rcases hn with h1 | ⟨k, h1, h2⟩
  · exact h b (h1 ▸ hb)
  · rw [h1] at hb; injection hb with hb; omega
section
variable {w w' : World} {B : Nat} {A : Option Addr} {n c : Nat} {vs : List Sl} {zss : List (List Int)}
theorem OB.take_cells {ad : Addr} (h : OB w B (some ad) n c vs zss) (k : Nat) : ∀ j v, (vs.take k)[j]? = some v → ∃ a, some ad = some a ∧ w.cell? (a.add j) = some (slv v) := fun j v hv => by
  rw [List.getElem?_take] at hv
  split at hv
  · exact h.os.cells j (slv v) (by rw [List.getElem?_map, hv]; rfl)
  · cases hv
theorem OB.drop_cells {ad : Addr} (h : OB w B (some ad) n c vs zss) (k : Nat) : ∀ j v, (vs.drop k)[j]? = some v → ∃ a, some (ad.add k) = some a ∧ w.cell? (a.add j) = some (slv v) := fun j v hv => by
  rw [List.getElem?_drop] at hv
  obtain ⟨a, e, hc⟩ := h.os.cells (k + j) (slv v) (by rw [List.getElem?_map, hv]; rfl)
  cases e
  exact ⟨_, rfl, by rw [add_add_]; exact hc⟩
theorem OB.ins {k : Nat} (h : OB w B A n c vs zss) (hk : k ≤ n) (hb : Below w.heap.size w w') {v : Sl} {z : List Int} (ho : OI w' B 2 v.1 v.2.1 v.2.2 z) {A' : Option Addr} {c' : Nat}
    (hos : OS w' B 22 1 A' (n + 1) c' ((vs.take k ++ [v] ++ vs.drop k).map slv)) : OB w' B A' (n + 1) c' (vs.take k ++ [v] ++ vs.drop k) (zss.take k ++ [z] ++ zss.drop k) := by
  obtain ⟨l1, l2⟩ := h.slen
  refine ⟨hos, by simp only [List.length_append, List.length_take, List.length_drop, List.length_singleton]; omega, fun j u y hu hy => ?_⟩
  rw [List.append_assoc, List.getElem?_append, List.length_take, l1, Nat.min_eq_left hk] at hu
  rw [List.append_assoc, List.getElem?_append, List.length_take, l2, Nat.min_eq_left hk] at hy
  split at hu
  · rename_i hj
    rw [if_pos hj] at hy
    rw [List.getElem?_take, if_pos hj] at hu hy
    exact (h.rows j u y hu hy).below hb
  · rename_i hj
    rw [if_neg hj] at hy
    by_cases e : j = k
    · subst e
      rw [Nat.sub_self] at hu hy
      simp at hu hy
      subst hu; subst hy
      exact ho
    · obtain ⟨d, rfl⟩ : ∃ d, j = k + 1 + d := ⟨j - k - 1, by omega⟩
      rw [show k + 1 + d - k = d + 1 by omega] at hu hy
      simp only [List.singleton_append, List.getElem?_cons_succ, List.getElem?_drop] at hu hy
      exact (h.rows (k + d) u y hu hy).below hb
end
end Go.Proofs.YtemdjochphehjaaGreat
