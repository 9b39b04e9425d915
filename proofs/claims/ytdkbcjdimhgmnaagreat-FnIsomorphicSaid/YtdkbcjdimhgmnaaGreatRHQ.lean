/- Canonical designs, plain: the neighbors of the blocks in the relabeled graph are the images of the blocks. No program in sight. -/
import Derived.Test.YtdkbcjdimhgmnaaGreatRHP
import Derived.Test.YtdkbcjdimhgmnaaGreatRJA
set_option linter.unusedVariables false
set_option linter.unusedSimpArgs false
namespace Go.Proofs.YtdkbcjdimhgmnaaGreat
def srtR (l : List (List Int)) : List (List Int) := l.mergeSort fun x y => decide (cmpL x y ≤ 0)
theorem srtR_perm (l : List (List Int)) : (srtR l).Perm l := List.mergeSort_perm _ _
theorem srtR_sorted (l : List (List Int)) : SortedL cmpL (srtR l) := by
  have := List.pairwise_mergeSort (le := fun x y : List Int => decide (cmpL x y ≤ 0)) (fun a b c h1 h2 => by
    simp only [decide_eq_true_eq] at *
    exact cmpL_ord.trans h1 h2) (fun a b => by
    have := cmpL_ord.swap a b
    simp only [Bool.or_eq_true, decide_eq_true_eq]
    omega) l
  exact this.imp fun h => by simpa using h
theorem srtR_unique {l m : List (List Int)} (hp : m.Perm l) (hm : SortedL cmpL m) : m = srtR l :=
  (hp.trans (srtR_perm l).symm).eq_of_pairwise (fun a b _ _ h1 h2 => cmpL_ord.eq_of (by have := cmpL_ord.swap a b; omega)) hm (srtR_sorted l)
theorem srtR_len (l : List (List Int)) : (srtR l).length = l.length := (srtR_perm l).length_eq
def imgR (p blk : List Int) : List Int := setG sgnI (blk.map fun x => nth p x.toNat)
theorem imgR_mem (p blk : List Int) (y : Int) : y ∈ imgR p blk ↔ ∃ x ∈ blk, nth p x.toNat = y := by
  unfold imgR
  rw [setG_mem sgnI_ord, List.mem_map]
theorem imgR_take {p blk : List Int} {v : Nat} (h : ∀ x ∈ blk, 0 ≤ x ∧ x < (v : Int)) : imgR (p.take v) blk = imgR p blk := by
  unfold imgR
  congr 1
  refine List.map_congr_left fun x hx => ?_
  have := h x hx
  exact nth_takeL (by omega)
theorem rel_iso {n : Nat} {es : List Ed} {p : List Int} (h : EdgesOk n es) (hp : Perm p) (hl : p.length = n) : Iso n es (relE es p) p := by
  have he : EdgesOk n (relE es p) := by
    refine ⟨fun e he => ?_, setG_strict cmpE_ord _⟩
    rw [relE_tab h hp hl, tabE_mem] at he
    obtain ⟨a, b, rfl, h1, h2, -⟩ := he
    exact ⟨by simp, by simp; omega, by simp; omega⟩
  refine ⟨hp, hl, fun x y hx hy => ?_⟩
  have bx := perm_lt hp (v := x) (by omega)
  have bY := perm_lt hp (v := y) (by omega)
  rw [hl] at bx bY
  rw [← relB_nb h hp hl hx hy]
  have key : ∀ a b : Nat, a < b → b < n → nbB (relE es p) a b = relB es p a b := fun a b hab hb => by
    rw [Bool.eq_iff_iff, ← relE_mem h hp hl hab hb]
    unfold nbB
    rw [List.any_eq_true]
    constructor
    · rintro ⟨e, h1, h2⟩
      have := he.edge e h1
      simp only [Bool.or_eq_true, Bool.and_eq_true, beq_iff_eq] at h2
      rcases h2 with ⟨h3, h4⟩ | ⟨h3, h4⟩
      · rw [← h3, ← h4]; exact h1
      · omega
    · intro h1
      exact ⟨_, h1, by simp⟩
  rcases Nat.lt_trichotomy (nth p x).toNat (nth p y).toNat with h1 | h1 | h1
  · exact key _ _ h1 bY.1
  · rw [h1, nbB_irrefl he]
    symm
    rw [← h1]
    have : x = y := perm_inj hp (by omega) (by omega) (by omega)
    subst this
    rw [relB_nb h hp hl hx hx, nbB_irrefl h]
  · rw [nbB_symm, relB_symm]
    exact key _ _ h1 bx.1
theorem perm_high {v m : Nat} {p : List Int} (h : UpL (dsC v m) p) (hp : Perm p) {u : Nat} (hu : v ≤ u) (hm : u < v + m) : (v : Int) ≤ nth p u ∧ nth p u < ((v + m : Nat) : Int) := by
  have hl : p.length = v + m := by rw [h.1, dsC_len]
  have hb := hp.bd u (by omega)
  refine ⟨?_, by omega⟩
  rcases (show nth p u < (v : Int) ∨ (v : Int) ≤ nth p u by omega) with h1 | h1
  · exfalso
    obtain ⟨h2, h3⟩ := up_perm h hp
    obtain ⟨x, hx, e⟩ := perm_surj h3 (i := (nth p u).toNat) (by omega)
    rw [nth_takeL (by omega)] at e
    have := perm_inj hp (i := x) (j := u) (by omega) (by omega) (by omega)
    omega
  · exact h1
theorem dsE_ok {v : Nat} {bs : List (List Int)} : EdgesOk (v + bs.length) (dsE v bs v) := by
  refine ⟨fun e he => ?_, dsE_strict⟩
  obtain ⟨x, i, hx, hi, -, rfl⟩ := (dsE_mem e).1 he
  exact ⟨by simp, by simp; omega, by simp; omega⟩
theorem ds_near {v : Nat} {bs : List (List Int)} (h : Design (v : Int) bs) {k : Nat} (hk : k < bs.length) (x : Int) : x ∈ nearV (v + bs.length) (dsE v bs v) (v + k) ↔ x ∈ row bs k := by
  rw [nearV_mem]
  constructor
  · rintro ⟨b, rfl, hb, hn⟩
    unfold nbB at hn
    obtain ⟨e, he, hn⟩ := List.any_eq_true.1 hn
    obtain ⟨y, i, hy, hi, hin, rfl⟩ := (dsE_mem e).1 he
    simp only [Bool.or_eq_true, Bool.and_eq_true, beq_iff_eq] at hn
    rcases hn with ⟨h1, h2⟩ | ⟨h1, h2⟩
    · omega
    · have e1 : y = b := by omega
      have e2 : i = k := by omega
      subst e1; subst e2
      exact hin
  · intro hx
    have hb := (ds_block h hk).2 x hx
    refine ⟨x.toNat, by omega, by omega, ?_⟩
    unfold nbB
    refine List.any_eq_true.2 ⟨((x.toNat : Int), ((v + k : Nat) : Int)), (dsE_mem _).2 ⟨x.toNat, k, by omega, hk, by rw [Int.toNat_of_nonneg hb.1]; exact hx, rfl⟩, by simp⟩
theorem cd_row {v : Nat} {bs : List (List Int)} (h : Design (v : Int) bs) {p : List Int} (hp : Perm p) (hl : p.length = v + bs.length) {k : Nat} (hk : k < bs.length) :
    nearV (v + bs.length) (relE (dsE v bs v) p) (nth p (v + k)).toNat = imgR p (row bs k) := by
  have hi := rel_iso dsE_ok hp hl
  have hn := hi.near (v := v + k) (by omega)
  refine strict_unique sgnI_ord ?_ (setG_strict sgnI_ord _) fun y => ?_
  · refine (nearV_sorted _ _ _).imp fun {a b} hab => ?_
    rcases sgnI_cases a b with ⟨h1, e⟩ | ⟨h1, e⟩ | ⟨h1, e⟩ <;> omega
  · rw [hn.mem_iff, imgR_mem, List.mem_map]
    exact exists_congr fun x => and_congr_left fun _ => ds_near h hk x
theorem cd_lists {v : Nat} {bs : List (List Int)} (h : Design (v : Int) bs) {p : List Int} (hp : Perm p) (hu : UpL (dsC v bs.length) p) :
    ((nearP (v + bs.length) (relE (dsE v bs v) p)).drop v).Perm (bs.map (imgR p)) := by
  have hl : p.length = v + bs.length := by rw [hu.1, dsC_len]
  have e1 : (nearP (v + bs.length) (relE (dsE v bs v) p)).drop v = (List.range bs.length).map fun i => nearV (v + bs.length) (relE (dsE v bs v) p) (v + i) := by
    unfold nearP
    rw [← List.map_drop]
    refine List.ext_getElem (by simp) fun i h1 h2 => ?_
    simp
  have e2 : bs.map (imgR p) = (List.range bs.length).map fun k => nearV (v + bs.length) (relE (dsE v bs v) p) (v + (nth p (v + k) - v).toNat) := by
    refine List.ext_getElem (by simp) fun i h1 h2 => ?_
    simp only [List.getElem_map, List.getElem_range]
    have hi : i < bs.length := by simpa using h1
    rw [← row_get hi, ← cd_row h hp hl hi]
    have := perm_high hu hp (u := v + i) (by omega) (by omega)
    congr 1
    omega
  rw [e1, e2]
  have e3 : ((List.range bs.length).map fun k => nearV (v + bs.length) (relE (dsE v bs v) p) (v + (nth p (v + k) - v).toNat)) = ((List.range bs.length).map fun k => (nth p (v + k) - v).toNat).map fun i => nearV (v + bs.length) (relE (dsE v bs v) p) (v + i) := by
    rw [List.map_map]; rfl
  rw [e3]
  refine List.Perm.map _ ?_
  refine (List.perm_ext_iff_of_nodup List.nodup_range ?_).2 fun i => ?_
  · rw [List.Nodup, List.pairwise_map]
    refine List.Pairwise.imp_of_mem ?_ List.pairwise_lt_range
    intro a b ha hb hab e
    have ha := List.mem_range.1 ha
    have hb := List.mem_range.1 hb
    have h1 := perm_high hu hp (u := v + a) (by omega) (by omega)
    have h2 := perm_high hu hp (u := v + b) (by omega) (by omega)
    have := perm_inj hp (i := v + a) (j := v + b) (by omega) (by omega) (by omega)
    omega
  · rw [List.mem_range, List.mem_map]
    constructor
    · intro hi
      obtain ⟨u, hu1, e⟩ := perm_surj hp (i := v + i) (by omega)
      rcases Nat.lt_or_ge u v with h1 | h1
      · have := up_low hu hp h1
        omega
      · refine ⟨u - v, List.mem_range.2 (by omega), ?_⟩
        rw [show v + (u - v) = u by omega, e]
        omega
    · rintro ⟨k, hk, rfl⟩
      have hk := List.mem_range.1 hk
      have := perm_high hu hp (u := v + k) (by omega) (by omega)
      omega
theorem cd_blocks {v : Nat} {bs : List (List Int)} (h : Design (v : Int) bs) {p : List Int} (hp : Perm p) (hu : UpL (dsC v bs.length) p) :
    srtR ((nearP (v + bs.length) (relE (dsE v bs v) p)).drop v) = srtR (bs.map (imgR (p.take v))) := by
  have e : bs.map (imgR (p.take v)) = bs.map (imgR p) := List.map_congr_left fun b hb => by
    obtain ⟨i, hi, rfl⟩ := List.mem_iff_getElem.1 hb
    rw [← row_get hi]
    exact imgR_take (ds_block h hi).2
  rw [e]
  exact srtR_unique ((srtR_perm _).trans (cd_lists h hp hu)) (srtR_sorted _)
theorem cd_colors {v m : Nat} {p : List Int} (hp : Perm p) (hu : UpL (dsC v m) p) : relC (dsC v m) p = dsC v m := by
  have hl : p.length = (dsC v m).length := hu.1
  refine nth_ext (by rw [relC_len]) fun k hk => ?_
  rw [relC_len] at hk
  obtain ⟨u, hu1, e⟩ := perm_surj hp (i := k) (by omega)
  have hr := relC_nth hp hl (v := u) (by omega)
  rw [e, Int.toNat_natCast] at hr
  rw [hr]
  have hn : ∀ j, j < v + m → nth (dsC v m) j = if j < v then 0 else 1 := fun j hj => by
    rw [nth_get (by rw [dsC_len]; exact hj)]
    unfold dsC
    rw [List.getElem_append]
    simp only [List.length_replicate, List.getElem_replicate]
    split <;> rfl
  rw [dsC_len] at hk hl
  rw [hn _ (by omega), hn _ (by omega)]
  rcases Nat.lt_or_ge u v with h1 | h1
  · have := up_low hu hp h1
    rw [if_pos h1, if_pos (by omega)]
  · have := perm_high hu hp h1 (by omega)
    rw [if_neg (by omega), if_neg (by omega)]
theorem cd_edges {v : Nat} {bs : List (List Int)} {p : List Int} (hp : Perm p) (hu : UpL (dsC v bs.length) p) : ∀ e ∈ relE (dsE v bs v) p, 0 ≤ e.1 ∧ e.1 < (v : Int) ∧ (v : Int) ≤ e.2 ∧ e.2 < ((v + bs.length : Nat) : Int) := fun e he => by
  rw [relE, setG_mem cmpE_ord, List.mem_map] at he
  obtain ⟨f, hf, rfl⟩ := he
  obtain ⟨x, i, hx, hi, -, rfl⟩ := (dsE_mem f).1 hf
  have h1 := up_low hu hp hx
  have h2 := perm_high hu hp (u := v + i) (by omega) (by omega)
  have hl : p.length = v + bs.length := by rw [hu.1, dsC_len]
  have h3 := hp.bd x (by omega)
  unfold imgE mmE
  simp only [Int.toNat_natCast]
  omega
theorem imgR_ne {p blk : List Int} (h : 0 < blk.length) : 0 < (imgR p blk).length := by
  obtain ⟨x, hx⟩ := List.exists_mem_of_length_pos h
  exact List.length_pos_of_mem ((imgR_mem p blk _).2 ⟨x, hx, rfl⟩)
theorem imgR_len (p blk : List Int) : (imgR p blk).length ≤ blk.length := by
  have := setG_len (c := sgnI) (blk.map fun x => nth p x.toNat)
  rwa [List.length_map] at this
end Go.Proofs.YtdkbcjdimhgmnaaGreat
namespace Go.Proofs.YtdkbcjdimhgmnaaGreat
open Go.RowKit
theorem ins_sorted {L : List (List Int)} {x : List Int} {k : Nat} (hs : SortedL cmpL L) (hk : k ≤ L.length) (h1 : k = 0 ∨ cmpL (row L (k - 1)) x ≤ 0) (h2 : ∀ i, k ≤ i → i < L.length → 0 < cmpL (row L i) x) : SortedL cmpL (L.take k ++ [x] ++ L.drop k) := by
  have a1 : ∀ a ∈ L.take k, cmpL a x ≤ 0 := fun a ha => by
    obtain ⟨i, hi, rfl⟩ := List.mem_iff_getElem.1 ha
    rw [List.length_take] at hi
    rw [List.getElem_take]
    rcases h1 with h1 | h1
    · omega
    · rw [row_get (by omega)] at h1
      by_cases e : i = k - 1
      · subst e; exact h1
      · exact cmpL_ord.trans (List.pairwise_iff_getElem.1 hs i (k - 1) (by omega) (by omega) (by omega)) h1
  have a2 : ∀ a ∈ L.drop k, cmpL x a ≤ 0 := fun a ha => by
    obtain ⟨i, hi, rfl⟩ := List.mem_iff_getElem.1 ha
    rw [List.length_drop] at hi
    rw [List.getElem_drop]
    have := h2 (k + i) (by omega) (by omega)
    rw [row_get (by omega)] at this
    have := cmpL_ord.swap L[k + i] x
    omega
  unfold SortedL
  rw [List.append_assoc, List.pairwise_append]
  refine ⟨hs.sublist (List.take_sublist _ _), List.pairwise_cons.2 ⟨a2, hs.sublist (List.drop_sublist _ _)⟩, fun a ha b hb => ?_⟩
  rcases List.mem_cons.1 hb with rfl | hb
  · exact a1 a ha
  · exact cmpL_ord.trans (a1 a ha) (a2 b hb)
theorem ins_perm {L M : List (List Int)} {x : List Int} (k : Nat) (hp : L.Perm M) : (L.take k ++ [x] ++ L.drop k).Perm (M ++ [x]) := by
  have h1 : (L.take k ++ [x] ++ L.drop k).Perm (x :: (L.take k ++ L.drop k)) := by
    rw [List.append_assoc]
    exact List.perm_middle
  rw [List.take_append_drop] at h1
  exact h1.trans ((List.Perm.cons x hp).trans (List.perm_append_singleton x M).symm)
theorem fresh_of {A A' : Option Addr} {g : Nat} {m : Nat} (hn : blk A' = blk (some (⟨g, 0, none⟩ : Addr)) ∨ blk A' = some m) (hm : g ≤ m) : ∀ b, blk A' = some b → g ≤ b := fun b hb => by
  rcases hn with h | h
  · rw [h] at hb; simp [blk] at hb; omega
  · rw [h] at hb; injection hb with hb; omega
theorem fresh_next {A A' : Option Addr} {g m : Nat} (h : ∀ b, blk A = some b → g ≤ b) (hn : blk A' = blk A ∨ ∃ k, blk A' = some k ∧ m ≤ k) (hm : g ≤ m) : ∀ b, blk A' = some b → g ≤ b := fun b hb => by
  rcases hn with h1 | ⟨k, h1, h2⟩
  · exact h b (h1 ▸ hb)
  · rw [h1] at hb; injection hb with hb; omega
section
variable {w w' : World} {B : Nat} {A : Option Addr} {n c : Nat} {vs : List Sl} {zss : List (List Int)}
theorem OB.take_cells {ad : Addr} (h : OB w B (some ad) n c vs zss) (k : Nat) : ∀ j v, (vs.take k)[j]? = some v → ∃ a, some ad = some a ∧ w.cell? (a.add j) = some (slv v) := fun j v hv => by
  rw [List.getElem?_take] at hv
  split at hv
  · exact h.os.cells j (slv v) (by rw [List.getElem?_map, hv]; rfl)
  · cases hv
theorem OB.drop_cells {ad : Addr} (h : OB w B (some ad) n c vs zss) (k : Nat) : ∀ j v, (vs.drop k)[j]? = some v → ∃ a, some (ad.add k) = some a ∧ w.cell? (a.add j) = some (slv v) := fun j v hv => by
  rw [List.getElem?_drop] at hv
  obtain ⟨a, e, hc⟩ := h.os.cells (k + j) (slv v) (by rw [List.getElem?_map, hv]; rfl)
  cases e
  exact ⟨_, rfl, by rw [add_add_]; exact hc⟩
theorem OB.ins {k : Nat} (h : OB w B A n c vs zss) (hk : k ≤ n) (hb : Below w.heap.size w w') {v : Sl} {z : List Int} (ho : OI w' B 2 v.1 v.2.1 v.2.2 z) {A' : Option Addr} {c' : Nat}
    (hos : OS w' B 22 1 A' (n + 1) c' ((vs.take k ++ [v] ++ vs.drop k).map slv)) : OB w' B A' (n + 1) c' (vs.take k ++ [v] ++ vs.drop k) (zss.take k ++ [z] ++ zss.drop k) := by
  obtain ⟨l1, l2⟩ := h.slen
  refine ⟨hos, by simp only [List.length_append, List.length_take, List.length_drop, List.length_singleton]; omega, fun j u y hu hy => ?_⟩
  rw [List.append_assoc, List.getElem?_append, List.length_take, l1, Nat.min_eq_left hk] at hu
  rw [List.append_assoc, List.getElem?_append, List.length_take, l2, Nat.min_eq_left hk] at hy
  split at hu
  · rename_i hj
    rw [if_pos hj] at hy
    rw [List.getElem?_take, if_pos hj] at hu hy
    exact (h.rows j u y hu hy).below hb
  · rename_i hj
    rw [if_neg hj] at hy
    by_cases e : j = k
    · subst e
      rw [Nat.sub_self] at hu hy
      simp at hu hy
      subst hu; subst hy
      exact ho
    · obtain ⟨d, rfl⟩ : ∃ d, j = k + 1 + d := ⟨j - k - 1, by omega⟩
      rw [show k + 1 + d - k = d + 1 by omega] at hu hy
      simp only [List.singleton_append, List.getElem?_cons_succ, List.getElem?_drop] at hu hy
      exact (h.rows (k + d) u y hu hy).below hb
end
set_option maxRecDepth 100000 in
set_option maxHeartbeats 4000000 in
theorem l10Sort_any (A : Option Addr) (n c : Nat) (zss : List (List Int)) (w : World) (ha : RR w A n zss) (hn : n ≤ 1048576) (hr : ∀ k, k < n → (row zss k).length ≤ 1048576) :
    Calls Tryz.prog 129 #[.slice A n c] w (fun e w' => ∃ A' c' vs, e = .returned (.slice A' n c') ∧ OB w' w.heap.size A' n c' vs (srtR zss) ∧ Below w.heap.size w w') := by
  have hla := Lib.hid ha.len
  have HR := Lib.hid hr
  clear hr
  have hb0 := below_alloc w (.cells #[] 22)
  have hL0 : OB (w.alloc (.cells #[] 22)) w.heap.size (some ⟨w.heap.size, 0, none⟩) 0 0 [] [] := ⟨OS.lit w w.heap.size 22 1 0 #[] (Nat.le_refl _) rfl (by omega), rfl, fun _ _ _ h => by simp at h⟩
  go_enter Tryz.func129, Tryz.ntmps129
  go_wp2
  go_loopw [3, 4, 5, 6] (fun o i _ _ wr => ∃ (j : Nat) (ad : Addr) (c' : Nat) (L : List (List Int)) (xs : List Sl), i = .int .i64 j ∧ j ≤ n ∧ o = .slice (some ad) j c' ∧ OB wr w.heap.size (some ad) j c' xs L ∧ L.Perm (zss.take j) ∧ SortedL cmpL L ∧ Below w.heap.size w wr) (fun _ i _ _ _ => n - (intOf i).toNat)
  case atStart => exact ⟨0, _, 0, [], [], rfl, Nat.zero_le _, rfl, hL0, by simp, List.Pairwise.nil, hb0⟩
  case round =>
    clear hL0 hb0
    obtain ⟨j, ad, c', L, xs, rfl, hj, rfl, hL, hp, hs, hw⟩ := hrel
    obtain ⟨hjc, hcc⟩ := hL.os.cap
    have HP := Lib.hid hp
    have HS := Lib.hid hs
    clear hp hs
    by_cases hlt : j < n
    · obtain ⟨a, A1, n1, c1, rfl, hca, hn1, hc1, hri⟩ := (ha.keep hw).get hlt
      have hlen := Lib.hid hL.slen.2
      have hxl := Lib.hid hL.slen.1
      have hrl := Lib.hid (HR.out j hlt)
      have hln := Lib.hid hri.len
      obtain ⟨wo, rfl⟩ : ∃ wo : World, wo = wr := ⟨_, rfl⟩
      go_wp2
      go_loopw [5] (fun t w2 => ∃ k : Nat, k ≤ j ∧ t = .int .i64 k ∧ Drawn wo w2 ∧ ∀ i, k ≤ i → i < j → 0 < cmpL (row L i) (row zss j)) (fun t _ => (intOf t).toNat)
      case atStart => exact ⟨j, Nat.le_refl _, rfl, Drawn.refl _, fun i h1 h2 => by omega⟩
      case round =>
        obtain ⟨k, hk, rfl, hd, hab⟩ := hrel
        have HA := Lib.hid hab
        clear hab
        have hdb := hd.below
        have hca' := below_cell hdb hca
        by_cases hP : 0 < k ∧ 0 < cmpL (row L (k - 1)) (row zss j)
        · obtain ⟨h0, h1⟩ := hP
          obtain ⟨a2, A2, n2, c2, e2, hcb, hn2, hc2, ha2⟩ := (hL.reads.keep hdb).get (show k - 1 < j by omega)
          cases e2
          have hcall : ∀ q, Calls Tryz.prog 131 #[.slice A2 n2 c2, .slice A1 n1 c1] (wr.drewN q) (Quiet (wr.drewN q) (.int .i64 (cmpL (row L (k - 1)) (row zss j)))) := fun q =>
            compareLists_any A2 A1 n2 n1 c2 c1 _ _ _ (ha2.drewN q) ((hri.keep hdb).drewN q) (by omega) (by omega)
          have HA2 := Lib.hid (fun (i : Nat) (h2 : k - 1 ≤ i) (h3 : i < j) => show 0 < cmpL (row L i) (row zss j) from by
            by_cases e : i = k - 1
            · rw [e]; exact h1
            · exact HA.out i (by omega) h3)
          have h1' : decide (0 < cmpL (row L (k - 1)) (row zss j)) = true := by simp; omega
          have e1 : IntKind.i64.wrap ((k : Int) - 1) = (k : Int) - 1 := IntWalk.i64_in _ (by omega)
          have e2 : ((k : Int) - 1).toNat = k - 1 := by omega
          have e3 : (0 : Int) ≤ (k : Int) - 1 := by omega
          have g2 : decide (0 < k) = true := by simp; omega
          go_wp2
          go_quiet ((go_at_call 131; exact Quiet.call (hcall _)))
          clear e1 e2
          go_wp2
          go_roundw
          case rel => exact ⟨k - 1, by omega, by go_num, hd.more _, HA2.out⟩
          case measure => simp [intOf]; omega
        · have hPd : k = 0 ∨ cmpL (row L (k - 1)) (row zss j) ≤ 0 := by
            by_cases h0 : k = 0
            · exact .inl h0
            · exact .inr (by
                by_cases h1 : 0 < cmpL (row L (k - 1)) (row zss j)
                · exact absurd ⟨by omega, h1⟩ hP
                · omega)
          clear hP
          have hPh := Lib.hid hPd
          by_cases h0 : k ≤ 0
          · have g1 : decide ((0 : Int) < (k : Int)) = false := by simp; omega
            have g2 : decide (0 < k) = false := by simp; omega
            clear hPd
            go_wp2
            go_quiet (fail)
            have hPd := hPh.out
            have hdb5 : Below wo.heap.size wo (wr.drewN nq) := (hd.more nq).below
            have hca5 := below_cell hdb5 hca
            clear g1 g2 h0 hPh
            generalize wr.drewN nq = W5 at *
            have hL5 := hL.below hdb5
            have hri5 := hri.keep hdb5
            have hw5 := hw.trans (hdb5.mono hw.size)
            have HSn := Lib.hid (ins_sorted (x := row zss j) HS.out (by rw [hlen.out]; exact hk) hPd (fun i h1 h2 => HA.out i h1 (by rw [hlen.out] at h2; exact h2)))
            have HPn := Lib.hid (show (L.take k ++ [row zss j] ++ L.drop k).Perm (zss.take (j + 1)) from by
              rw [take_row (by rw [hla.out]; exact hlt)]
              exact ins_perm k HP.out)
            have hlv : (xs.take k).length = k := by rw [List.length_take, hxl.out]; omega
            have hlu : (xs.drop k).length = j - k := by rw [List.length_drop, hxl.out]
            have hv2 := hL5.take_cells k
            have hu2 := hL5.drop_cells k
            have hal := below_alloc W5 (.cells #[] 22)
            have ho0 : OS (W5.alloc (.cells #[] 22)) w.heap.size 22 1 (some ⟨W5.heap.size, 0, none⟩) 0 0 (([] : List Sl).map slv) := OS.lit W5 w.heap.size 22 1 0 #[] hw5.size rfl (by omega)
            have HL5 := Lib.hid hL5
            have hn1' : n1 ≤ 1048576 := by have := hrl.out; have := hln.out; omega
            clear hPd hd hdb hL5 hca' hL hri hca hw hdb5
            by_cases hkc : k < c'
            · skip
              go_wp2_with (first
                | (at_builtin; refine app_sls _ rfl _ _ rfl w.heap.size _ 0 0 [] rfl ho0 (some ad) k c' (xs.take k) rfl hlv (fun i v hv => let ⟨a, b, c⟩ := hv2 i v hv; ⟨a, b, below_cell hal c⟩) (by omega) (by have := hw5.size; have := hal.size; omega) ?_; intro B1 d1 w1 ho1 hg1 hn1; rw [Nat.zero_add, List.nil_append] at ho1; have hw1 : Below W5.heap.size W5 w1 := hal.grown hg1 hal.size (fun b hb => by simp [blk] at hb; omega); have hca1 := below_cell hw1 hca5; simp only [Nat.zero_add])
                | (go_at_call 169; refine (l00Own_any A1 n1 c1 _ w1 (hri5.keep hw1) (by omega)).mono ?_; rintro e w2 ⟨X, p, q, rfl, hox0, hbx⟩; have hox := hox0.more (Nat.le_trans hw5.size hw1.size); have hf1 := fresh_of (A := B1) hn1 (by simp); have hw2 := hw1.trans (hbx.mono hw1.size); have ho2 := ho1.below hbx)
                | (at_builtin; refine app_sl _ rfl _ _ rfl w.heap.size B1 k d1 (xs.take k) rfl ho2 (X, p, q) _ rfl (by simp) (by omega) (Nat.le_trans hw5.size hw2.size) ?_; intro B3 d3 w3 ho3 hg3 hn3; have hw3 : Below W5.heap.size W5 w3 := hw2.grown hg3 hw2.size hf1; have hf3 := fresh_next hf1 hn3 hw2.size; have hx3 := hox.kept hg3 (OS.typed hox.os ho2 (by decide)))
                | (at_builtin; refine app_sls _ rfl _ _ rfl w.heap.size B3 (k + 1) d3 (xs.take k ++ [(X, p, q)]) rfl ho3 (some (ad.add k)) (j - k) (c' - k) (xs.drop k) rfl hlu (fun i v hv => let ⟨a, b, c⟩ := hu2 i v hv; ⟨a, b, below_cell hw3 c⟩) (by omega) (Nat.le_trans hw5.size hw3.size) ?_; intro B4 d4 w4 ho4 hg4 hn4; rw [show k + 1 + (j - k) = j + 1 by omega] at ho4 ⊢; have hw4 : Below W5.heap.size W5 w4 := hw3.grown hg4 hw3.size hf3; have hx4 := hx3.kept hg4 (OS.typed hx3.os ho3 (by decide))))
              obtain ⟨ad4, hB4⟩ : ∃ ad4, B4 = some ad4 := by
                obtain ⟨g, e, _⟩ := ho4.form (by omega)
                exact ⟨_, e⟩
              subst hB4
              have hL4 := HL5.out.ins (k := k) hk hw4 (v := (X, p, q)) hx4 ho4
              have hwe := hw5.trans (hw4.mono hw5.size)
              clear ho4 hg4 hn4 ho3 hg3 hn3 hw3 hw2 ho2 hox hox0 hbx hw1 ho1 hg1 hn1
              go_wp2
              go_roundw
              case rel => exact ⟨j + 1, ad4, d4, _, _, by go_num, by omega, rfl, hL4, HPn.out, HSn.out, hwe⟩
              case measure => simp [intOf]; omega
            · obtain rfl : k = j := by omega
              obtain rfl : k = c' := by omega
              have hus : xs.drop k = [] := List.eq_nil_of_length_eq_zero (by omega)
              go_wp2_with (first
                | (at_builtin; refine app_sls _ rfl _ _ rfl w.heap.size _ 0 0 [] rfl ho0 (some ad) k k (xs.take k) rfl hlv (fun i v hv => let ⟨a, b, c⟩ := hv2 i v hv; ⟨a, b, below_cell hal c⟩) (by omega) (by have := hw5.size; have := hal.size; omega) ?_; intro B1 d1 w1 ho1 hg1 hn1; rw [Nat.zero_add, List.nil_append] at ho1; have hw1 : Below W5.heap.size W5 w1 := hal.grown hg1 hal.size (fun b hb => by simp [blk] at hb; omega); have hca1 := below_cell hw1 hca5; simp only [Nat.zero_add])
                | (go_at_call 169; refine (l00Own_any A1 n1 c1 _ w1 (hri5.keep hw1) (by omega)).mono ?_; rintro e w2 ⟨X, p, q, rfl, hox0, hbx⟩; have hox := hox0.more (Nat.le_trans hw5.size hw1.size); have hf1 := fresh_of (A := B1) hn1 (by simp); have hw2 := hw1.trans (hbx.mono hw1.size); have ho2 := ho1.below hbx)
                | (at_builtin; refine app_sl _ rfl _ _ rfl w.heap.size B1 k d1 (xs.take k) rfl ho2 (X, p, q) _ rfl (by simp) (by omega) (Nat.le_trans hw5.size hw2.size) ?_; intro B3 d3 w3 ho3 hg3 hn3; have hw3 : Below W5.heap.size W5 w3 := hw2.grown hg3 hw2.size hf1; have hf3 := fresh_next hf1 hn3 hw2.size; have hx3 := hox.kept hg3 (OS.typed hox.os ho2 (by decide)))
                | (at_builtin; refine app_sls _ rfl _ _ rfl w.heap.size B3 (k + 1) d3 (xs.take k ++ [(X, p, q)]) rfl ho3 (some ad) 0 0 [] rfl rfl (fun i v hv => by simp at hv) (by omega) (Nat.le_trans hw5.size hw3.size) ?_; intro B4 d4 w4 ho4 hg4 hn4; rw [Nat.add_zero] at ho4 ⊢; have hw4 : Below W5.heap.size W5 w4 := hw3.grown hg4 hw3.size hf3; have hx4 := hx3.kept hg4 (OS.typed hx3.os ho3 (by decide))))
              obtain ⟨ad4, hB4⟩ : ∃ ad4, B4 = some ad4 := by
                obtain ⟨g, e, _⟩ := ho4.form (by omega)
                exact ⟨_, e⟩
              subst hB4
              have hL4 := HL5.out.ins (k := k) hk hw4 (v := (X, p, q)) hx4 (by rw [hus]; exact ho4)
              have hwe := hw5.trans (hw4.mono hw5.size)
              clear ho4 hg4 hn4 ho3 hg3 hn3 hw3 hw2 ho2 hox hox0 hbx hw1 ho1 hg1 hn1
              go_wp2
              go_roundw
              case rel => exact ⟨k + 1, ad4, d4, _, _, by go_num, by omega, rfl, hL4, HPn.out, HSn.out, hwe⟩
              case measure => simp [intOf]; omega
          · obtain ⟨a2, A2, n2, c2, e2, hcb, hn2, hc2, ha2⟩ := (hL.reads.keep hdb).get (show k - 1 < j by omega)
            cases e2
            have h1 : cmpL (row L (k - 1)) (row zss j) ≤ 0 := by
              rcases hPd with h | h
              · omega
              · exact h
            have hcall : ∀ q, Calls Tryz.prog 131 #[.slice A2 n2 c2, .slice A1 n1 c1] (wr.drewN q) (Quiet (wr.drewN q) (.int .i64 (cmpL (row L (k - 1)) (row zss j)))) := fun q =>
              compareLists_any A2 A1 n2 n1 c2 c1 _ _ _ (ha2.drewN q) ((hri.keep hdb).drewN q) (by omega) (by omega)
            have h1' : decide (0 < cmpL (row L (k - 1)) (row zss j)) = false := by simp; omega
            have e1 : IntKind.i64.wrap ((k : Int) - 1) = (k : Int) - 1 := IntWalk.i64_in _ (by omega)
            have e2 : ((k : Int) - 1).toNat = k - 1 := by omega
            have e3 : (0 : Int) ≤ (k : Int) - 1 := by omega
            have g2 : decide (0 < k) = true := by simp; omega
            have g1 : decide ((0 : Int) < (k : Int)) = true := by simp; omega
            clear hPd
            go_wp2
            go_quiet ((go_at_call 131; exact Quiet.call (hcall _)))
            have hPd := hPh.out
            have hdb5 : Below wo.heap.size wo (wr.drewN nq) := (hd.more nq).below
            have hca5 := below_cell hdb5 hca
            clear e1 e2 e3 g1 g2 h0 hPh hcall h1' h1 hcb ha2
            generalize wr.drewN nq = W5 at *
            have hL5 := hL.below hdb5
            have hri5 := hri.keep hdb5
            have hw5 := hw.trans (hdb5.mono hw.size)
            have HSn := Lib.hid (ins_sorted (x := row zss j) HS.out (by rw [hlen.out]; exact hk) hPd (fun i h1 h2 => HA.out i h1 (by rw [hlen.out] at h2; exact h2)))
            have HPn := Lib.hid (show (L.take k ++ [row zss j] ++ L.drop k).Perm (zss.take (j + 1)) from by
              rw [take_row (by rw [hla.out]; exact hlt)]
              exact ins_perm k HP.out)
            have hlv : (xs.take k).length = k := by rw [List.length_take, hxl.out]; omega
            have hlu : (xs.drop k).length = j - k := by rw [List.length_drop, hxl.out]
            have hv2 := hL5.take_cells k
            have hu2 := hL5.drop_cells k
            have hal := below_alloc W5 (.cells #[] 22)
            have ho0 : OS (W5.alloc (.cells #[] 22)) w.heap.size 22 1 (some ⟨W5.heap.size, 0, none⟩) 0 0 (([] : List Sl).map slv) := OS.lit W5 w.heap.size 22 1 0 #[] hw5.size rfl (by omega)
            have HL5 := Lib.hid hL5
            have hn1' : n1 ≤ 1048576 := by have := hrl.out; have := hln.out; omega
            clear hPd hd hdb hL5 hca' hL hri hca hw hdb5
            by_cases hkc : k < c'
            · skip
              go_wp2_with (first
                | (at_builtin; refine app_sls _ rfl _ _ rfl w.heap.size _ 0 0 [] rfl ho0 (some ad) k c' (xs.take k) rfl hlv (fun i v hv => let ⟨a, b, c⟩ := hv2 i v hv; ⟨a, b, below_cell hal c⟩) (by omega) (by have := hw5.size; have := hal.size; omega) ?_; intro B1 d1 w1 ho1 hg1 hn1; rw [Nat.zero_add, List.nil_append] at ho1; have hw1 : Below W5.heap.size W5 w1 := hal.grown hg1 hal.size (fun b hb => by simp [blk] at hb; omega); have hca1 := below_cell hw1 hca5; simp only [Nat.zero_add])
                | (go_at_call 169; refine (l00Own_any A1 n1 c1 _ w1 (hri5.keep hw1) (by omega)).mono ?_; rintro e w2 ⟨X, p, q, rfl, hox0, hbx⟩; have hox := hox0.more (Nat.le_trans hw5.size hw1.size); have hf1 := fresh_of (A := B1) hn1 (by simp); have hw2 := hw1.trans (hbx.mono hw1.size); have ho2 := ho1.below hbx)
                | (at_builtin; refine app_sl _ rfl _ _ rfl w.heap.size B1 k d1 (xs.take k) rfl ho2 (X, p, q) _ rfl (by simp) (by omega) (Nat.le_trans hw5.size hw2.size) ?_; intro B3 d3 w3 ho3 hg3 hn3; have hw3 : Below W5.heap.size W5 w3 := hw2.grown hg3 hw2.size hf1; have hf3 := fresh_next hf1 hn3 hw2.size; have hx3 := hox.kept hg3 (OS.typed hox.os ho2 (by decide)))
                | (at_builtin; refine app_sls _ rfl _ _ rfl w.heap.size B3 (k + 1) d3 (xs.take k ++ [(X, p, q)]) rfl ho3 (some (ad.add k)) (j - k) (c' - k) (xs.drop k) rfl hlu (fun i v hv => let ⟨a, b, c⟩ := hu2 i v hv; ⟨a, b, below_cell hw3 c⟩) (by omega) (Nat.le_trans hw5.size hw3.size) ?_; intro B4 d4 w4 ho4 hg4 hn4; rw [show k + 1 + (j - k) = j + 1 by omega] at ho4 ⊢; have hw4 : Below W5.heap.size W5 w4 := hw3.grown hg4 hw3.size hf3; have hx4 := hx3.kept hg4 (OS.typed hx3.os ho3 (by decide))))
              obtain ⟨ad4, hB4⟩ : ∃ ad4, B4 = some ad4 := by
                obtain ⟨g, e, _⟩ := ho4.form (by omega)
                exact ⟨_, e⟩
              subst hB4
              have hL4 := HL5.out.ins (k := k) hk hw4 (v := (X, p, q)) hx4 ho4
              have hwe := hw5.trans (hw4.mono hw5.size)
              clear ho4 hg4 hn4 ho3 hg3 hn3 hw3 hw2 ho2 hox hox0 hbx hw1 ho1 hg1 hn1
              go_wp2
              go_roundw
              case rel => exact ⟨j + 1, ad4, d4, _, _, by go_num, by omega, rfl, hL4, HPn.out, HSn.out, hwe⟩
              case measure => simp [intOf]; omega
            · obtain rfl : k = j := by omega
              obtain rfl : k = c' := by omega
              have hus : xs.drop k = [] := List.eq_nil_of_length_eq_zero (by omega)
              go_wp2_with (first
                | (at_builtin; refine app_sls _ rfl _ _ rfl w.heap.size _ 0 0 [] rfl ho0 (some ad) k k (xs.take k) rfl hlv (fun i v hv => let ⟨a, b, c⟩ := hv2 i v hv; ⟨a, b, below_cell hal c⟩) (by omega) (by have := hw5.size; have := hal.size; omega) ?_; intro B1 d1 w1 ho1 hg1 hn1; rw [Nat.zero_add, List.nil_append] at ho1; have hw1 : Below W5.heap.size W5 w1 := hal.grown hg1 hal.size (fun b hb => by simp [blk] at hb; omega); have hca1 := below_cell hw1 hca5; simp only [Nat.zero_add])
                | (go_at_call 169; refine (l00Own_any A1 n1 c1 _ w1 (hri5.keep hw1) (by omega)).mono ?_; rintro e w2 ⟨X, p, q, rfl, hox0, hbx⟩; have hox := hox0.more (Nat.le_trans hw5.size hw1.size); have hf1 := fresh_of (A := B1) hn1 (by simp); have hw2 := hw1.trans (hbx.mono hw1.size); have ho2 := ho1.below hbx)
                | (at_builtin; refine app_sl _ rfl _ _ rfl w.heap.size B1 k d1 (xs.take k) rfl ho2 (X, p, q) _ rfl (by simp) (by omega) (Nat.le_trans hw5.size hw2.size) ?_; intro B3 d3 w3 ho3 hg3 hn3; have hw3 : Below W5.heap.size W5 w3 := hw2.grown hg3 hw2.size hf1; have hf3 := fresh_next hf1 hn3 hw2.size; have hx3 := hox.kept hg3 (OS.typed hox.os ho2 (by decide)))
                | (at_builtin; refine app_sls _ rfl _ _ rfl w.heap.size B3 (k + 1) d3 (xs.take k ++ [(X, p, q)]) rfl ho3 (some ad) 0 0 [] rfl rfl (fun i v hv => by simp at hv) (by omega) (Nat.le_trans hw5.size hw3.size) ?_; intro B4 d4 w4 ho4 hg4 hn4; rw [Nat.add_zero] at ho4 ⊢; have hw4 : Below W5.heap.size W5 w4 := hw3.grown hg4 hw3.size hf3; have hx4 := hx3.kept hg4 (OS.typed hx3.os ho3 (by decide))))
              obtain ⟨ad4, hB4⟩ : ∃ ad4, B4 = some ad4 := by
                obtain ⟨g, e, _⟩ := ho4.form (by omega)
                exact ⟨_, e⟩
              subst hB4
              have hL4 := HL5.out.ins (k := k) hk hw4 (v := (X, p, q)) hx4 (by rw [hus]; exact ho4)
              have hwe := hw5.trans (hw4.mono hw5.size)
              clear ho4 hg4 hn4 ho3 hg3 hn3 hw3 hw2 ho2 hox hox0 hbx hw1 ho1 hg1 hn1
              go_wp2
              go_roundw
              case rel => exact ⟨k + 1, ad4, d4, _, _, by go_num, by omega, rfl, hL4, HPn.out, HSn.out, hwe⟩
              case measure => simp [intOf]; omega
    · obtain rfl : j = n := by omega
      have HE := Lib.hid (show L = srtR zss from srtR_unique (by have := HP.out; rwa [← hla.out, List.take_length] at this) HS.out)
      go_wp2
      go_ret
      exact ⟨_, _, _, rfl, by rw [← HE.out]; exact hL, hw⟩
theorem img_step {p z : List Int} {k : Nat} (h : k < z.length) : putG sgnI (imgR p (z.take k)) (nth p (nth z k).toNat) = imgR p (z.take (k + 1)) := by
  unfold imgR
  rw [List.take_succ_eq_append_getElem h, List.map_append, List.map_singleton, setG_snoc, nth_get h]
set_option maxRecDepth 100000 in
set_option maxHeartbeats 1000000 in
theorem l04Image_any (P : Option Addr) (pn pc : Nat) (p : List Int) (A : Option Addr) (n c : Nat) (z : List Int) (w : World) (hp : RI w P pn p) (ha : RI w A n z) (hb : ∀ x ∈ z, 0 ≤ x ∧ x < (pn : Int)) (hn : n ≤ 1048576) (hpn : pn ≤ 1048576) :
    Calls Tryz.prog 140 #[.slice P pn pc, .slice A n c] w (RetI w 2 (imgR p z)) := by
  have hla := Lib.hid ha.len
  have HB := Lib.hid hb
  clear hb
  have ho0 : OI (w.alloc (.cells #[] 2)) w.heap.size 2 (some ⟨w.heap.size, 0, none⟩) 0 0 (imgR p (z.take 0)) := OI.lit w w.heap.size 2 [] (Nat.le_refl _) (by simp) All64.nil_
  have hb0 := below_alloc w (.cells #[] 2)
  go_enter Tryz.func140, Tryz.ntmps140
  go_wp2
  go_loopw [5, 6] (fun t i wr => ∃ (k : Nat) (T : Option Addr) (m e : Nat), k ≤ n ∧ i = .int .i64 k ∧ t = .slice T m e ∧ m ≤ k ∧ OI wr w.heap.size 2 T m e (imgR p (z.take k)) ∧ Below w.heap.size w wr) (fun _ i _ => n - (intOf i).toNat)
  case atStart => exact ⟨0, _, _, _, Nat.zero_le _, rfl, rfl, Nat.le_refl _, ho0, hb0⟩
  case round =>
    clear ho0 hb0
    obtain ⟨k, T, m, e, hk, rfl, rfl, hm, ho, hw⟩ := hrel
    by_cases hlt : k < n
    · obtain ⟨a, rfl, hca, hia⟩ := (ha.keep hw).get hlt
      obtain ⟨x0, x1⟩ := HB.out (nth z k) (nth_mem (by rw [hla.out]; exact hlt))
      have hst := Lib.hid (img_step (p := p) (z := z) (k := k) (by rw [hla.out]; exact hlt))
      have hml := imgR_len p (z.take (k + 1))
      generalize hx : nth z k = x at *
      obtain ⟨y, rfl⟩ := Int.eq_ofNat_of_zero_le x0
      obtain ⟨a2, rfl, hcb, hib⟩ := (hp.keep hw).get (k := y) (by omega)
      have hput := l00Put_any T m e (imgR p (z.take k)) (nth p y) _ ho.reads (by omega) hib
      rw [Int.toNat_natCast] at hst
      have hml2 := Lib.hid hml
      clear hx hml
      go_wp2_with fail
      refine hput.mono ?_
      rintro e2 w3 ⟨A', m', c', rfl, ho3, hb3⟩
      have hw3 := hw.trans (hb3.mono hw.size)
      have hr3 := ho3.more hw.size
      rw [hst.out] at hr3
      have hm3 : m' ≤ k + 1 := by
        have h1 := hr3.len
        have h2 := hml2.out
        rw [List.length_take] at h2
        omega
      clear hput ho3 hb3
      go_wp2
      go_roundw
      case rel => exact ⟨k + 1, A', m', c', by omega, by go_num, rfl, hm3, hr3, hw3⟩
      case measure => simp [intOf]; omega
    · obtain rfl : k = n := by omega
      rw [List.take_of_length_le (by rw [hla.out]; exact Nat.le_refl _)] at ho
      go_wp2
      go_ret
      exact ⟨_, _, _, rfl, ho, hw⟩
theorem img_row {p : List Int} {bs : List (List Int)} {k : Nat} (h : k < bs.length) : (bs.map (imgR p)).take k ++ [imgR p (row bs k)] = (bs.map (imgR p)).take (k + 1) := by
  rw [List.take_succ_eq_append_getElem (by rw [List.length_map]; exact h), List.getElem_map, row_get h]
set_option maxRecDepth 100000 in
set_option maxHeartbeats 2000000 in
theorem l10Image_any (g : Nat) (v : Int) (A : Option Addr) (n c : Nat) (bs : List (List Int)) (P : Option Addr) (pn pc : Nat) (p : List Int) (w : World) (hB : Blk w g 56 #[.int .i64 v, .slice A n c]) (ha : RR w A n bs) (hp : RI w P pn p) (hb : ∀ k, k < n → ∀ x ∈ row bs k, 0 ≤ x ∧ x < (pn : Int)) (hr : ∀ k, k < n → (row bs k).length ≤ 1048576) (hn : n ≤ 1048576) (hpn : pn ≤ 1048576) :
    Calls Tryz.prog 79 #[.pointer (some ⟨g, 0, none⟩), .slice P pn pc] w (fun e w' => ∃ A' c' vs, e = .returned (.agg #[.int .i64 v, .slice A' n c']) ∧ OB w' w.heap.size A' n c' vs (srtR (bs.map (imgR p))) ∧ Below w.heap.size w w') := by
  have hla := Lib.hid ha.len
  have HB := Lib.hid hb
  have HR := Lib.hid hr
  clear hb hr
  have hb1 := below_alloc w (.cells #[.int .i64 0, .slice none 0 0] 56)
  have Y1 := Blk.new w 56 #[.int .i64 0, .slice none 0 0]
  have X1 := hB.alloc (.cells #[.int .i64 0, .slice none 0 0] 56)
  have hgl := hB.lt
  generalize hW1 : w.alloc (.cells #[.int .i64 0, .slice none 0 0] 56) = W1 at *
  have hal := below_alloc W1 (.cells #[] 22)
  have ho0 : OR (W1.alloc (.cells #[] 22)) W1.heap.size 22 2 (some ⟨W1.heap.size, 0, none⟩) 0 0 ((bs.map (imgR p)).take 0) := OR.of_own (OS.lit W1 W1.heap.size 22 1 0 #[] (Nat.le_refl _) rfl (by omega)) (by decide)
  go_enter Tryz.func79, Tryz.ntmps79
  go_wp2
  go_loopw [5, 6] (fun t i wr => ∃ (k : Nat) (T : Option Addr) (e : Nat), k ≤ n ∧ i = .int .i64 k ∧ t = .slice T k e ∧ OR wr W1.heap.size 22 2 T k e ((bs.map (imgR p)).take k) ∧ Below W1.heap.size W1 wr) (fun _ i _ => n - (intOf i).toNat)
  case atStart => exact ⟨0, _, _, Nat.zero_le _, rfl, rfl, ho0, hal⟩
  case round =>
    clear ho0 hal
    obtain ⟨k, T, e, hk, rfl, rfl, ho, hw⟩ := hrel
    have X2 := X1.after hw
    obtain ⟨x0, x1⟩ := X2.cells2
    have hww := hb1.trans (hw.mono hb1.size)
    by_cases hlt : k < n
    · obtain ⟨a, A1, n1, c1, rfl, hca, hn1, hc1, hri⟩ := (ha.keep hww).get hlt
      have hlen : n1 ≤ 1048576 := by have := HR.out k hlt; rw [hri.len] at this; exact this
      have himg := l04Image_any P pn pc p A1 n1 c1 _ wr (hp.keep hww) hri (HB.out k hlt) hlen hpn
      have hst := Lib.hid (img_row (p := p) (k := k) (bs := bs) (by rw [hla.out]; exact hlt))
      go_wp2_with fail
      refine himg.mono ?_
      rintro e2 w2 ⟨A2, n2, c2, rfl, ho2, hb2⟩
      have hw2 := hw.trans (hb2.mono hw.size)
      obtain ⟨vs, hov⟩ := ho
      have hap := hov.apart_new (v := (A2, n2, c2)) (fun b hb => (ho2.os.lt hb).1)
      have ho1 := hov.below hb2
      have hr2 := ho2.more hw.size
      clear himg hov ho2 hb2 hca hri x0 x1 X2 hww hw
      go_wp2_with (at_builtin; refine app_sl _ rfl _ _ rfl W1.heap.size T k e vs rfl ho1.os (A2, n2, c2) _ rfl (by simp) (by omega) hw2.size ?_; intro A3 c3 w3 ho3 hg3 hn3)
      have hw3 := below_own hw2 hg3 hw2.size (fun b hb => (ho1.os.lt hb).1)
      have hi3 := ho1.push (v := (A2, n2, c2)) hr2 hap hg3 (by simpa [slv] using ho3)
      rw [hst.out] at hi3
      clear ho1 hr2 hap ho3 hg3 hn3 hw2
      go_roundw
      case rel => exact ⟨k + 1, A3, c3, by omega, by go_num, rfl, hi3, hw3⟩
      case measure => simp [intOf]; omega
    · obtain rfl : k = n := by omega
      rw [List.take_of_length_le (by rw [List.length_map, hla.out]; exact Nat.le_refl _)] at ho
      have hrr := ho.reads
      have hrl := Lib.hid (fun (i : Nat) (hi : i < k) => show (row (bs.map (imgR p)) i).length ≤ 1048576 from by
        rw [row_get (by rw [List.length_map, hla.out]; exact hi), List.getElem_map]
        have h1 := imgR_len p (bs[i]'(by rw [hla.out]; exact hi))
        have h2 := HR.out i hi
        rw [row_get (by rw [hla.out]; exact hi)] at h2
        omega)
      have HT := Lib.hid (fun (w' : World) (hb : Below wr.heap.size wr w') => l10Sort_any T k e _ w' (hrr.keep hb) hn hrl.out)
      have Y2 := Y1.after hw
      clear ho hrr
      go_wp2
      have hdr : Below wr.heap.size wr wr.drew := by have := below_drewn wr 1; rwa [← World.drew_is_drewN] at this
      refine region_lastC (P := Tryz.prog) (S := fun w' => w'.cell? ⟨g, 0, none⟩ = some (.int .i64 v)) (by kernel_rfl) (by simp only [List.getLast?_cons_cons, List.getLast?_singleton]; rfl) (by dsimp only [List.dropLast]) (by kernel_rfl) (by simpa using x0) ?_
      intro hS
      refine wpAnyH_take (i := 0) (v := ?_) rfl (by kernel_rfl) (by kernel_rfl) (by kernel_rfl) (fun _ _ _ h => h) (Or.inl ⟨by rfl, ?_⟩) (by assumption) ?_
      rotate_left
      · (intro w hSw; (try dsimp only at hSw); go_simp; (try with_reducible rfl))
      simp only [Act.put, List.setIfInBounds_toArray, List.set_cons_zero, List.set_cons_succ]
      refine wpAnyH_take (i := 1) (v := ?_) rfl (by kernel_rfl) (by kernel_rfl) (by kernel_rfl) (fun _ _ _ h => h) (Or.inl ⟨by rfl, ?_⟩) (by assumption) ?_
      rotate_left
      · (intro w hSw; (try dsimp only at hSw); go_simp; (try with_reducible rfl))
      simp only [Act.put, List.setIfInBounds_toArray, List.set_cons_zero, List.set_cons_succ]
      refine wpAnyH_take (i := 2) (v := ?_) rfl (by kernel_rfl) (by kernel_rfl) (by kernel_rfl) (fun _ _ _ h => h) (Or.inl ⟨by rfl, ?_⟩) (by assumption) ?_
      rotate_left
      · (intro w hSw; (try dsimp only at hSw); go_simp; (try with_reducible rfl))
      simp only [Act.put, List.setIfInBounds_toArray, List.set_cons_zero, List.set_cons_succ]
      refine wpAnyH_take (i := 3) (v := ?_) rfl (by kernel_rfl) (by kernel_rfl) (by kernel_rfl) (fun _ _ _ h => h) (Or.inl ⟨by rfl, ?_⟩) (by assumption) ?_
      rotate_left
      · (intro w hSw; (try dsimp only at hSw); go_simp; (try with_reducible rfl))
      simp only [Act.put, List.setIfInBounds_toArray, List.set_cons_zero, List.set_cons_succ]
      refine wpAnyH_take (i := 4) (v := ?_) rfl (by kernel_rfl) (by kernel_rfl) (by kernel_rfl) (fun _ _ _ h => h) (Or.inl ⟨by rfl, ?_⟩) (by assumption) ?_
      rotate_left
      · (intro w hSw; (try dsimp only at hSw); go_simp; (try with_reducible rfl))
      simp only [Act.put, List.setIfInBounds_toArray, List.set_cons_zero, List.set_cons_succ]
      refine wpAnyH_ready (rs := [5]) (by kernel_rfl) (by simp) ?_
      refine AllReadyH.cons rfl (fun K hK => ?_) AllReadyH.nil
      go_simp
      refine (HT.out _ hdr).mono ?_
      rintro e2 w5 ⟨A5, k5, v5, rfl, ho5, hb5⟩
      dsimp only
      have hb5' := hdr.trans (hb5.mono hdr.size)
      refine hK.out _ _ (below_cell hb5' x0) (fun hS1 => ?_)
      clear hK K hS
      refine wpAnyH_take (i := 6) (v := ?_) rfl (by kernel_rfl) (by kernel_rfl) (by kernel_rfl) (fun _ _ _ h => h) (Or.inl ⟨by rfl, ?_⟩) (by assumption) ?_
      rotate_left
      · (intro w hSw; (try dsimp only at hSw); go_simp; (try with_reducible rfl))
      simp only [Act.put, List.setIfInBounds_toArray, List.set_cons_zero, List.set_cons_succ]
      refine wpAnyH_done (by kernel_rfl) ?_ _
      dsimp only [atEnd]
      have Y5 := Y2.after hb5'
      obtain ⟨y0, y1⟩ := Y5.cells2
      have hw5 := hww.trans (hb5'.mono hww.size)
      have f0 := Y5.frozen 0
      have f1 := Y5.frozen 1
      have YF := (Y5.set_ 0 (.int .i64 v)).set_ 1 (.slice A5 k k5)
      obtain ⟨z0, z1'⟩ : ((w5.setCell ⟨w.heap.size, 0, none⟩ (.int .i64 v)).setCell ⟨w.heap.size, 1, none⟩ (.slice A5 k k5)).cell? ⟨w.heap.size, 0, none⟩ = some (.int .i64 v) ∧ ((w5.setCell ⟨w.heap.size, 0, none⟩ (.int .i64 v)).setCell ⟨w.heap.size, 1, none⟩ (.slice A5 k k5)).cell? ⟨w.heap.size, 1, none⟩ = some (.slice A5 k k5) := ⟨YF.cell 0, YF.cell 1⟩
      go_wp2
      refine bodyPost_ret (v := .agg #[.int .i64 v, .slice A5 k k5]) (by simp [results, Tryz.results79, go_sem, z0, z1']) rfl ?_
      refine ⟨A5, k5, v5, rfl, ?_, (hw5.setCell (p := ⟨w.heap.size, 0, none⟩) (by simp) _).setCell (p := ⟨w.heap.size, 1, none⟩) (by simp) _⟩
      have hlt := Y2.lt
      have hlt' : w.heap.size < wr.drew.heap.size := by simpa using hlt
      exact ((ho5.setLow (p := ⟨w.heap.size, 0, none⟩) hlt' _).setLow (p := ⟨w.heap.size, 1, none⟩) hlt' _).more (Nat.le_of_lt hlt')
end Go.Proofs.YtdkbcjdimhgmnaaGreat
