/- Plain law: sets of points with other names of points have an isomorphic graph. No condition beyond those stated. -/
import Derived.Test.YtdkbcjdimhgmnaaGreatRIE
import Derived.Test.YtdkbcjdimhgmnaaGreatRLB
import Derived.Test.YtdkbcjdimhgmnaaGreatRLA
import Derived.Test.YtdkbcjdimhgmnaaGreatRHS
set_option linter.unusedVariables false
set_option linter.unusedSimpArgs false
namespace Go.Proofs.YtdkbcjdimhgmnaaGreat
open Go.RowKit
theorem dsC_nthE {v m j : Nat} (h : j < v + m) : nth (dsC v m) j = if j < v then 0 else 1 := by
  rw [nth_get (by rw [dsC_len]; exact h)]
  unfold dsC
  rw [List.getElem_append]
  simp only [List.length_replicate, List.getElem_replicate]
  split <;> rfl
theorem nth_zero_cons (x : Int) (l : List Int) : nth (x :: l) 0 = x := rfl
theorem nth_succ_cons (x : Int) (l : List Int) (k : Nat) : nth (x :: l) (k + 1) = nth l k := by simp [nth]
theorem row_succ_cons (x : List Int) (l : List (List Int)) (k : Nat) : row (x :: l) (k + 1) = row l k := by simp [row]
theorem nth_mapS {l : List Int} {f : Int → Int} {k : Nat} (h : k < l.length) : nth (l.map f) k = f (nth l k) := by
  rw [nth_get (by simpa using h), nth_get h, List.getElem_map]
theorem perm_places {l m : List (List Int)} (h : l.Perm m) : ∃ s : List Int, Perm s ∧ s.length = l.length ∧ ∀ i, i < l.length → row m (nth s i).toNat = row l i := by
  induction h with
  | nil => exact ⟨[], ⟨fun k hk => absurd hk (by simp), fun i j _ hj => absurd hj (by simp)⟩, rfl, fun i hi => absurd hi (by simp)⟩
  | @cons x l m h ih =>
    obtain ⟨s, hs, hl, hr⟩ := ih
    refine ⟨0 :: s.map (· + 1), perm_of (n := l.length + 1) (by simp [hl]) (fun v hv => ?_) (fun u v hu hv e => ?_), by simp [hl], fun i hi => ?_⟩
    · cases v with
      | zero => rw [nth_zero_cons]; omega
      | succ v =>
        rw [nth_succ_cons, nth_mapS (by omega)]
        have := hs.bd v (by omega)
        omega
    · cases u with
      | zero =>
        cases v with
        | zero => rfl
        | succ v =>
          rw [nth_zero_cons, nth_succ_cons, nth_mapS (by omega)] at e
          have := hs.bd v (by omega)
          omega
      | succ u =>
        cases v with
        | zero =>
          rw [nth_zero_cons, nth_succ_cons, nth_mapS (by omega)] at e
          have := hs.bd u (by omega)
          omega
        | succ v =>
          rw [nth_succ_cons, nth_succ_cons, nth_mapS (by omega), nth_mapS (by omega)] at e
          have := perm_inj hs (i := u) (j := v) (by omega) (by omega) (by omega)
          omega
    · cases i with
      | zero => rfl
      | succ i =>
        simp only [List.length_cons] at hi
        rw [nth_succ_cons, nth_mapS (by omega), row_succ_cons, ← hr i (by omega)]
        have := hs.bd i (by omega)
        rw [show (nth s i + 1).toNat = (nth s i).toNat + 1 by omega, row_succ_cons]
  | @swap x y l =>
    refine ⟨1 :: 0 :: (iotaP l.length).map (· + 2), perm_of (n := l.length + 2) (by simp [iotaP_len]) (fun v hv => ?_) (fun u v hu hv e => ?_), by simp [iotaP_len], fun i hi => ?_⟩
    · rcases v with _ | _ | v
      · rw [nth_zero_cons]; omega
      · rw [nth_succ_cons, nth_zero_cons]; omega
      · rw [nth_succ_cons, nth_succ_cons, nth_mapS (by rw [iotaP_len]; omega), iotaP_nth (by omega)]; omega
    · rcases u with _ | _ | u <;> rcases v with _ | _ | v <;> simp only [nth_zero_cons, nth_succ_cons] at e <;> first | rfl | (rw [nth_mapS (by rw [iotaP_len]; omega), iotaP_nth (by omega)] at e; omega) | skip
      · omega
      · omega
      · rw [nth_mapS (by rw [iotaP_len]; omega), iotaP_nth (by omega), nth_mapS (by rw [iotaP_len]; omega), iotaP_nth (by omega)] at e
        omega
    · rcases i with _ | _ | i
      · rfl
      · rfl
      · simp only [List.length_cons] at hi
        rw [nth_succ_cons, nth_succ_cons, nth_mapS (by rw [iotaP_len]; omega), iotaP_nth (by omega)]
        rw [show ((i : Int) + 2).toNat = i + 1 + 1 by omega]
        rfl
  | @trans a b c h1 h2 i1 i2 =>
    obtain ⟨s, hs, hl, hr⟩ := i1
    obtain ⟨t, ht, hm, hq⟩ := i2
    have hlen := h1.length_eq
    refine ⟨thenP s t, thenP_perm hs ht (by omega), by rw [thenP_len, hl], fun i hi => ?_⟩
    have b := perm_lt hs (v := i) (by omega)
    rw [thenP_nth (by omega), hq _ (by omega), hr i hi]
theorem imgR_has {V : Nat} {a z : List Int} (ha : PermN V a) (hz : ∀ x ∈ z, 0 ≤ x ∧ x < (V : Int)) {x : Nat} (hx : x < V) : nth a x ∈ imgR a z ↔ (x : Int) ∈ z := by
  rw [imgR_mem]
  constructor
  · rintro ⟨y, hy, e⟩
    have := hz y hy
    have := perm_inj ha.2 (by rw [ha.1]; omega) (by rw [ha.1]; omega) e
    rw [show (x : Int) = y by omega]
    exact hy
  · intro h
    exact ⟨x, h, by simp⟩
/-! the graph of the image -/
theorem nb_ds {V : Nat} {bs : List (List Int)} {x y : Nat} : nbB (dsE V bs V) x y = true ↔ (x < V ∧ V ≤ y ∧ y < V + bs.length ∧ (x : Int) ∈ row bs (y - V)) ∨ (y < V ∧ V ≤ x ∧ x < V + bs.length ∧ (y : Int) ∈ row bs (x - V)) := by
  unfold nbB
  rw [List.any_eq_true]
  constructor
  · rintro ⟨e, he, hn⟩
    obtain ⟨u, i, hu, hi, hin, rfl⟩ := (dsE_mem e).1 he
    simp only [Bool.or_eq_true, Bool.and_eq_true, beq_iff_eq] at hn
    rcases hn with ⟨h1, h2⟩ | ⟨h1, h2⟩
    · obtain rfl : u = x := by omega
      obtain rfl : y = V + i := by omega
      exact .inl ⟨hu, by omega, by omega, by rw [show V + i - V = i by omega]; exact hin⟩
    · obtain rfl : u = y := by omega
      obtain rfl : x = V + i := by omega
      exact .inr ⟨hu, by omega, by omega, by rw [show V + i - V = i by omega]; exact hin⟩
  · rintro (⟨h1, h2, h3, h4⟩ | ⟨h1, h2, h3, h4⟩)
    · exact ⟨_, (dsE_mem _).2 ⟨x, y - V, h1, by omega, h4, rfl⟩, by simp; left; omega⟩
    · exact ⟨_, (dsE_mem _).2 ⟨y, x - V, h1, by omega, h4, rfl⟩, by simp; right; omega⟩
def extP (V : Nat) (a s : List Int) : List Int := a ++ s.map (· + (V : Int))
theorem extP_low {V : Nat} {a s : List Int} (ha : a.length = V) {x : Nat} (hx : x < V) : nth (extP V a s) x = nth a x := by
  rw [nth_get (by simp [extP]; omega), nth_get (by omega)]
  unfold extP
  rw [List.getElem_append_left (by omega)]
theorem extP_high {V : Nat} {a s : List Int} (ha : a.length = V) {i : Nat} (hi : i < s.length) : nth (extP V a s) (V + i) = nth s i + V := by
  rw [nth_get (by simp [extP]; omega), nth_get hi]
  unfold extP
  rw [List.getElem_append_right (by omega), List.getElem_map]
  simp [ha]
theorem ext_iso {V : Nat} {a : List Int} {bs es : List (List Int)} (h : ∀ z ∈ bs, ∀ x ∈ z, 0 ≤ x ∧ x < (V : Int)) (ha : PermN V a) (hp : es.Perm (bs.map (imgR a))) :
    ∃ q, Iso (V + bs.length) (dsE V bs V) (dsE V es V) q ∧ dsC V bs.length = thenP q (dsC V bs.length) ∧ q.take V = a := by
  obtain ⟨s, hs, hl, hr⟩ := perm_places hp.symm
  have hle : es.length = bs.length := by rw [hp.length_eq, List.length_map]
  rw [List.length_map] at hl hr
  have low : ∀ {x}, x < V → nth (extP V a s) x = nth a x ∧ 0 ≤ nth a x ∧ nth a x < (V : Int) := fun {x} hx => by
    have := ha.2.bd x (by rw [ha.1]; exact hx)
    rw [ha.1] at this
    exact ⟨extP_low ha.1 hx, this⟩
  have high : ∀ {i}, i < bs.length → nth (extP V a s) (V + i) = nth s i + V ∧ 0 ≤ nth s i ∧ nth s i < (bs.length : Int) := fun {i} hi => by
    have := hs.bd i (by omega)
    rw [hl] at this
    exact ⟨extP_high ha.1 (by omega), this⟩
  have hlen : (extP V a s).length = V + bs.length := by simp [extP, ha.1, hl]
  have hP : Perm (extP V a s) := by
    refine perm_of hlen (fun v hv => ?_) (fun u v hu hv e => ?_)
    · rcases Nat.lt_or_ge v V with h1 | h1
      · have := low h1; omega
      · have := high (i := v - V) (by omega)
        rw [show V + (v - V) = v by omega] at this
        omega
    · rcases Nat.lt_or_ge u V with h1 | h1 <;> rcases Nat.lt_or_ge v V with h2 | h2
      · have a1 := low h1; have a2 := low h2
        exact perm_inj ha.2 (by rw [ha.1]; exact h1) (by rw [ha.1]; exact h2) (by omega)
      · have a1 := low h1
        have a2 := high (i := v - V) (by omega)
        rw [show V + (v - V) = v by omega] at a2
        omega
      · have a1 := low h2
        have a2 := high (i := u - V) (by omega)
        rw [show V + (u - V) = u by omega] at a2
        omega
      · have a1 := high (i := u - V) (by omega)
        have a2 := high (i := v - V) (by omega)
        rw [show V + (u - V) = u by omega] at a1
        rw [show V + (v - V) = v by omega] at a2
        have := perm_inj hs (i := u - V) (j := v - V) (by omega) (by omega) (by omega)
        omega
  have key : ∀ {x i : Nat}, x < V → i < bs.length → (nth a x ∈ row es (nth s i).toNat ↔ (x : Int) ∈ row bs i) := fun {x i} hx hi => by
    rw [hr i hi, row_get (by simpa using hi), List.getElem_map, imgR_has ha (h _ (List.getElem_mem _)) hx, row_get hi]
  have cross : ∀ {x y : Nat}, x < V → V ≤ y → y < V + bs.length → (nbB (dsE V es V) (nth (extP V a s) x).toNat (nth (extP V a s) y).toNat = true ↔ nbB (dsE V bs V) x y = true) := fun {x y} hx hy hy2 => by
    have a1 := low hx
    have a2 := high (i := y - V) (by omega)
    rw [show V + (y - V) = y by omega] at a2
    rw [nb_ds, nb_ds, a1.1, a2.1, ← key hx (show y - V < bs.length by omega)]
    rw [show (nth s (y - V) + V).toNat - V = (nth s (y - V)).toNat by omega, show (((nth a x).toNat : Nat) : Int) = nth a x by omega]
    constructor
    · rintro (⟨_, _, _, h4⟩ | ⟨h1, _⟩)
      · exact .inl ⟨hx, hy, hy2, h4⟩
      · omega
    · rintro (⟨_, _, _, h4⟩ | ⟨h1, _⟩)
      · exact .inl ⟨by omega, by omega, by omega, h4⟩
      · omega
  refine ⟨extP V a s, ⟨hP, hlen, fun x y hx hy => ?_⟩, ?_, ?_⟩
  · rw [Bool.eq_iff_iff]
    rcases Nat.lt_or_ge x V with h1 | h1 <;> rcases Nat.lt_or_ge y V with h2 | h2
    · have a1 := low h1; have a2 := low h2
      rw [nb_ds, nb_ds]
      omega
    · exact cross h1 h2 hy
    · rw [nbB_symm, nbB_symm (dsE V bs V)]
      exact cross h2 h1 hx
    · have a1 := high (i := x - V) (by omega)
      have a2 := high (i := y - V) (by omega)
      rw [show V + (x - V) = x by omega] at a1
      rw [show V + (y - V) = y by omega] at a2
      rw [nb_ds, nb_ds]
      omega
  · refine nth_ext (by rw [dsC_len, thenP_len, hlen]) fun x hx => ?_
    rw [dsC_len] at hx
    rw [thenP_nth (by omega), dsC_nthE hx]
    rcases Nat.lt_or_ge x V with h1 | h1
    · have a1 := low h1
      rw [dsC_nthE (by omega), if_pos h1, if_pos (by omega)]
    · have a1 := high (i := x - V) (by omega)
      rw [show V + (x - V) = x by omega] at a1
      rw [dsC_nthE (by omega), if_neg (by omega), if_neg (by omega)]
  · unfold extP
    rw [List.take_append_of_le_length (by rw [ha.1]; exact Nat.le_refl _), List.take_of_length_le (by rw [ha.1]; exact Nat.le_refl _)]
/-! images of sets -/
theorem imgR_then {V : Nat} {a b z : List Int} (ha : PermN V a) (hz : ∀ x ∈ z, 0 ≤ x ∧ x < (V : Int)) : imgR (thenP a b) z = imgR b (imgR a z) := by
  refine strict_unique sgnI_ord (setG_strict sgnI_ord _) (setG_strict sgnI_ord _) fun y => ?_
  rw [imgR_mem, imgR_mem]
  constructor
  · rintro ⟨x, hx, rfl⟩
    have := hz x hx
    exact ⟨nth a x.toNat, (imgR_mem _ _ _).2 ⟨x, hx, rfl⟩, by rw [thenP_nth (by rw [ha.1]; omega)]⟩
  · rintro ⟨u, hu, rfl⟩
    obtain ⟨x, hx, rfl⟩ := (imgR_mem _ _ _).1 hu
    have := hz x hx
    exact ⟨x, hx, by rw [thenP_nth (by rw [ha.1]; omega)]⟩
theorem imgR_bd {V : Nat} {a z : List Int} (ha : PermN V a) (hz : ∀ x ∈ z, 0 ≤ x ∧ x < (V : Int)) : ∀ y ∈ imgR a z, 0 ≤ y ∧ y < (V : Int) := fun y hy => by
  obtain ⟨x, hx, rfl⟩ := (imgR_mem _ _ _).1 hy
  have := hz x hx
  have := ha.2.bd x.toNat (by rw [ha.1]; omega)
  rw [ha.1] at this
  exact this
theorem strict_rises {z : List Int} {V : Nat} (h1 : z.Pairwise fun x y => x < y) (h2 : ∀ x ∈ z, 0 ≤ x ∧ x < (V : Int)) : Rises z 0 ((V : Int) - 1) := by
  refine ⟨fun k hk => ?_, fun k hk => ?_⟩
  · have := h2 _ (nth_mem hk)
    omega
  · rw [nth_get hk, nth_get (by omega)]
    exact List.pairwise_iff_getElem.1 h1 _ _ _ _ (Nat.lt_succ_self k)
theorem imgR_up (a z : List Int) : (imgR a z).Pairwise fun x y => x < y := (setG_strict sgnI_ord _).imp fun {x y} h => by rcases sgnI_cases x y with ⟨h1, e⟩ | ⟨h1, e⟩ | ⟨h1, e⟩ <;> omega
def imgD (a : List Int) (bs : List (List Int)) : List (List Int) := srtR (bs.map (imgR a))
theorem imgD_len (a : List Int) (bs : List (List Int)) : (imgD a bs).length = bs.length := by rw [imgD, srtR_len, List.length_map]
theorem imgD_perm (a : List Int) (bs : List (List Int)) : (imgD a bs).Perm (bs.map (imgR a)) := srtR_perm _
theorem ds_rows {V : Nat} {bs : List (List Int)} (h : Design (V : Int) bs) : ∀ z ∈ bs, ∀ x ∈ z, 0 ≤ x ∧ x < (V : Int) := fun z hz => by
  obtain ⟨i, hi, rfl⟩ := List.mem_iff_getElem.1 hz
  rw [← row_get hi]
  exact (ds_block h hi).2
theorem imgD_design {V : Nat} {a : List Int} {bs : List (List Int)} (h : Design (V : Int) bs) (ha : PermN V a) : Design (V : Int) (imgD a bs) := by
  refine ⟨h.v1, h.v2, by rw [imgD_len]; exact h.len, fun i hi => ?_, fun i hi => ?_⟩
  · have hm : row (imgD a bs) i ∈ imgD a bs := by rw [row_get hi]; exact List.getElem_mem _
    obtain ⟨z, hz, e⟩ := List.mem_map.1 ((imgD_perm a bs).mem_iff.1 hm)
    rw [← e]
    obtain ⟨j, hj, rfl⟩ := List.mem_iff_getElem.1 hz
    have hb := (h.blk j hj).1
    rw [row_get hj] at hb
    exact ⟨imgR_ne hb, strict_rises (imgR_up _ _) (imgR_bd ha (ds_rows h _ hz))⟩
  · rw [row_get (by omega), row_get hi]
    exact List.pairwise_iff_getElem.1 (srtR_sorted _) _ _ _ _ (Nat.lt_succ_self i)
theorem imgD_then {V : Nat} {a b : List Int} {bs : List (List Int)} (h : Design (V : Int) bs) (ha : PermN V a) : imgD (thenP a b) bs = imgD b (imgD a bs) := by
  refine srtR_unique ?_ (srtR_sorted _)
  have e : bs.map (imgR (thenP a b)) = (bs.map (imgR a)).map (imgR b) := by
    rw [List.map_map]
    exact List.map_congr_left fun z hz => imgR_then ha (ds_rows h z hz)
  refine (imgD_perm _ _).trans ?_
  rw [e]
  exact ((imgD_perm a bs).symm).map _
theorem imgD_one {V : Nat} {bs : List (List Int)} (h : Design (V : Int) bs) : imgD (iotaP V) bs = bs := by
  have e : bs.map (imgR (iotaP V)) = bs := by
    conv => rhs; rw [← List.map_id bs]
    refine List.map_congr_left fun b hb => ?_
    obtain ⟨i, hi, rfl⟩ := List.mem_iff_getElem.1 hb
    obtain ⟨h1, h2⟩ := ds_block h hi
    rw [row_get hi] at h1 h2
    exact imgR_iota h1 h2
  rw [imgD, e]
  exact (srtR_unique (List.Perm.refl _) (design_sorted h)).symm
theorem b400 : inB 400 1 20000 = true := by decide
section
variable {V : Nat} {a : List Int} {bs : List (List Int)} {b : Int}
theorem dK_few (h : Design (V : Int) bs) (hm : bs.length ≤ 13) (hb : inB b 1 20000 = true) : dK (V : Int) bs b = codeP (dsC V bs.length) (dsE V bs V) b := by
  obtain ⟨h1, h2, h3⟩ := dg_few h hm
  rw [dK_ok h hb h1, h2, h3]
theorem few_graph (h : Design (V : Int) bs) (hm : bs.length ≤ 13) : GraphOk (dsC V bs.length) (dsE V bs V) := by
  obtain ⟨h1, h2⟩ := design_few h hm
  exact ds_graphOk h1 h2
theorem dK_two (h : Design (V : Int) bs) (hm : bs.length ≤ 13) (hb : inB b 1 20000 = true) : dK (V : Int) bs b = 0 ∨ dK (V : Int) bs b = 5 := by
  rw [dK_few h hm hb]
  exact codeP_two (few_graph h hm) hb
theorem codeP_spent {cs : List Int} {es : List Ed} (h : GraphOk cs es) (hb : inB b 1 20000 = true) : codeP cs es b = if (runP cs es b.toNat).spent then 5 else 0 := by
  unfold codeP
  rw [tB_yes h, hb]
  rfl
theorem img_code (h : Design (V : Int) bs) (hm : bs.length ≤ 13) (hb : inB b 1 20000 = true) (ha : PermN V a) : dK (V : Int) (imgD a bs) b = dK (V : Int) bs b := by
  have h2 := imgD_design h ha
  have hl := imgD_len a bs
  obtain ⟨q, hi, hc, -⟩ := ext_iso (ds_rows h) ha (imgD_perm a bs)
  rw [dK_few h hm hb, dK_few h2 (by omega) hb, codeP_spent (few_graph h hm) hb, codeP_spent (few_graph h2 (by omega)) hb, hl, (iso_spent hi (dsC_len _ _) (dsC_len _ _) hc b.toNat).1]
theorem cd_form (h : Design (V : Int) bs) (hm : bs.length ≤ 13) (h0 : dK (V : Int) bs b = 0) :
    cdB (V : Int) bs b = srtR ((nearP (V + bs.length) (runP (dsC V bs.length) (dsE V bs V) b.toNat).fe).drop V) ∧ cdP (V : Int) bs b = (row (runP (dsC V bs.length) (dsE V bs V) b.toNat).best 0).take V ∧ PermN V (cdP (V : Int) bs b) := by
  obtain ⟨-, h2, h3⟩ := cd_ok h0
  obtain ⟨VV, hV, -, -, -, hcp⟩ := dK_zero h0
  obtain ⟨g1, g2, g3⟩ := dg_few h hm
  obtain rfl : VV = V := by omega
  rw [g2, g3] at hcp
  obtain ⟨hs, -, -⟩ := codeP_ok hcp
  simp only [Int.toNat_natCast, g2, g3] at h3
  have hq := row0_mem (runP_best hs)
  obtain ⟨hu, hp⟩ := run_cut (V := VV) (m := bs.length) (dsE VV bs VV) b.toNat _ hq
  refine ⟨?_, h3, ?_⟩
  · rw [h2, h3, ← cd_blocks h hp hu, (run_form' hs).2]
  · rw [h3]
    exact up_perm hu hp
theorem img_form (h : Design (V : Int) bs) (hm : bs.length ≤ 13) (h0 : dK (V : Int) bs b = 0) (ha : PermN V a) : cdB (V : Int) (imgD a bs) b = cdB (V : Int) bs b := by
  obtain ⟨VV, hV, -, hb, -, -⟩ := dK_zero h0
  have h2 := imgD_design h ha
  have hl := imgD_len a bs
  have k0 := img_code h hm hb ha
  rw [h0] at k0
  obtain ⟨q, hi, hc, -⟩ := ext_iso (ds_rows h) ha (imgD_perm a bs)
  have s1 := (codeP_ok ((dK_few h hm hb).symm.trans h0)).1
  have s2 := (codeP_ok ((dK_few h2 (by omega) hb).symm.trans k0)).1
  have e := (iso_same hi (dsC_len _ _) (dsC_len _ _) (dsE_ok (bs := bs)) (by have := dsE_ok (v := V) (bs := imgD a bs); rwa [hl] at this) hc s1 (by rw [hl] at s2; exact s2)).2
  rw [(cd_form h hm h0).1, (cd_form h2 (by omega) k0).1, hl, e]
theorem dsg_few {ds : List (List Int)} (h : Design (V : Int) bs) (hm : bs.length ≤ 13) (k : Design (V : Int) ds) (hn : ds.length ≤ 13) (hb : inB b 1 20000 = true) :
    dsgK (V : Int) bs (V : Int) ds b = code2P (dsC V bs.length) (dsE V bs V) (dsC V ds.length) (dsE V ds V) b ∧ dsgR (V : Int) bs (V : Int) ds b = isoP (dsC V bs.length) (dsE V bs V) (dsC V ds.length) (dsE V ds V) b := by
  obtain ⟨g1, g2, g3⟩ := dg_few h hm
  obtain ⟨k1, k2, k3⟩ := dg_few k hn
  constructor
  · rw [dsgK, tB_yes h, tB_yes k, hb]
    simp [samC, g1, g2, g3, k1, k2, k3]
  · rw [dsgR, tB_yes h, tB_yes k, hb]
    simp [samB, g1, g2, g3, k1, k2, k3]
theorem img_iso (h : Design (V : Int) bs) (hm : bs.length ≤ 13) (h0 : dK (V : Int) bs b = 0) (ha : PermN V a) : dsgK (V : Int) bs (V : Int) (imgD a bs) b = 0 ∧ dsgR (V : Int) bs (V : Int) (imgD a bs) b = true := by
  obtain ⟨VV, hV, -, hb, -, -⟩ := dK_zero h0
  have h2 := imgD_design h ha
  have hl := imgD_len a bs
  have k0 := img_code h hm hb ha
  rw [h0, dK_few h2 (by omega) hb] at k0
  rw [dK_few h hm hb] at h0
  obtain ⟨q, hi, hc, -⟩ := ext_iso (ds_rows h) ha (imgD_perm a bs)
  obtain ⟨e1, e2⟩ := dsg_few h hm h2 (by omega) hb
  have c0 : code2P (dsC V bs.length) (dsE V bs V) (dsC V (imgD a bs).length) (dsE V (imgD a bs) V) b = 0 := by rw [code2_eq (few_graph h hm) (few_graph h2 (by omega)) h0, k0]
  refine ⟨by rw [e1, c0], ?_⟩
  rw [e2]
  rw [hl] at c0 ⊢
  exact iso_done hi (dsC_len _ _) (dsC_len _ _) hc c0
theorem less_iso {z : List Int} (h : Design (V : Int) (z :: bs)) (hm : (z :: bs).length ≤ 13) (hb : inB b 1 20000 = true) : Design (V : Int) bs ∧ (dsgK (V : Int) (z :: bs) (V : Int) bs b = 5 ∨ (dsgK (V : Int) (z :: bs) (V : Int) bs b = 0 ∧ dsgR (V : Int) (z :: bs) (V : Int) bs b = false)) := by
  have hm' := hm
  rw [List.length_cons] at hm'
  have k : Design (V : Int) bs := by
    refine ⟨h.v1, h.v2, by omega, fun i hi => ?_, fun i hi => ?_⟩
    · have := h.blk (i + 1) (by rw [List.length_cons]; omega)
      rwa [row_succ_cons] at this
    · have := h.ord (i + 1) (by rw [List.length_cons]; omega)
      rwa [row_succ_cons, row_succ_cons] at this
  refine ⟨k, ?_⟩
  obtain ⟨e1, e2⟩ := dsg_few h hm k (by omega) hb
  rw [e1, e2]
  have g1 := few_graph h hm
  have g2 := few_graph k (by omega)
  by_cases c1 : codeP (dsC V (z :: bs).length) (dsE V (z :: bs) V) b = 0
  · rcases codeP_two g2 hb with c2 | c2
    · have c0 := code2_eq g1 g2 c1
      rw [c2] at c0
      refine .inr ⟨c0, ?_⟩
      rw [isoP, if_pos c0]
      have s1 := (codeP_ok c1).1
      have s2 := (codeP_ok c2).1
      have f1 := (run_form' s1).1
      have f2 := (run_form' s2).1
      unfold sameP sameG
      rw [Bool.and_eq_false_iff]
      left
      rw [decide_eq_false_iff_not]
      intro e
      rw [f1, f2] at e
      have := congrArg List.length e
      rw [relC_len, relC_len, dsC_len, dsC_len, List.length_cons] at this
      omega
    · left; rw [code2_eq g1 g2 c1, c2]
  · left
    rw [code2_ne g1 g2 c1]
    rcases codeP_two g1 hb with c | c
    · exact absurd c c1
    · exact c
/-! the group -/
theorem aut_up {V m : Nat} {es : List Ed} {s : List Int} (h : Aut (dsC V m) es s) : UpL (dsC V m) s := by
  refine ⟨h.len, fun u v hu hv hlt => ?_⟩
  have c1 := h.col u hu
  have c2 := h.col v hv
  have b1 := perm_lt h.perm (v := u) (by rw [h.len]; exact hu)
  have b2 := perm_lt h.perm (v := v) (by rw [h.len]; exact hv)
  rw [h.len] at b1 b2
  rw [dsC_len] at hu hv b1 b2
  rw [dsC_nth hu, dsC_nth hv] at hlt
  rw [dsC_nth hu, dsC_nth b1.1] at c1
  rw [dsC_nth hv, dsC_nth b2.1] at c2
  have key : ∀ {x y : Nat}, (if x < V then (0 : Int) else 1) = (if y < V then 0 else 1) → (x < V ↔ y < V) := fun {x y} h => by
    by_cases a : x < V <;> by_cases b : y < V <;> simp [a, b] at h ⊢
  have k1 := key c1
  have k2 := key c2
  have k3 : u < V ∧ V ≤ v := by
    by_cases a : u < V <;> by_cases b : v < V
    · rw [if_pos a, if_pos b] at hlt; omega
    · omega
    · rw [if_neg a, if_pos b] at hlt; omega
    · rw [if_neg a, if_neg b] at hlt; omega
  clear key c1 c2 hlt
  omega
theorem gr_run (h : Design (V : Int) bs) (hm : bs.length ≤ 13) : grL (V : Int) bs b = setG cmpL (cutL V (runP (dsC V bs.length) (dsE V bs V) b.toNat).best) := by
  obtain ⟨g1, g2, g3⟩ := dg_few h hm
  simp only [grL, Int.toNat_natCast, g2, g3]
theorem gr_mem (h : Design (V : Int) bs) (hm : bs.length ≤ 13) (h0 : dK (V : Int) bs b = 0) (r : List Int) : r ∈ grL (V : Int) bs b ↔ PermN V r ∧ imgD r bs = bs := by
  obtain ⟨VV, hV, -, hb, -, -⟩ := dK_zero h0
  have hs := (codeP_ok ((dK_few h hm hb).symm.trans h0)).1
  have he : EdgesOk (dsC V bs.length).length (dsE V bs V) := by rw [dsC_len]; exact dsE_ok
  have hU := run_cut (V := V) (m := bs.length) (dsE V bs V) b.toNat
  have hpos : 0 < (runP (dsC V bs.length) (dsE V bs V) b.toNat).best.length := List.length_pos_iff.2 (runP_best hs)
  rw [gr_run h hm, setG_mem cmpL_ord, ← cutL_aut hpos hU, List.mem_map]
  have hA : ∀ s, s ∈ autL (runP (dsC V bs.length) (dsE V bs V) b.toNat).best ↔ Aut (dsC V bs.length) (dsE V bs V) s := autsP_mem he hs
  constructor
  · rintro ⟨s, hs', rfl⟩
    have h1 := (hA s).1 hs'
    have hu := aut_up h1
    refine ⟨up_perm hu h1.perm, ?_⟩
    have e := ((aut_iff he h1.perm h1.len).2 h1).2
    have e2 := cd_blocks h h1.perm hu
    rw [e, design_back h] at e2
    exact e2.symm
  · rintro ⟨hp, e⟩
    have hpp := imgD_perm r bs
    rw [e] at hpp
    obtain ⟨q, hi, hc, ht⟩ := ext_iso (ds_rows h) hp hpp
    refine ⟨q, (hA q).2 ⟨hi.perm, by rw [hi.len, dsC_len], fun v hv => ?_, fun x y hx hy => ?_⟩, ht⟩
    · rw [dsC_len] at hv
      conv => rhs; rw [hc]
      rw [thenP_nth (by rw [hi.len]; exact hv)]
    · rw [dsC_len] at hx hy
      exact hi.nb x y hx hy
theorem thenP_inv {n : Nat} {p : List Int} (hp : PermN n p) : thenP p (invP p) = iotaP n := by
  refine nth_ext (by rw [thenP_len, iotaP_len, hp.1]) fun k hk => ?_
  rw [thenP_len] at hk
  rw [thenP_nth hk, iotaP_nth (by rw [← hp.1]; exact hk)]
  exact invP_nth hp.2 hk
theorem PermN.inv {n : Nat} {p : List Int} (hp : PermN n p) : PermN n (invP p) := ⟨by rw [invP_len, hp.1], invP_perm hp.2⟩
theorem imgD_back (h : Design (V : Int) bs) (ha : PermN V a) : imgD (invP a) (imgD a bs) = bs := by
  rw [← imgD_then h ha, thenP_inv ha, imgD_one h]
theorem gr_le (h : Design (V : Int) bs) (hm : bs.length ≤ 13) (h0 : dK (V : Int) bs b = 0) (ha : PermN V a) : (grL (V : Int) bs b).length ≤ (grL (V : Int) (imgD a bs) b).length := by
  obtain ⟨VV, hV, -, hb, -, -⟩ := dK_zero h0
  have h2 := imgD_design h ha
  have hl := imgD_len a bs
  have k0 := img_code h hm hb ha
  rw [h0] at k0
  have hnd : (grL (V : Int) bs b).Nodup := strict_nodup cmpL_ord (by rw [gr_run h hm]; exact setG_strict cmpL_ord _)
  have hinj : ((grL (V : Int) bs b).map fun r => thenP (invP a) (thenP r a)).Nodup := by
    rw [List.Nodup, List.pairwise_map]
    refine List.Pairwise.imp_of_mem ?_ hnd
    intro r t hr ht hne e
    have hr := ((gr_mem h hm h0 r).1 hr).1
    have ht := ((gr_mem h hm h0 t).1 ht).1
    refine hne (nth_ext (by rw [hr.1, ht.1]) fun k hk => ?_)
    rw [hr.1] at hk
    have bk := perm_lt ha.2 (v := k) (by rw [ha.1]; exact hk)
    have key : ∀ {u}, PermN V u → nth (thenP (invP a) (thenP u a)) (nth a k).toNat = nth a (nth u k).toNat := fun {u} hu => by
      rw [thenP_nth (by rw [invP_len]; exact bk.1), invP_nth ha.2 (by rw [ha.1]; exact hk), Int.toNat_natCast, thenP_nth (by rw [hu.1]; exact hk)]
    have e2 := (key hr).symm.trans (((congrArg (fun l => nth l (nth a k).toNat) e)).trans (key ht))
    have b1 := perm_lt hr.2 (v := k) (by rw [hr.1]; exact hk)
    have b2 := perm_lt ht.2 (v := k) (by rw [ht.1]; exact hk)
    rw [hr.1] at b1
    rw [ht.1] at b2
    have := perm_inj ha.2 (by rw [ha.1]; exact b1.1) (by rw [ha.1]; exact b2.1) e2
    omega
  have := List.Nodup.length_le_of_subset (l₂ := grL (V : Int) (imgD a bs) b) hinj fun y hy => by
    obtain ⟨r, hr, rfl⟩ := List.mem_map.1 hy
    obtain ⟨h1, e1⟩ := (gr_mem h hm h0 r).1 hr
    refine (gr_mem h2 (by omega) k0 _).2 ⟨ha.inv.mul (h1.mul ha), ?_⟩
    rw [imgD_then h2 ha.inv, imgD_back h ha, imgD_then h h1, e1]
  rwa [List.length_map] at this
theorem gr_same (h : Design (V : Int) bs) (hm : bs.length ≤ 13) (h0 : dK (V : Int) bs b = 0) (ha : PermN V a) : (grL (V : Int) (imgD a bs) b).length = (grL (V : Int) bs b).length ∧ grK (V : Int) (imgD a bs) b = grK (V : Int) bs b := by
  obtain ⟨VV, hV, -, hb, -, -⟩ := dK_zero h0
  have h2 := imgD_design h ha
  have hl := imgD_len a bs
  have k0 := img_code h hm hb ha
  rw [h0] at k0
  have l1 := gr_le h hm h0 ha
  have l2 := gr_le h2 (by omega) k0 ha.inv
  rw [imgD_back h ha] at l2
  have e : (grL (V : Int) (imgD a bs) b).length = (grL (V : Int) bs b).length := by omega
  refine ⟨e, ?_⟩
  unfold grK
  rw [e, h0, k0]
theorem gr_group (h : Design (V : Int) bs) (hm : bs.length ≤ 13) (h0 : dK (V : Int) bs b = 0) (hl : ¬ 720 < (grL (V : Int) bs b).length) : GroupOk (V : Int) (grL (V : Int) bs b) := by
  have hP : AllN V (grL (V : Int) bs b) := fun r hr => ((gr_mem h hm h0 r).1 hr).1
  refine ⟨h.v1, h.v2, ?_, by omega, by rw [Int.toNat_natCast]; exact hP, by rw [gr_run h hm]; exact setG_strict cmpL_ord _, ?_⟩
  · exact List.length_pos_of_mem ((gr_mem h hm h0 (iotaP V)).2 ⟨PermN.one V, imgD_one h⟩)
  · rw [Int.toNat_natCast]
    intro x hx
    induction hx with
    | one => exact (gr_mem h hm h0 _).2 ⟨PermN.one V, imgD_one h⟩
    | @mul p g hp hg ih =>
      obtain ⟨h1, e1⟩ := (gr_mem h hm h0 _).1 ih
      obtain ⟨h2, e2⟩ := (gr_mem h hm h0 _).1 hg
      exact (gr_mem h hm h0 _).2 ⟨h1.mul h2, by rw [imgD_then h h1, e1, e2]⟩
end
end Go.Proofs.YtdkbcjdimhgmnaaGreat
