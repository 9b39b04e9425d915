/- Plain law: the graph of a design leads back to it. No condition beyond those stated. -/
import Derived.Test.YtdkbcjdimhgmnaaGreatRHV
import Derived.Test.YtdkbcjdimhgmnaaGreatRIK
set_option linter.unusedVariables false
set_option linter.unusedSimpArgs false
namespace Go.Proofs.YtdkbcjdimhgmnaaGreat
open Go.RowKit
theorem iota_up (v m : Nat) : UpL (dsC v m) (iotaP (v + m)) := by
  refine ⟨by rw [iotaP_len, dsC_len], fun a b ha hb h => ?_⟩
  rw [dsC_len] at ha hb
  rw [dsC_nth ha, dsC_nth hb] at h
  rw [iotaP_nth ha, iotaP_nth hb]
  split at h <;> split at h <;> omega
theorem imgR_iota {z : List Int} {n : Nat} (hs : z.Pairwise fun x y => x < y) (hb : ∀ x ∈ z, 0 ≤ x ∧ x < (n : Int)) : imgR (iotaP n) z = z := by
  refine strict_unique sgnI_ord (setG_strict sgnI_ord _) (hs.imp fun {a b} h => ?_) fun y => ?_
  · rcases sgnI_cases a b with ⟨h1, e⟩ | ⟨h1, e⟩ | ⟨h1, e⟩ <;> omega
  · rw [imgR_mem]
    constructor
    · rintro ⟨x, hx, rfl⟩
      have := hb x hx
      rw [iotaP_nth (by omega), Int.toNat_of_nonneg this.1]
      exact hx
    · intro hy
      have := hb y hy
      exact ⟨y, hy, by rw [iotaP_nth (by omega), Int.toNat_of_nonneg this.1]⟩
theorem design_sorted {v : Int} {bs : List (List Int)} (h : Design v bs) : SortedL cmpL bs := by
  refine List.pairwise_iff_getElem.2 fun a b ha hb hab => ?_
  have key : ∀ d i, i + d < bs.length → cmpL (row bs i) (row bs (i + d)) ≤ 0 := by
    intro d
    induction d with
    | zero => intro i hi; have := cmpL_ord.swap (row bs i) (row bs i); simp only [Nat.add_zero]; omega
    | succ d ih =>
      intro i hi
      exact cmpL_ord.trans (ih i (by omega)) (h.ord (i + d) (by omega))
  have := key (b - a) a (by omega)
  rwa [show a + (b - a) = b by omega, row_get ha, row_get hb] at this
theorem design_back {v : Nat} {bs : List (List Int)} (h : Design (v : Int) bs) : srtR ((nearP (v + bs.length) (dsE v bs v)).drop v) = bs := by
  have e := cd_blocks h (iotaP_perm (v + bs.length)) (iota_up v bs.length)
  rw [relE_iota dsE_ok] at e
  rw [e]
  have e2 : bs.map (imgR ((iotaP (v + bs.length)).take v)) = bs := by
    conv => rhs; rw [← List.map_id bs]
    refine List.map_congr_left fun b hb => ?_
    obtain ⟨i, hi, rfl⟩ := List.mem_iff_getElem.1 hb
    obtain ⟨h1, h2⟩ := ds_block h hi
    rw [row_get hi] at h1 h2
    rw [imgR_take h2]
    exact imgR_iota (n := v + bs.length) h1 fun x hx => by have := h2 x hx; omega
  rw [e2]
  exact (srtR_unique (List.Perm.refl _) (design_sorted h)).symm
theorem design_few {v : Nat} {bs : List (List Int)} (h : Design (v : Int) bs) (hb : bs.length ≤ 13) : v + bs.length ≤ 64 ∧ (dsE v bs v).length ≤ 512 := by
  have h2 := h.v2
  have := dsE_len v bs v
  have h3 : v * bs.length ≤ 32 * 13 := Nat.mul_le_mul (by omega) hb
  omega
theorem design_bip {v : Nat} {bs : List (List Int)} (h : Design (v : Int) bs) (hb : bs.length ≤ 13) : Bip v bs.length (dsE v bs v) := by
  obtain ⟨h1, h2⟩ := design_few h hb
  have := cd_bip h (ds_graphOk h1 h2) (iotaP_perm (v + bs.length)) (iota_up v bs.length)
  rwa [relE_iota dsE_ok] at this
theorem dg_few {v : Nat} {bs : List (List Int)} (h : Design (v : Int) bs) (hb : bs.length ≤ 13) : dgK v bs = 0 ∧ dgC v bs = dsC v bs.length ∧ dgE v bs = dsE v bs v := by
  obtain ⟨h1, h2⟩ := design_few h hb
  have hF : dsF v bs = false := by
    unfold dsF
    simp
    omega
  exact ⟨by rw [dgK, hF]; rfl, by rw [dgC, hF]; rfl, by rw [dgE, hF]; rfl⟩
section
variable {a : List (List Int)} {x z : Nat}
def swp (x z i : Nat) : Nat := if i = x then z else if i = z then x else i
theorem swp_x : swp x z x = z := by simp [swp]
theorem swp_z : swp x z z = x := by unfold swp; split <;> simp_all
theorem swp_swp (i : Nat) : swp x z (swp x z i) = i := by
  unfold swp
  by_cases h1 : i = x
  · subst h1; simp
  · by_cases h2 : i = z
    · subst h2; simp [h1]
    · simp [h1, h2]
theorem swp_lt {n i : Nat} (hx : x < n) (hz : z < n) (hi : i < n) : swp x z i < n := by unfold swp; split; exact hz; split; exact hx; exact hi
def swN (a : List (List Int)) (x z : Nat) (S : List Nat) (i c : Nat) : Int := if S.contains c then nth (row a (swp x z i)) c else nth (row a i) c
def swS (a : List (List Int)) (x z : Nat) (S : List Nat) : List (List Int) := (List.range a.length).map fun i => (List.range a.length).map fun c => swN a x z S i c
theorem swS_len (S : List Nat) : (swS a x z S).length = a.length := by simp [swS]
theorem swS_row {S : List Nat} {i : Nat} (hi : i < a.length) : row (swS a x z S) i = (List.range a.length).map fun c => swN a x z S i c := by
  rw [row_get (by rw [swS_len]; exact hi)]
  simp [swS]
theorem swS_rlen {S : List Nat} {i : Nat} (hi : i < a.length) : (row (swS a x z S) i).length = a.length := by rw [swS_row hi]; simp
theorem swS_nth {S : List Nat} {i c : Nat} (hi : i < a.length) (hc : c < a.length) : nth (row (swS a x z S) i) c = swN a x z S i c := by
  rw [swS_row hi, nth_get (by simpa using hc)]
  simp
theorem rows_ext {l m : List (List Int)} (hl : l.length = m.length) (h : ∀ k, k < l.length → row l k = row m k) : l = m := by
  refine List.ext_getElem hl fun k h1 h2 => ?_
  have := h k h1
  rwa [row_get h1, row_get h2] at this
theorem swS_nil (hs : Square a) : swS a x z [] = a := by
  refine rows_ext (swS_len _) fun i hi => ?_
  rw [swS_len] at hi
  refine nth_ext (by rw [swS_rlen hi, (hs.2.2.1 i hi).1]) fun c hc => ?_
  rw [swS_rlen hi] at hc
  rw [swS_nth hi hc]
  simp [swN]
theorem row_set {zss : List (List Int)} {i j : Nat} {r : List Int} (hj : j < zss.length) : row (zss.set i r) j = if i = j then r else row zss j := by
  by_cases e : i = j
  · subst e; rw [if_pos rfl]; exact row_eq (by simp [hj])
  · rw [if_neg e]; simp [row, List.getD, List.getElem?_set, e]
theorem swS_step {S : List Nat} {y : Nat} (hx : x < a.length) (hz : z < a.length) (hxz : x ≠ z) (hy : y < a.length) (hS : S.contains y = false) :
    ((swS a x z S).set x ((row (swS a x z S) x).set y (nth (row a z) y))).set z ((row ((swS a x z S).set x ((row (swS a x z S) x).set y (nth (row a z) y))) z).set y (nth (row a x) y)) = swS a x z (y :: S) := by
  refine rows_ext (by simp [swS_len]) fun i hi => ?_
  have hi' : i < a.length := by simpa [swS_len] using hi
  have hl := swS_len (a := a) (x := x) (z := z) S
  rw [row_set (by rw [List.length_set, hl]; exact hi')]
  have key : ∀ c, c < a.length → c ≠ y → swN a x z (y :: S) i c = swN a x z S i c := fun c _ hne => by
    unfold swN
    have : (y :: S).contains c = S.contains c := by simp [hne]
    rw [this]
  have keyy : swN a x z (y :: S) i y = nth (row a (swp x z i)) y := by unfold swN; simp
  by_cases e1 : z = i
  · subst e1
    rw [if_pos rfl, row_set (by rw [hl]; exact hi'), if_neg hxz]
    refine nth_ext (by rw [List.length_set, swS_rlen hi', swS_rlen hi']) fun c hc => ?_
    rw [List.length_set, swS_rlen hi'] at hc
    rw [nth_set (by rw [swS_rlen hi']; exact hc), swS_nth hi' hc, swS_nth hi' hc]
    by_cases e : y = c
    · subst e; rw [if_pos rfl, keyy, swp_z]
    · rw [if_neg e, key c hc (fun h => e h.symm)]
  · rw [if_neg e1, row_set (by rw [hl]; exact hi')]
    by_cases e2 : x = i
    · subst e2
      rw [if_pos rfl]
      refine nth_ext (by rw [List.length_set, swS_rlen hi', swS_rlen hi']) fun c hc => ?_
      rw [List.length_set, swS_rlen hi'] at hc
      rw [nth_set (by rw [swS_rlen hi']; exact hc), swS_nth hi' hc, swS_nth hi' hc]
      by_cases e : y = c
      · subst e; rw [if_pos rfl, keyy, swp_x]
      · rw [if_neg e, key c hc (fun h => e h.symm)]
    · rw [if_neg e2]
      refine nth_ext (by rw [swS_rlen hi', swS_rlen hi']) fun c hc => ?_
      rw [swS_rlen hi'] at hc
      rw [swS_nth hi' hc, swS_nth hi' hc]
      by_cases e : y = c
      · subst e
        rw [keyy]
        have hsw : swp x z i = i := by unfold swp; rw [if_neg (fun h => e2 h.symm), if_neg (fun h => e1 h.symm)]
        unfold swN
        rw [hsw]
        simp
      · rw [key c hc (fun h => e h.symm)]
structure Cyc (a : List (List Int)) (x z : Nat) (first : Int) (S : List Nat) (y : Nat) : Prop where
  yl : y < a.length
  ys : S.contains y = false
  nd : S.Nodup
  sl : ∀ c ∈ S, c < a.length
  nf : ∀ c, c < a.length → c ≠ y → swN a x z S x c ≠ first
  inj : ∀ c d, c < a.length → d < a.length → c ≠ y → d ≠ y → swN a x z S x c = swN a x z S x d → c = d
theorem Cyc.start (hs : Square a) (hx : x < a.length) {y : Nat} (hy : y < a.length) : Cyc a x z (nth (row a x) y) [] y := by
  have hr := hs.2.2.1 x hx
  have key : ∀ c d, c < a.length → d < a.length → nth (row a x) c = nth (row a x) d → c = d := fun c d hc hd e => perm_inj hr.2 (by rw [hr.1]; exact hc) (by rw [hr.1]; exact hd) e
  refine ⟨hy, rfl, by simp, fun _ h => absurd h (by simp), fun c hc hne e => hne ?_, fun c d hc hd _ _ e => ?_⟩
  · simp only [swN, List.contains_nil, Bool.false_eq_true, if_false] at e
    exact key _ _ hc hy e
  · simp only [swN, List.contains_nil, Bool.false_eq_true, if_false] at e
    exact key _ _ hc hd e
theorem Cyc.short {first : Int} {S : List Nat} {y : Nat} (h : Cyc a x z first S y) : S.length < a.length := by
  have hnd : (y :: S).Nodup := List.nodup_cons.2 ⟨fun hm => by have := h.ys; simp [hm] at this, h.nd⟩
  have := hnd.length_le_of_subset (l₂ := List.range a.length) (fun c hc => by
    rcases List.mem_cons.1 hc with rfl | hc
    · exact List.mem_range.2 h.yl
    · exact List.mem_range.2 (h.sl c hc))
  simp at this
  omega
theorem Cyc.at_y {first : Int} {S : List Nat} {y : Nat} (h : Cyc a x z first S y) (i : Nat) : swN a x z S i y = nth (row a i) y := by unfold swN; rw [h.ys]; rfl
theorem sq_inj (hs : Square a) {i c d : Nat} (hi : i < a.length) (hc : c < a.length) (hd : d < a.length) (e : nth (row a i) c = nth (row a i) d) : c = d := by
  have hr := hs.2.2.1 i hi
  exact perm_inj hr.2 (by rw [hr.1]; exact hc) (by rw [hr.1]; exact hd) e
theorem sq_col (hs : Square a) {i j c : Nat} (hi : i < a.length) (hj : j < a.length) (hc : c < a.length) (e : nth (row a i) c = nth (row a j) c) : i = j := by
  have hr := hs.2.2.2 c hc
  have : ∀ k, k < a.length → nth (a.map fun r => nth r c) k = nth (row a k) c := fun k hk => by
    rw [nth_get (by simpa using hk), row_get hk]; simp
  refine perm_inj hr (by simpa using hi) (by simpa using hj) ?_
  rw [this i hi, this j hj]
  exact e
theorem sq_bnd (hs : Square a) {i c : Nat} (hi : i < a.length) (hc : c < a.length) : 0 ≤ nth (row a i) c ∧ nth (row a i) c < a.length := by
  have hr := hs.2.2.1 i hi
  have := hr.2.bd c (by rw [hr.1]; exact hc)
  rwa [hr.1] at this
theorem swN_bnd (hs : Square a) (hx : x < a.length) (hz : z < a.length) {S : List Nat} {i c : Nat} (hi : i < a.length) (hc : c < a.length) : 0 ≤ swN a x z S i c ∧ swN a x z S i c < a.length := by
  unfold swN
  split
  · exact sq_bnd hs (swp_lt hx hz hi) hc
  · exact sq_bnd hs hi hc
theorem perm_tab {n : Nat} {f : Nat → Int} (hb : ∀ c, c < n → 0 ≤ f c ∧ f c < n) (hi : ∀ c d, c < n → d < n → f c = f d → c = d) : Perm ((List.range n).map f) := by
  have hn : ∀ c, c < n → nth ((List.range n).map f) c = f c := fun c hc => by rw [nth_get (by simpa using hc)]; simp
  refine perm_of (n := n) (by simp) (fun v hv => by rw [hn v hv]; exact hb v hv) (fun u v hu hv e => hi u v hu hv (by rwa [hn u hu, hn v hv] at e))
theorem Cyc.next (hs : Square a) (hx : x < a.length) (hz : z < a.length) (hxz : x ≠ z) {first : Int} (h0 : 0 ≤ first ∧ first < a.length) {S : List Nat} {y : Nat} (h : Cyc a x z first S y) (hd : nth (row a z) y ≠ first) :
    ∃ v, v < a.length ∧ v ≠ y ∧ swN a x z (y :: S) x v = nth (row a z) y ∧ (∀ i, i < a.length → i ≠ y → swN a x z (y :: S) x i = nth (row a z) y → i = v) ∧ Cyc a x z first (y :: S) v := by
  have key : ∀ c, c ≠ y → swN a x z (y :: S) x c = swN a x z S x c := fun c hne => by
    unfold swN
    have : (y :: S).contains c = S.contains c := by simp [hne]
    rw [this]
  have keyy : swN a x z (y :: S) x y = nth (row a z) y := by unfold swN; simp [swp_x]
  have hp : Perm ((List.range a.length).map fun c => if c = y then first else swN a x z S x c) := by
    refine perm_tab (fun c hc => ?_) (fun c d hc hdd e => ?_)
    · split
      · exact h0
      · exact swN_bnd hs hx hz hx hc
    · by_cases e1 : c = y
      · rw [if_pos e1] at e
        by_cases e2 : d = y
        · rw [e1, e2]
        · rw [if_neg e2] at e
          exact absurd e.symm (h.nf d hdd e2)
      · rw [if_neg e1] at e
        by_cases e2 : d = y
        · rw [if_pos e2] at e
          exact absurd e (h.nf c hc e1)
        · rw [if_neg e2] at e
          exact h.inj c d hc hdd e1 e2 e
  have hb := sq_bnd hs hz h.yl
  obtain ⟨u, hu⟩ := Int.eq_ofNat_of_zero_le hb.1
  obtain ⟨v, hv, hev⟩ := perm_surj hp (i := u) (by simp; omega)
  simp only [List.length_map, List.length_range] at hv
  rw [nth_get (by simpa using hv)] at hev
  simp only [List.getElem_map, List.getElem_range] at hev
  have hvy : v ≠ y := fun e => by
    rw [if_pos e] at hev
    exact hd (by rw [hu, hev])
  rw [if_neg hvy] at hev
  have huniq : ∀ i, i < a.length → i ≠ y → swN a x z (y :: S) x i = nth (row a z) y → i = v := fun i hi hne e => by
    rw [key i hne] at e
    exact h.inj i v hi hv hne hvy (by rw [e, hev, hu])
  have hval : swN a x z (y :: S) x v = nth (row a z) y := by rw [key v hvy, hev, hu]
  refine ⟨v, hv, hvy, hval, huniq, hv, ?_, ?_, ?_, ?_, ?_⟩
  · cases hc : (y :: S).contains v with
    | false => rfl
    | true =>
      have e : swN a x z (y :: S) x v = nth (row a z) v := by unfold swN; rw [hc, if_pos rfl, swp_x]
      rw [hval] at e
      exact absurd (sq_inj hs hz h.yl hv e).symm hvy
  · exact List.nodup_cons.2 ⟨fun hm => by have := h.ys; simp [hm] at this, h.nd⟩
  · intro c hc
    rcases List.mem_cons.1 hc with rfl | hc
    · exact h.yl
    · exact h.sl c hc
  · intro c hc hne
    by_cases e : c = y
    · subst e; rw [keyy]; exact hd
    · rw [key c e]; exact h.nf c hc e
  · intro c d hc hdd hne hne2 e
    by_cases e1 : c = y
    · by_cases e2 : d = y
      · rw [e1, e2]
      · rw [e1, keyy] at e
        exact absurd (huniq d hdd e2 e.symm) hne2
    · by_cases e2 : d = y
      · rw [e2, keyy] at e
        exact absurd (huniq c hc e1 e) hne
      · rw [key c e1, key d e2] at e
        exact h.inj c d hc hdd e1 e2 e
theorem Cyc.closed (hs : Square a) (hx : x < a.length) (hz : z < a.length) (hxz : x ≠ z) {first : Int} {S : List Nat} {y : Nat} (h : Cyc a x z first S y) (hd : nth (row a z) y = first) : Square (swS a x z (y :: S)) := by
  have key : ∀ i c, c ≠ y → swN a x z (y :: S) i c = swN a x z S i c := fun i c hne => by
    unfold swN
    have : (y :: S).contains c = S.contains c := by simp [hne]
    rw [this]
  have keyy : swN a x z (y :: S) x y = nth (row a z) y := by unfold swN; simp [swp_x]
  have injx : ∀ c d, c < a.length → d < a.length → swN a x z (y :: S) x c = swN a x z (y :: S) x d → c = d := fun c d hc hdd e => by
    by_cases e1 : c = y
    · by_cases e2 : d = y
      · rw [e1, e2]
      · rw [e1, keyy, key x d e2, hd] at e
        exact absurd e.symm (h.nf d hdd e2)
    · by_cases e2 : d = y
      · rw [e2, keyy, key x c e1, hd] at e
        exact absurd e (h.nf c hc e1)
      · rw [key x c e1, key x d e2] at e
        exact h.inj c d hc hdd e1 e2 e
  have px : Perm ((List.range a.length).map fun c => swN a x z (y :: S) x c) := perm_tab (fun c hc => swN_bnd hs hx hz hx hc) injx
  generalize hT : y :: S = T at *
  have injz : ∀ c d, c < a.length → d < a.length → swN a x z T z c = swN a x z T z d → c = d := by
    have one : ∀ c d, c < a.length → d < a.length → T.contains c = true → T.contains d = false → swN a x z T z c = swN a x z T z d → False := fun c d hc hdd h1 h2 e => by
      have e1 : swN a x z T z c = nth (row a x) c := by unfold swN; rw [h1, if_pos rfl, swp_z]
      have e2 : swN a x z T z d = nth (row a z) d := by unfold swN; rw [h2]; rfl
      rw [e1, e2] at e
      have hb := sq_bnd hs hx hc
      obtain ⟨u, hu⟩ := Int.eq_ofNat_of_zero_le hb.1
      obtain ⟨v, hv, hev⟩ := perm_surj px (i := u) (by simp; omega)
      simp only [List.length_map, List.length_range] at hv
      rw [nth_get (by simpa using hv)] at hev
      simp only [List.getElem_map, List.getElem_range] at hev
      cases hv2 : T.contains v with
      | true =>
        have e3 : swN a x z T x v = nth (row a z) v := by unfold swN; rw [hv2, if_pos rfl, swp_x]
        have : v = d := sq_inj hs hz hv hdd (by rw [← e3, hev, ← hu, e])
        rw [this, h2] at hv2
        cases hv2
      | false =>
        have e3 : swN a x z T x v = nth (row a x) v := by unfold swN; rw [hv2]; rfl
        have : v = c := sq_inj hs hx hv hc (by rw [← e3, hev, ← hu])
        rw [this, h1] at hv2
        cases hv2
    intro c d hc hdd e
    cases h1 : T.contains c with
    | true =>
      cases h2 : T.contains d with
      | true =>
        unfold swN at e
        rw [h1, h2, if_pos rfl, if_pos rfl, swp_z] at e
        exact sq_inj hs hx hc hdd e
      | false => exact (one c d hc hdd h1 h2 e).elim
    | false =>
      cases h2 : T.contains d with
      | true => exact (one d c hdd hc h2 h1 e.symm).elim
      | false =>
        unfold swN at e
        rw [h1, h2] at e
        exact sq_inj hs hz hc hdd e
  refine ⟨by rw [swS_len]; exact hs.1, by rw [swS_len]; exact hs.2.1, fun i hi => ?_, fun c hc => ?_⟩
  · rw [swS_len] at hi
    refine ⟨by rw [swS_rlen hi, swS_len], ?_⟩
    rw [swS_row hi]
    refine perm_tab (fun c hc => swN_bnd hs hx hz hi hc) ?_
    by_cases e1 : i = x
    · subst e1; exact injx
    · by_cases e2 : i = z
      · subst e2; exact injz
      · intro c d hc hdd e
        unfold swN swp at e
        rw [if_neg e1, if_neg e2] at e
        simp only [ite_self] at e
        exact sq_inj hs hi hc hdd e
  · rw [swS_len] at hc
    have hm : (swS a x z T).map (fun r => nth r c) = (List.range a.length).map fun i => swN a x z T i c := by
      refine nth_ext (by simp [swS_len]) fun i hi => ?_
      have hi' : i < a.length := by simpa [swS_len] using hi
      rw [nth_get hi, nth_get (by simpa using hi')]
      simp only [List.getElem_map, List.getElem_range]
      rw [← swS_nth hi' hc, row_get (by rw [swS_len]; exact hi')]
    rw [hm]
    refine perm_tab (fun i hi => swN_bnd hs hx hz hi hc) (fun i j hi hj e => ?_)
    unfold swN at e
    cases h1 : T.contains c with
    | true =>
      rw [h1, if_pos rfl, if_pos rfl] at e
      have := sq_col hs (swp_lt hx hz hi) (swp_lt hx hz hj) hc e
      rw [← swp_swp (x := x) (z := z) i, this, swp_swp]
    | false =>
      rw [h1] at e
      exact sq_col hs hi hj hc e
end
def zerosP (r c : Nat) : List (List Int) := List.replicate r (List.replicate c 0)
theorem zerosP_len (r c : Nat) : (zerosP r c).length = r := by simp [zerosP]
theorem zerosP_row {r c i : Nat} (h : i < r) : row (zerosP r c) i = List.replicate c 0 := by rw [row_get (by rw [zerosP_len]; exact h)]; simp [zerosP]
theorem zerosP_step {r c : Nat} (h : r + 1 ≤ r + 1) : zerosP r c ++ [List.replicate c 0] = zerosP (r + 1) c := by simp [zerosP, List.replicate_succ']
structure Fil (n : Nat) (P Q : Nat → Nat → Nat) (f : Nat → Nat → Int) (zss : List (List Int)) (x y : Nat) : Prop where
  len : zss.length = n
  rows : ∀ i, i < n → (row zss i).length = n
  got : ∀ u v, u < n → v < n → (u < x ∨ u = x ∧ v < y) → nth (row zss (P u v)) (Q u v) = f u v
section
variable {n : Nat} {P Q : Nat → Nat → Nat} {f : Nat → Nat → Int} {zss : List (List Int)} {x y : Nat}
theorem Fil.start (n : Nat) (P Q : Nat → Nat → Nat) (f : Nat → Nat → Int) : Fil n P Q f (zerosP n n) 0 0 :=
  ⟨zerosP_len n n, fun i hi => by rw [zerosP_row hi]; simp, fun u v _ _ h => by omega⟩
theorem Fil.line (h : Fil n P Q f zss x n) : Fil n P Q f zss (x + 1) 0 := ⟨h.len, h.rows, fun u v hu hv hh => h.got u v hu hv (by omega)⟩
theorem Fil.step (h : Fil n P Q f zss x y) (hx : x < n) (hy : y < n) (hP : ∀ u v, u < n → v < n → P u v < n ∧ Q u v < n)
    (inj : ∀ u v u' v', u < n → v < n → u' < n → v' < n → P u v = P u' v' → Q u v = Q u' v' → u = u' ∧ v = v') : Fil n P Q f (zss.set (P x y) ((row zss (P x y)).set (Q x y) (f x y))) x (y + 1) := by
  have hp := hP x y hx hy
  have hr : ∀ i, i < n → row (zss.set (P x y) ((row zss (P x y)).set (Q x y) (f x y))) i = if P x y = i then (row zss (P x y)).set (Q x y) (f x y) else row zss i := fun i hi => row_set (by rw [h.len]; exact hi)
  refine ⟨by rw [List.length_set, h.len], fun i hi => ?_, fun u v hu hv hh => ?_⟩
  · rw [hr i hi]
    split
    · rw [List.length_set, h.rows _ hp.1]
    · exact h.rows i hi
  · have hq := hP u v hu hv
    rw [hr _ hq.1]
    by_cases e : P x y = P u v
    · rw [if_pos e, nth_set (by rw [h.rows _ hp.1]; exact hq.2)]
      by_cases e2 : Q x y = Q u v
      · obtain ⟨rfl, rfl⟩ := inj _ _ _ _ hx hy hu hv e e2
        rw [if_pos rfl]
      · rw [if_neg e2, e]
        refine h.got u v hu hv ?_
        rcases hh with h1 | ⟨rfl, h1⟩
        · exact .inl h1
        · refine .inr ⟨rfl, ?_⟩
          rcases Nat.lt_succ_iff_lt_or_eq.1 h1 with h2 | rfl
          · exact h2
          · exact absurd rfl e2
    · rw [if_neg e]
      refine h.got u v hu hv ?_
      rcases hh with h1 | ⟨rfl, h1⟩
      · exact .inl h1
      · refine .inr ⟨rfl, ?_⟩
        rcases Nat.lt_succ_iff_lt_or_eq.1 h1 with h2 | rfl
        · exact h2
        · exact absurd rfl e
end
def tabS (n : Nat) (f : Nat → Nat → Int) : List (List Int) := (List.range n).map fun x => (List.range n).map fun y => f x y
theorem tabS_len (n : Nat) (f : Nat → Nat → Int) : (tabS n f).length = n := by simp [tabS]
theorem tabS_row {n : Nat} {f : Nat → Nat → Int} {x : Nat} (h : x < n) : row (tabS n f) x = (List.range n).map fun y => f x y := by
  rw [row_get (by rw [tabS_len]; exact h)]; simp [tabS]
theorem tabS_nth {n : Nat} {f : Nat → Nat → Int} {x y : Nat} (h : x < n) (k : y < n) : nth (row (tabS n f) x) y = f x y := by
  rw [tabS_row h, nth_get (by simpa using k)]; simp
theorem Fil.tab {n : Nat} {f : Nat → Nat → Int} {zss : List (List Int)} (h : Fil n (fun u _ => u) (fun _ v => v) f zss n 0) : zss = tabS n f := by
  refine rows_ext (by rw [h.len, tabS_len]) fun i hi => ?_
  rw [h.len] at hi
  refine nth_ext (by rw [h.rows i hi, tabS_row hi]; simp) fun j hj => ?_
  rw [h.rows i hi] at hj
  rw [tabS_nth hi hj]
  exact h.got i j hi hj (.inl hi)
theorem pairs_surj {n : Nat} {P Q : Nat → Nat → Nat} (hP : ∀ u v, u < n → v < n → P u v < n ∧ Q u v < n)
    (inj : ∀ u v u' v', u < n → v < n → u' < n → v' < n → P u v = P u' v' → Q u v = Q u' v' → u = u' ∧ v = v') {i j : Nat} (hi : i < n) (hj : j < n) : ∃ u v, u < n ∧ v < n ∧ P u v = i ∧ Q u v = j := by
  have hlt : ∀ {p q : Nat}, p < n → q < n → n * p + q < n * n := fun {p q} hp hq => by
    have : n * (p + 1) ≤ n * n := Nat.mul_le_mul_left n hp
    rw [Nat.mul_succ] at this
    omega
  have hdm : ∀ k, k < n * n → k / n < n ∧ k % n < n := fun k hk => ⟨Nat.div_lt_of_lt_mul hk, Nat.mod_lt _ (by omega)⟩
  have hp : Perm ((List.range (n * n)).map fun k => ((n * P (k / n) (k % n) + Q (k / n) (k % n) : Nat) : Int)) := by
    refine perm_tab (fun k hk => ?_) (fun k l hk hl e => ?_)
    · obtain ⟨h1, h2⟩ := hdm k hk
      obtain ⟨h3, h4⟩ := hP _ _ h1 h2
      have := hlt h3 h4
      exact ⟨by omega, by omega⟩
    · obtain ⟨h1, h2⟩ := hdm k hk
      obtain ⟨h3, h4⟩ := hdm l hl
      obtain ⟨a1, a2⟩ := hP _ _ h1 h2
      obtain ⟨b1, b2⟩ := hP _ _ h3 h4
      have e' : n * P (k / n) (k % n) + Q (k / n) (k % n) = n * P (l / n) (l % n) + Q (l / n) (l % n) := by omega
      have c1 : P (k / n) (k % n) = P (l / n) (l % n) := by
        have : (n * P (k / n) (k % n) + Q (k / n) (k % n)) / n = (n * P (l / n) (l % n) + Q (l / n) (l % n)) / n := by rw [e']
        rwa [Nat.mul_add_div (by omega), Nat.mul_add_div (by omega), Nat.div_eq_of_lt a2, Nat.div_eq_of_lt b2, Nat.add_zero, Nat.add_zero] at this
      have c2 : Q (k / n) (k % n) = Q (l / n) (l % n) := by rw [c1] at e'; omega
      obtain ⟨d1, d2⟩ := inj _ _ _ _ h1 h2 h3 h4 c1 c2
      rw [← Nat.div_add_mod k n, ← Nat.div_add_mod l n, d1, d2]
  obtain ⟨k, hk, he⟩ := perm_surj hp (i := n * i + j) (by simp; exact hlt hi hj)
  simp only [List.length_map, List.length_range] at hk
  rw [nth_get (by simpa using hk)] at he
  simp only [List.getElem_map, List.getElem_range] at he
  obtain ⟨h1, h2⟩ := hdm k hk
  obtain ⟨a1, a2⟩ := hP _ _ h1 h2
  have e' : n * P (k / n) (k % n) + Q (k / n) (k % n) = n * i + j := by omega
  have c1 : P (k / n) (k % n) = i := by
    have : (n * P (k / n) (k % n) + Q (k / n) (k % n)) / n = (n * i + j) / n := by rw [e']
    rwa [Nat.mul_add_div (by omega), Nat.mul_add_div (by omega), Nat.div_eq_of_lt a2, Nat.div_eq_of_lt hj, Nat.add_zero, Nat.add_zero] at this
  exact ⟨k / n, k % n, h1, h2, c1, by rw [c1] at e'; omega⟩
theorem square_of_tri {n : Nat} (h1 : 1 ≤ n) (h10 : n ≤ 10) {P Q R : Nat → Nat → Nat} (hP : ∀ u v, u < n → v < n → P u v < n ∧ Q u v < n ∧ R u v < n)
    (pq : ∀ u v u' v', u < n → v < n → u' < n → v' < n → P u v = P u' v' → Q u v = Q u' v' → u = u' ∧ v = v')
    (pr : ∀ u v u' v', u < n → v < n → u' < n → v' < n → P u v = P u' v' → R u v = R u' v' → u = u' ∧ v = v')
    (qr : ∀ u v u' v', u < n → v < n → u' < n → v' < n → Q u v = Q u' v' → R u v = R u' v' → u = u' ∧ v = v')
    {zss : List (List Int)} (h : Fil n P Q (fun u v => (R u v : Int)) zss n 0) : Square zss := by
  have at_ : ∀ i j, i < n → j < n → ∃ u v, u < n ∧ v < n ∧ P u v = i ∧ Q u v = j ∧ nth (row zss i) j = (R u v : Int) := fun i j hi hj => by
    obtain ⟨u, v, hu, hv, e1, e2⟩ := pairs_surj (fun u v hu hv => ⟨(hP u v hu hv).1, (hP u v hu hv).2.1⟩) pq hi hj
    exact ⟨u, v, hu, hv, e1, e2, by have := h.got u v hu hv (.inl hu); rwa [e1, e2] at this⟩
  refine ⟨by rw [h.len]; exact h1, by rw [h.len]; exact h10, fun i hi => ?_, fun j hj => ?_⟩
  · rw [h.len] at hi
    refine ⟨by rw [h.rows i hi, h.len], perm_of (h.rows i hi) (fun j hj => ?_) (fun j k hj hk e => ?_)⟩
    · obtain ⟨u, v, hu, hv, e1, e2, e3⟩ := at_ i j hi hj
      have := (hP u v hu hv).2.2
      rw [e3]; exact ⟨by omega, by omega⟩
    · obtain ⟨u, v, hu, hv, e1, e2, e3⟩ := at_ i j hi hj
      obtain ⟨u', v', hu', hv', f1, f2, f3⟩ := at_ i k hi hk
      rw [e3, f3] at e
      obtain ⟨rfl, rfl⟩ := pr u v u' v' hu hv hu' hv' (by rw [e1, f1]) (by omega)
      rw [← e2, f2]
  · rw [h.len] at hj
    have hn : ∀ i, i < n → nth (zss.map fun r => nth r j) i = nth (row zss i) j := fun i hi => by
      rw [nth_get (by rw [List.length_map, h.len]; exact hi), row_get (by rw [h.len]; exact hi)]; simp
    refine perm_of (n := n) (by rw [List.length_map, h.len]) (fun i hi => ?_) (fun i k hi hk e => ?_)
    · rw [hn i hi]
      obtain ⟨u, v, hu, hv, e1, e2, e3⟩ := at_ i j hi hj
      have := (hP u v hu hv).2.2
      rw [e3]; exact ⟨by omega, by omega⟩
    · rw [hn i hi, hn k hk] at e
      obtain ⟨u, v, hu, hv, e1, e2, e3⟩ := at_ i j hi hj
      obtain ⟨u', v', hu', hv', f1, f2, f3⟩ := at_ k j hk hj
      rw [e3, f3] at e
      obtain ⟨rfl, rfl⟩ := qr u v u' v' hu hv hu' hv' (by rw [e2, f2]) (by omega)
      rw [← e1, f1]
def cycP (n : Nat) : List (List Int) := tabS n fun x y => (((x + y) % n : Nat) : Int)
def prodP (a b : List (List Int)) : List (List Int) := tabS (a.length * b.length) fun x y => (b.length : Int) * nth (row a (x / b.length)) (y / b.length) + nth (row b (x % b.length)) (y % b.length)
def permB (p : List Int) : Bool := (List.range p.length).all fun k => decide (0 ≤ nth p k ∧ nth p k < p.length) && (List.range k).all fun i => decide (nth p i ≠ nth p k)
theorem permB_ok {p : List Int} (h : permB p = true) : Perm p := by
  unfold permB at h
  rw [List.all_eq_true] at h
  have h' : ∀ k, k < p.length → (0 ≤ nth p k ∧ nth p k < p.length) ∧ ∀ i, i < k → nth p i ≠ nth p k := fun k hk => by
    have := h k (List.mem_range.2 hk)
    rw [Bool.and_eq_true, List.all_eq_true] at this
    exact ⟨by simpa using this.1, fun i hi => by simpa using this.2 i (List.mem_range.2 hi)⟩
  exact ⟨fun k hk => (h' k hk).1, fun i j hij hj => (h' j hj).2 i hij⟩
def squareB (a : List (List Int)) : Bool := decide (1 ≤ a.length ∧ a.length ≤ 10) && (List.range a.length).all (fun i => decide ((row a i).length = a.length) && permB (row a i)) && (List.range a.length).all fun y => permB (a.map fun r => nth r y)
theorem squareB_ok {a : List (List Int)} (h : squareB a = true) : Square a := by
  unfold squareB at h
  rw [Bool.and_eq_true, Bool.and_eq_true, List.all_eq_true, List.all_eq_true] at h
  obtain ⟨⟨h1, h2⟩, h3⟩ := h
  have h1 : 1 ≤ a.length ∧ a.length ≤ 10 := by simpa using h1
  refine ⟨h1.1, h1.2, fun i hi => ?_, fun y hy => permB_ok (h3 y (List.mem_range.2 hy))⟩
  have := h2 i (List.mem_range.2 hi)
  rw [Bool.and_eq_true] at this
  exact ⟨by simpa using this.1, permB_ok this.2⟩
theorem cyc_square {n : Nat} (h1 : 1 ≤ n) (h6 : n ≤ 10) : Square (cycP n) := by
  have : n = 1 ∨ n = 2 ∨ n = 3 ∨ n = 4 ∨ n = 5 ∨ n = 6 ∨ n = 7 ∨ n = 8 ∨ n = 9 ∨ n = 10 := by omega
  rcases this with rfl | rfl | rfl | rfl | rfl | rfl | rfl | rfl | rfl | rfl <;> exact squareB_ok (by decide +kernel)
theorem prod_22 : Square (prodP (cycP 2) (cycP 2)) := squareB_ok (by decide +kernel)
theorem prod_33 : Square (prodP (cycP 3) (cycP 3)) := squareB_ok (by decide +kernel)
theorem prod_222 : Square (prodP (prodP (cycP 2) (cycP 2)) (cycP 2)) := squareB_ok (by decide +kernel)
theorem prod_32 : Square (prodP (cycP 3) (cycP 2)) := squareB_ok (by decide +kernel)
theorem cycP_len (n : Nat) : (cycP n).length = n := tabS_len _ _
theorem isotope_square {n : Nat} {a b : List (List Int)} {r k z : List Int} (hs : Square a) (hn : a.length = n) (hr : Perm r) (lr : r.length = n) (hk : Perm k) (lk : k.length = n) (hz : Perm z) (lz : z.length = n)
    (h : Fil n (fun x _ => (nth r x).toNat) (fun _ y => (nth k y).toNat) (fun x y => nth z (nth (row a x) y).toNat) b n 0) : Square b := by
  subst hn
  have br : ∀ {p : List Int}, Perm p → p.length = a.length → ∀ i, i < a.length → (nth p i).toNat < a.length ∧ ((nth p i).toNat : Int) = nth p i := fun {p} hp lp i hi => by
    have := perm_lt hp (v := i) (by omega); rw [lp] at this; exact this
  have inj : ∀ {p : List Int}, Perm p → p.length = a.length → ∀ i j, i < a.length → j < a.length → (nth p i).toNat = (nth p j).toNat → i = j := fun {p} hp lp i j hi hj e =>
    perm_inj hp (by omega) (by omega) (by have := (br hp lp i hi).2; have := (br hp lp j hj).2; omega)
  have bs : ∀ x y, x < a.length → y < a.length → (nth (row a x) y).toNat < a.length := fun x y hx hy => by have := sq_bnd hs hx hy; omega
  have sinj : ∀ x y x' y', x < a.length → y < a.length → x' < a.length → y' < a.length → (nth z (nth (row a x) y).toNat).toNat = (nth z (nth (row a x') y').toNat).toNat → nth (row a x) y = nth (row a x') y' := fun x y x' y' hx hy hx' hy' e => by
    have := inj hz lz _ _ (bs x y hx hy) (bs x' y' hx' hy') e
    have h1 := sq_bnd hs hx hy
    have h2 := sq_bnd hs hx' hy'
    omega
  refine square_of_tri (n := a.length) hs.1 hs.2.1 (P := fun x _ => (nth r x).toNat) (Q := fun _ y => (nth k y).toNat) (R := fun x y => (nth z (nth (row a x) y).toNat).toNat)
    (fun u v hu hv => ⟨(br hr lr u hu).1, (br hk lk v hv).1, (br hz lz _ (bs u v hu hv)).1⟩)
    (fun u v u' v' hu hv hu' hv' e1 e2 => ⟨inj hr lr _ _ hu hu' e1, inj hk lk _ _ hv hv' e2⟩)
    (fun u v u' v' hu hv hu' hv' e1 e2 => by
      obtain rfl := inj hr lr _ _ hu hu' e1
      exact ⟨rfl, sq_inj hs hu hv hv' (sinj _ _ _ _ hu hv hu hv' e2)⟩)
    (fun u v u' v' hu hv hu' hv' e1 e2 => by
      obtain rfl := inj hk lk _ _ hv hv' e1
      exact ⟨sq_col hs hu hu' hv (sinj _ _ _ _ hu hv hu' hv e2), rfl⟩)
    ⟨h.len, h.rows, fun u v hu hv hh => by rw [h.got u v hu hv hh]; exact (br hz lz _ (bs u v hu hv)).2.symm⟩
section
variable {w w' : World} {B : Nat} {e2 e1 : TypeId} {A : Option Addr} {n c : Nat} {vs : List Sl} {zss : List (List Int)}
structure At2 (w : World) (B : Nat) (e2 e1 : TypeId) (A : Option Addr) (n c : Nat) (vs : List Sl) (zss : List (List Int)) (i j g r m k : Nat) : Prop where
  ha : A = some ⟨g, 0, none⟩
  co : w.cell? ⟨g, i, none⟩ = some (.slice (some ⟨r, 0, none⟩) m k)
  fo : w.frozen? ⟨g, i, none⟩ = false
  hm : (row zss i).length = m
  mle : m ≤ k
  k1 : k ≤ 9223372036854775807
  ci : w.cell? ⟨r, j, none⟩ = some (.int .i64 (nth (row zss i) j))
  fi : w.frozen? ⟨r, j, none⟩ = false
  br : B ≤ r
  rl : r < w.heap.size
  iz : I64 (nth (row zss i) j)
  set : ∀ u, I64 u → ORv (w.setCell ⟨r, j, none⟩ (.int .i64 u)) B e2 e1 A n c vs (zss.set i ((row zss i).set j u))
theorem ORv.at2 (h : ORv w B e2 e1 A n c vs zss) {i j : Nat} (hi : i < n) (hj : j < (row zss i).length) : ∃ g r m k, At2 w B e2 e1 A n c vs zss i j g r m k := by
  obtain ⟨g, v, ha, hv, co, fo, hr⟩ := h.get hi
  obtain ⟨r, hr1, ci, fi, iz⟩ := hr.cell (k := j) (by rw [← hr.len]; exact hj)
  have hlt := hr.os.lt (k := r) (by rw [hr1]; rfl)
  refine ⟨g, r, v.2.1, v.2.2, ha, by rw [co, hr1], fo, hr.len, hr.os.cap.1, hr.os.cap.2, ci, fi, hlt.1, hlt.2, iz, fun u hu => ?_⟩
  have h2 : OI w B e1 (some ⟨r, 0, none⟩) v.2.1 v.2.2 (row zss i) := by rw [← hr1]; exact hr
  have h3 := h2.set j hu
  rw [← hr1] at h3
  refine h.wrote hv ?_ h3
  rw [hr1]
  exact ⟨rfl, rfl, rfl, by simp [World.setCell], fun k _ hk => Below.heap_setCell _ _ _ _ (fun e => hk (by rw [e]; rfl))⟩
theorem ORv.keptB {g : Nat} (h : ORv w B e2 e1 A n c vs zss) (hg : w.grownBy w' (some g)) (hb : g < B) : ORv w' B e2 e1 A n c vs zss := by
  have far : ∀ {e : TypeId} {size : Nat} {A : Option Addr} {n c : Nat} {xs : List Value}, OS w B e size A n c xs → blk A = none ∨ blk A ≠ some g := fun {e size A n c xs} ho => by
    cases A with
    | none => exact .inl rfl
    | some a => exact .inr fun e => by have := (ho.lt (k := a.block) rfl).1; simp only [blk, Option.map_some, Option.some.injEq] at e; omega
  refine h.kept hg (far h.os) fun j v hv => ?_
  have hj : j < zss.length := by rw [← h.len]; exact (List.getElem?_eq_some_iff.1 hv).1
  exact far (h.rows j v _ hv (List.getElem?_eq_getElem hj)).os
theorem OR.keptB {g : Nat} (h : OR w B e2 e1 A n c zss) (hg : w.grownBy w' (some g)) (hb : g < B) : OR w' B e2 e1 A n c zss := by
  obtain ⟨vs, h⟩ := h
  exact ⟨vs, h.keptB hg hb⟩
theorem OI.keptB {g : Nat} {zs : List Int} (h : OI w B e1 A n c zs) (hg : w.grownBy w' (some g)) (hb : g < B) : OI w' B e1 A n c zs :=
  h.kept hg (by
    cases A with
    | none => exact .inl rfl
    | some a => exact .inr fun e => by have := (h.os.lt (k := a.block) rfl).1; simp only [blk, Option.map_some, Option.some.injEq] at e; omega)
end
theorem cells_under {l : List (List Int)} {k : Nat} (h : ∀ r ∈ l, r.length ≤ k) : cells l ≤ l.length * k := by
  induction l with
  | nil => simp [cells]
  | cons r l ih =>
    have h1 := ih fun x hx => h x (List.mem_cons_of_mem _ hx)
    have h2 := h r List.mem_cons_self
    rw [show r :: l = [r] ++ l from rfl, cells_app, cells_one, List.length_append, List.length_singleton, Nat.add_mul]
    omega
set_option maxHeartbeats 1000000 in
theorem l06Zero_any (r k : Nat) (w : World) (hr : r ≤ 4096) (hk : k ≤ 4096) :
    Calls Tryz.prog 122 #[.int .i64 r, .int .i64 k] w (RetR w 22 2 (zerosP r k)) := by
  have ho0 := OR.of_own (e1 := 2) (OS.lit w w.heap.size 22 1 0 #[] (Nat.le_refl _) rfl (by omega)) (by decide)
  have hb0 := below_alloc w (.cells #[] 22)
  have hmk := run_make_row' (P := Tryz.prog) 22 2 (.int .i64 0) 8 Tryz.underlying22 int_info rfl .i64 .i64 k (by omega) (by omega)
  go_enter Tryz.func122, Tryz.ntmps122
  go_wp2
  go_loopw [5, 6] (fun v i wr => ∃ (j : Nat) (A' : Option Addr) (c' : Nat), i = .int .i64 j ∧ j ≤ r ∧ v = .slice A' j c' ∧ OR wr w.heap.size 22 2 A' j c' (zerosP j k) ∧ Below w.heap.size w wr) (fun _ i _ => r - (intOf i).toNat)
  case atStart => exact ⟨0, _, _, rfl, Nat.zero_le _, rfl, ho0, hb0⟩
  case round =>
    obtain ⟨j, A', c', rfl, hj, rfl, ho, hw⟩ := hrel
    clear ho0 hb0
    by_cases hlt : j < r
    · have hrow := OI.made wr w.heap.size 2 k hw.size (by omega)
      have hb1 := below_alloc wr (.cells (madeCells #[.int .i64 0] k) 2)
      have hw1 := hw.trans (hb1.mono hw.size)
      obtain ⟨vs, hov⟩ := ho
      have hap := hov.apart_new (v := (some ⟨wr.heap.size, 0, none⟩, k, k)) (fun b hb => by simp [blk] at hb; omega)
      have ho1 := hov.below hb1
      clear hov hw hb1
      go_wp2_with (at_builtin; refine app_row _ rfl (.tmp 13) (.tmp 16) rfl w.heap.size A' j c' vs (zerosP j k) rfl ho1 (some ⟨wr.heap.size, 0, none⟩, k, k) (List.replicate k 0) hrow hap _ rfl (by simp) (Nat.le_trans (Nat.succ_le_succ hj) (by omega)) hw1.size ?_; intro A3 c3 w3 ho3 hg3 hn3)
      have hw3 := below_own hw1 hg3 hw1.size (fun b hb => (ho1.os.lt hb).1)
      rw [zerosP_step (Nat.le_refl _)] at ho3
      clear ho1 hap hrow hg3 hn3 hw1
      go_wp2
      go_roundw
      case rel => exact ⟨j + 1, A3, c3, by go_num, by omega, rfl, ⟨_, ho3⟩, hw3⟩
      case measure => simp [intOf]; omega
    · obtain rfl : j = r := by omega
      go_wp2
      go_ret
      exact ⟨_, _, _, rfl, ho, hw⟩
set_option maxHeartbeats 1000000 in
theorem l06Own_any (A : Option Addr) (n c : Nat) (zss : List (List Int)) (w : World) (ha : RR w A n zss) (hn : n ≤ 1099511627776) (hr : cells zss ≤ 1099511627776) :
    Calls Tryz.prog 175 #[.slice A n c] w (RetR w 22 2 zss) := by
  have hla := Lib.hid ha.len
  have HR := Lib.hid (show ∀ k, k < n → (row zss k).length ≤ 1099511627776 from fun k hk => Nat.le_trans (row_le_cells zss (by rw [hla.out]; exact hk)) hr)
  have ho0 := OR.of_own (e1 := 2) (OS.lit w w.heap.size 22 1 0 #[] (Nat.le_refl _) rfl (by omega)) (by decide)
  have hb0 := below_alloc w (.cells #[] 22)
  go_enter Tryz.func175, Tryz.ntmps175
  go_wp2
  go_loopw [3, 4] (fun v i wr => ∃ (j : Nat) (A' : Option Addr) (c' : Nat), i = .int .i64 j ∧ j ≤ n ∧ v = .slice A' j c' ∧ OR wr w.heap.size 22 2 A' j c' (zss.take j) ∧ Below w.heap.size w wr) (fun _ i _ => n - (intOf i).toNat)
  case atStart => exact ⟨0, _, _, rfl, Nat.zero_le _, rfl, ho0, hb0⟩
  case round =>
    obtain ⟨j, A', c', rfl, hj, rfl, ho, hw⟩ := hrel
    clear ho0 hb0
    by_cases hlt : j < n
    · obtain ⟨a, A1, n1, c1, rfl, hcs, hn1, hc1, hrs⟩ := (ha.keep hw).get hlt
      have hl1 : n1 ≤ 1099511627776 := by have := HR.out j hlt; rw [hrs.len] at this; exact this
      go_wp2_with fail
      refine (l00Own_any A1 n1 c1 (row zss j) _ hrs hl1).mono ?_
      rintro e w1 ⟨A2, n2, c2, rfl, ho2, hb2⟩
      have hw1 := hw.trans (hb2.mono hw.size)
      obtain ⟨vs, hov⟩ := ho
      have hap := hov.apart_new (v := (A2, n2, c2)) (fun b hb => (ho2.os.lt hb).1)
      have ho1 := hov.below hb2
      have hr2 := ho2.more hw.size
      clear hov hw ho2 hb2 hcs hrs
      go_wp2_with (at_builtin; refine wpList_app1 _ rfl _ _ 25 rfl 22 (.slice none 0 0) 24 Tryz.underlying25 ints_info rfl (by omega) w.heap.size A' j c' (vs.map slv) rfl ho1.os (.slice A2 n2 c2) rfl rfl (by omega) hw1.size ?_; intro A3 c3 w3 ho3 hg3 hn3)
      have hw3 := below_own hw1 hg3 hw1.size (fun b hb => (ho1.os.lt hb).1)
      have hi3 := ho1.push (v := (A2, n2, c2)) hr2 hap hg3 ho3
      rw [← take_row (by rw [hla.out]; exact hlt)] at hi3
      clear ho1 hr2 hap ho3 hg3 hn3 hw1
      go_wp2
      go_roundw
      case rel => exact ⟨j + 1, A3, c3, by go_num, by omega, rfl, hi3, hw3⟩
      case measure => simp [intOf]; omega
    · obtain rfl : j = n := by omega
      have ho' : OR wr w.heap.size 22 2 A' j c' zss := by rw [← hla.out] at ho; rw [List.take_length] at ho; rw [hla.out] at ho; exact ho
      clear ho
      go_wp2
      go_ret
      exact ⟨_, _, _, rfl, ho', hw⟩
structure FSt (w wr : World) (n : Nat) (A : Option Addr) (c : Nat) (vs : List Sl) (P Q : Nat → Nat → Nat) (f : Nat → Nat → Int) (x y : Nat) : Prop where
  o : ∃ zss, ORv wr w.heap.size 22 2 A n c vs zss ∧ Fil n P Q f zss x y
  b : Below w.heap.size w wr
theorem FSt.put {w wr : World} {n : Nat} {A : Option Addr} {c : Nat} {vs : List Sl} {P Q : Nat → Nat → Nat} {f : Nat → Nat → Int} {x y : Nat} (h : FSt w wr n A c vs P Q f x y) (hx : x < n) (hy : y < n) (hP : ∀ u v, u < n → v < n → P u v < n ∧ Q u v < n)
    (inj : ∀ u v u' v', u < n → v < n → u' < n → v' < n → P u v = P u' v' → Q u v = Q u' v' → u = u' ∧ v = v') (hf : I64 (f x y)) :
    ∃ g r k, A = some ⟨g, 0, none⟩ ∧ wr.cell? ⟨g, P x y, none⟩ = some (.slice (some ⟨r, 0, none⟩) n k) ∧ n ≤ k ∧ k ≤ 9223372036854775807 ∧ (∃ u, wr.cell? ⟨r, Q x y, none⟩ = some u) ∧ wr.frozen? ⟨r, Q x y, none⟩ = false ∧ w.heap.size ≤ r ∧
      FSt w (wr.setCell ⟨r, Q x y, none⟩ (.int .i64 (f x y))) n A c vs P Q f x (y + 1) := by
  obtain ⟨⟨zss, ho, hF⟩, hb⟩ := h
  have hp := hP x y hx hy
  obtain ⟨g, r, m, k, h2⟩ := ho.at2 (i := P x y) (j := Q x y) hp.1 (by rw [hF.rows _ hp.1]; exact hp.2)
  have hm : m = n := by rw [← h2.hm, hF.rows _ hp.1]
  subst hm
  exact ⟨g, r, k, h2.ha, h2.co, h2.mle, h2.k1, ⟨_, h2.ci⟩, h2.fi, h2.br, ⟨_, h2.set _ hf, hF.step hx hy hP inj⟩, Below.setCell hb (p := ⟨r, Q x y, none⟩) h2.br _⟩
theorem FSt.line {w wr : World} {n : Nat} {A : Option Addr} {c : Nat} {vs : List Sl} {P Q : Nat → Nat → Nat} {f : Nat → Nat → Int} {x : Nat} (h : FSt w wr n A c vs P Q f x n) : FSt w wr n A c vs P Q f (x + 1) 0 := by
  obtain ⟨⟨zss, ho, hF⟩, hb⟩ := h
  exact ⟨⟨zss, ho, hF.line⟩, hb⟩
theorem FSt.below {w wr w' : World} {n : Nat} {A : Option Addr} {c : Nat} {vs : List Sl} {P Q : Nat → Nat → Nat} {f : Nat → Nat → Int} {x y : Nat} (h : FSt w wr n A c vs P Q f x y) (hb : Below wr.heap.size wr w') : FSt w w' n A c vs P Q f x y := by
  obtain ⟨⟨zss, ho, hF⟩, h2⟩ := h
  exact ⟨⟨zss, ho.below hb, hF⟩, h2.trans (hb.mono h2.size)⟩
set_option maxHeartbeats 1000000 in
theorem l06Cyclic_any (n : Nat) (w : World) (hn : n ≤ 1024) :
    Calls Tryz.prog 117 #[.int .i64 n] w (RetR w 22 2 (cycP n)) := by
  go_enter Tryz.func117, Tryz.ntmps117
  go_wp2_with fail
  refine (l06Zero_any n n w (by omega) (by omega)).mono ?_
  rintro e w1 ⟨A, n1, c, rfl, ⟨vs, ho⟩, hb⟩
  obtain rfl : n1 = n := by rw [← ho.slen, zerosP_len]
  have HP : Hid (∀ u v, u < n1 → v < n1 → (fun u _ => u : Nat → Nat → Nat) u v < n1 ∧ (fun _ v => v : Nat → Nat → Nat) u v < n1) := Lib.hid fun u v hu hv => ⟨hu, hv⟩
  have HI : Hid (∀ u v u' v', u < n1 → v < n1 → u' < n1 → v' < n1 → (fun u _ => u : Nat → Nat → Nat) u v = (fun u _ => u : Nat → Nat → Nat) u' v' → (fun _ v => v : Nat → Nat → Nat) u v = (fun _ v => v : Nat → Nat → Nat) u' v' → u = u' ∧ v = v') := Lib.hid fun u v u' v' _ _ _ _ e1 e2 => ⟨e1, e2⟩
  have S : FSt w w1 n1 A c vs (fun u _ => u) (fun _ v => v) (fun x y => (((x + y) % n1 : Nat) : Int)) 0 0 := ⟨⟨_, ho, Fil.start _ _ _ _⟩, hb⟩
  clear ho hb
  go_wp2
  go_loopw [4] (fun i wr => ∃ x : Nat, x ≤ n1 ∧ i = .int .i64 x ∧ FSt w wr n1 A c vs (fun u _ => u) (fun _ v => v) (fun x y => (((x + y) % n1 : Nat) : Int)) x 0) (fun i _ => n1 - (intOf i).toNat)
  case atStart => exact ⟨0, Nat.zero_le _, rfl, S⟩
  case round =>
    clear S
    obtain ⟨x, hx, rfl, S⟩ := hrel
    by_cases hlt : x < n1
    · go_wp2
      go_loopw [5] (fun i wr => ∃ y : Nat, y ≤ n1 ∧ i = .int .i64 y ∧ FSt w wr n1 A c vs (fun u _ => u) (fun _ v => v) (fun x y => (((x + y) % n1 : Nat) : Int)) x y) (fun i _ => n1 - (intOf i).toNat)
      case atStart => exact ⟨0, Nat.zero_le _, rfl, S⟩
      case round =>
        clear S
        obtain ⟨y, hy, rfl, S⟩ := hrel
        by_cases hly : y < n1
        · have hmm : (x + y) % n1 < n1 := Nat.mod_lt _ (by omega)
          have q1 : ¬ n1 = 0 := by omega
          have q2 : IntKind.i64.wrap ((x : Int) + y) = (x : Int) + y := IntWalk.i64_in _ (by omega)
          have q3 : ((x : Int) + y).tmod n1 = (((x + y) % n1 : Nat) : Int) := by rw [Int.tmod_eq_emod_of_nonneg (by omega), Int.natCast_emod, Int.natCast_add]
          obtain ⟨g, r, k, rfl, c1, k1, k2, ⟨u, c2⟩, f2, hr, S⟩ := S.put hlt hly HP.out HI.out (by unfold I64; omega)
          have HS := Lib.hid (S.below (below_drewn _ 1))
          clear S
          simp only [← World.drew_is_drewN] at HS
          generalize (((x + y) % n1 : Nat) : Int) = val at *
          go_wp2
          refine region_last (P := Tryz.prog) (S := (fun w' => w'.cell? ⟨g, x, none⟩ = some (.slice (some ⟨r, 0, none⟩) n1 k))) (by kernel_rfl) (by simp only [List.getLast?_cons_cons, List.getLast?_singleton]; rfl) (by dsimp only [List.dropLast]) (by kernel_rfl) ?_ ?_
          · simpa using c1
          intro hS
          refine wpAnyH_take (i := 0) (v := ?_) rfl (by kernel_rfl) (by kernel_rfl) (by kernel_rfl) (fun _ _ _ h => h) (Or.inl ⟨by rfl, ?_⟩) (by assumption) ?_
          rotate_left
          · (intro w hSw; (try dsimp only at hSw); go_simp; (try with_reducible rfl))
          simp only [Act.put, List.setIfInBounds_toArray, List.set_cons_zero, List.set_cons_succ]
          refine wpAnyH_take (i := 1) (v := ?_) rfl (by kernel_rfl) (by kernel_rfl) (by kernel_rfl) (fun _ _ _ h => h) (Or.inl ⟨by rfl, ?_⟩) (by assumption) ?_
          rotate_left
          · (intro w hSw; (try dsimp only at hSw); go_simp; (try with_reducible rfl))
          simp only [Act.put, List.setIfInBounds_toArray, List.set_cons_zero, List.set_cons_succ]
          refine wpAnyH_take (i := 2) (v := ?_) rfl (by kernel_rfl) (by kernel_rfl) (by kernel_rfl) (fun _ _ _ h => h) (Or.inl ⟨by rfl, ?_⟩) (by assumption) ?_
          rotate_left
          · (intro w hSw; (try dsimp only at hSw); go_simp; (try with_reducible rfl))
          simp only [Act.put, List.setIfInBounds_toArray, List.set_cons_zero, List.set_cons_succ]
          refine wpAnyH_take (i := 3) (v := ?_) rfl (by kernel_rfl) (by kernel_rfl) (by kernel_rfl) (fun _ _ _ h => h) (Or.inl ⟨by rfl, ?_⟩) (by assumption) ?_
          rotate_left
          · (intro w hSw; (try dsimp only at hSw); go_simp; (try with_reducible rfl))
          simp only [Act.put, List.setIfInBounds_toArray, List.set_cons_zero, List.set_cons_succ]
          refine wpAnyH_take (i := 4) (v := ?_) rfl (by kernel_rfl) (by kernel_rfl) (by kernel_rfl) (fun _ _ _ h => h) (Or.inl ⟨by rfl, ?_⟩) (by assumption) ?_
          rotate_left
          · (intro w hSw; (try dsimp only at hSw); go_simp; (try with_reducible rfl))
          simp only [Act.put, List.setIfInBounds_toArray, List.set_cons_zero, List.set_cons_succ]
          refine wpAnyH_take (i := 5) (v := ?_) rfl (by kernel_rfl) (by kernel_rfl) (by kernel_rfl) (fun _ _ _ h => h) (Or.inl ⟨by rfl, ?_⟩) (by assumption) ?_
          rotate_left
          · (intro w hSw; (try dsimp only at hSw); go_simp; (try with_reducible rfl))
          simp only [Act.put, List.setIfInBounds_toArray, List.set_cons_zero, List.set_cons_succ]
          refine wpAnyH_take (i := 6) (v := ?_) rfl (by kernel_rfl) (by kernel_rfl) (by kernel_rfl) (fun _ _ _ h => h) (Or.inl ⟨by rfl, ?_⟩) (by assumption) ?_
          rotate_left
          · (intro w hSw; (try dsimp only at hSw); go_simp; (try with_reducible rfl))
          simp only [Act.put, List.setIfInBounds_toArray, List.set_cons_zero, List.set_cons_succ]
          refine wpAnyH_take (i := 7) (v := ?_) rfl (by kernel_rfl) (by kernel_rfl) (by kernel_rfl) (fun _ _ _ h => h) (Or.inl ⟨by rfl, ?_⟩) (by assumption) ?_
          rotate_left
          · (intro w hSw; (try dsimp only at hSw); go_simp; (try with_reducible rfl))
          simp only [Act.put, List.setIfInBounds_toArray, List.set_cons_zero, List.set_cons_succ]
          refine wpAnyH_take (i := 8) (v := ?_) rfl (by kernel_rfl) (by kernel_rfl) (by kernel_rfl) (fun _ _ _ h => h) (Or.inl ⟨by rfl, ?_⟩) (by assumption) ?_
          rotate_left
          · (intro w hSw; (try dsimp only at hSw); go_simp; (try with_reducible rfl))
          simp only [Act.put, List.setIfInBounds_toArray, List.set_cons_zero, List.set_cons_succ]
          refine wpAnyH_take (i := 9) (v := ?_) rfl (by kernel_rfl) (by kernel_rfl) (by kernel_rfl) (fun _ _ _ h => h) (Or.inl ⟨by rfl, ?_⟩) (by assumption) ?_
          rotate_left
          · (intro w hSw; (try dsimp only at hSw); go_simp; (try with_reducible rfl))
          simp only [Act.put, List.setIfInBounds_toArray, List.set_cons_zero, List.set_cons_succ]
          refine wpAnyH_take (i := 10) (v := ?_) rfl (by kernel_rfl) (by kernel_rfl) (by kernel_rfl) (fun _ _ _ h => h) (Or.inl ⟨by rfl, ?_⟩) (by assumption) ?_
          rotate_left
          · (intro w hSw; (try dsimp only at hSw); go_simp; (try with_reducible rfl))
          simp only [Act.put, List.setIfInBounds_toArray, List.set_cons_zero, List.set_cons_succ]
          refine wpAnyH_done (by kernel_rfl) ?_ _
          dsimp only [atEnd]
          clear hS
          go_wp2
          go_roundw
          case rel => exact ⟨y + 1, by omega, by go_num, HS.out⟩
          case measure => simp [intOf]; omega
        · obtain rfl : y = n1 := by omega
          have S := S.line
          go_wp2
          go_roundw
          case rel => exact ⟨x + 1, by omega, by go_num, S⟩
          case measure => simp [intOf]; omega
    · obtain rfl : x = n1 := by omega
      obtain ⟨⟨zss, ho, hF⟩, hb⟩ := S
      obtain rfl := hF.tab
      go_wp2
      go_ret
      exact ⟨_, _, _, rfl, ⟨vs, ho⟩, hb⟩
end Go.Proofs.YtdkbcjdimhgmnaaGreat
