/- The search keeps the order of the colors; permutations cut to the points. No program in sight. -/
import Derived.Test.YtpckplpkedhlcaaGreatGG
import Derived.Test.YtpckplpkedhlcaaGreatHL
import Derived.Test.YtpckplpkedhlcaaGreatGM
set_option linter.unusedVariables false
set_option linter.unusedSimpArgs false
namespace Go.Proofs.YtpckplpkedhlcaaGreat

theorem idxG_up {α : Type} {c : α → α → Int} (h : TOrd c) {l : List α} (hl : StrictL c l) {x y : α} (hx : x ∈ l) (hy : y ∈ l) (hxy : c x y < 0) : idxG c l x < idxG c l y := by
  have h1 : idxG c l x ≤ idxG c l y := List.countP_mono_left fun z _ hz => by
    simp only [decide_eq_true_eq] at hz ⊢
    exact h.lt_trans hz hxy
  have h2 : idxG c l x ≠ idxG c l y := fun e => by
    have := idxG_inj h hl hx hy e
    subst this
    have := h.self x
    omega
  omega
/-- what keeps the order of the colors -/
def UpL (c d : List Int) : Prop := d.length = c.length ∧ ∀ u v, u < c.length → v < c.length → nth c u < nth c v → nth d u < nth d v
theorem UpL.refl (c : List Int) : UpL c c := ⟨rfl, fun _ _ _ _ h => h⟩
theorem UpL.trans {c d e : List Int} (h : UpL c d) (k : UpL d e) : UpL c e :=
  ⟨by rw [k.1, h.1], fun u v hu hv hlt => k.2 u v (by rw [h.1]; exact hu) (by rw [h.1]; exact hv) (h.2 u v hu hv hlt)⟩
theorem roundP_up (near : List (List Int)) (cells : List Int) : UpL cells (roundP near cells) := by
  refine ⟨roundP_len, fun u v hu hv h => ?_⟩
  rw [roundP_nth hu, roundP_nth hv]
  have := idxG_up cmpL_ord (setG_strict cmpL_ord (keysP near cells)) (kindsP_mem (near := near) hu) (kindsP_mem (near := near) hv) (by unfold keyP; rw [cmpL, if_pos h]; omega)
  exact Int.ofNat_lt.2 this
theorem refF_up (near : List (List Int)) : ∀ (f : Nat) (cells : List Int), UpL cells (refF near f cells) := by
  intro f
  induction f with
  | zero => intro cells; exact roundP_up near cells
  | succ f ih =>
    intro cells
    rw [refF]
    split
    · exact roundP_up near cells
    · exact (roundP_up near cells).trans (ih _)
theorem refP_up (near : List (List Int)) (cells : List Int) : UpL cells (refP near cells) := refF_up near _ cells
theorem splitP_up (cells : List Int) (v : Nat) : UpL cells (splitP cells v) := by
  refine ⟨splitP_len cells v, fun u w hu hw h => ?_⟩
  rw [splitP_nth hu, splitP_nth hw]
  by_cases h1 : u = v
  · by_cases h2 : w = v
    · subst h1; subst h2; omega
    · rw [if_pos h1, if_neg h2]; subst h1; omega
  · by_cases h2 : w = v
    · rw [if_neg h1, if_pos h2]; subst h2; omega
    · rw [if_neg h1, if_neg h2]; omega
theorem Leaf.up {near : List (List Int)} {c p : List Int} (h : Leaf near c p) : UpL c p := by
  induction h with
  | here => exact UpL.refl _
  | down v h hv ht hp ih => exact ((splitP_up _ v).trans (refP_up near _)).trans ih
theorem runP_up (cs : List Int) (es : List Ed) (b : Nat) {p : List Int} (hp : p ∈ (runP cs es b).best) : UpL cs p := (refP_up _ cs).trans (runP_leaf cs es b p hp).up
/-- a permutation that keeps two colors' order leaves the first ones among themselves -/
theorem up_low {v m : Nat} {p : List Int} (h : UpL (dsC v m) p) (hp : Perm p) {u : Nat} (hu : u < v) : nth p u < (v : Int) := by
  have hl : p.length = v + m := by rw [h.1, dsC_len]
  by_cases hc : nth p u < (v : Int)
  · exact hc
  · exfalso
    have hub := hp.bd u (by omega)
    have hgt : ∀ j, j < m → nth p u < nth p (v + j) := fun j hj => h.2 u (v + j) (by rw [dsC_len]; omega) (by rw [dsC_len]; omega) (by
      have e1 : nth (dsC v m) u = 0 := by
        rw [nth_get (by rw [dsC_len]; omega)]
        unfold dsC
        rw [List.getElem_append_left (by simpa using hu), List.getElem_replicate]
      have e2 : nth (dsC v m) (v + j) = 1 := by
        rw [nth_get (by rw [dsC_len]; omega)]
        unfold dsC
        rw [List.getElem_append_right (by simp), List.getElem_replicate]
      omega)
    have hnd : ((List.range (m + 1)).map fun j => if j = m then nth p u else nth p (v + j)).Nodup := by
      rw [List.Nodup, List.pairwise_map]
      refine List.pairwise_lt_range.imp_of_mem fun {i j} hi hj hij => ?_
      have hi := List.mem_range.1 hi
      have hj := List.mem_range.1 hj
      rw [if_neg (by omega)]
      by_cases hjm : j = m
      · rw [if_pos hjm]
        have := hgt i (by omega)
        omega
      · rw [if_neg hjm]
        exact hp.ne (v + i) (v + j) (by omega) (by omega)
    have hsub : ((List.range (m + 1)).map fun j => if j = m then nth p u else nth p (v + j)) ⊆ ((List.range m).map fun (j : Nat) => ((v + j : Nat) : Int)) := by
      intro x hx
      obtain ⟨j, hj, rfl⟩ := List.mem_map.1 hx
      have hj := List.mem_range.1 hj
      have key : ∀ x : Int, (v : Int) ≤ x → x < ((v + m : Nat) : Int) → x ∈ ((List.range m).map fun (j : Nat) => ((v + j : Nat) : Int)) := fun x h1 h2 => List.mem_map.2 ⟨(x - v).toNat, List.mem_range.2 (by omega), by omega⟩
      by_cases hjm : j = m
      · simp only [hjm, if_true]
        exact key _ (by omega) (by omega)
      · simp only [hjm, if_false]
        have h1 := hgt j (by omega)
        have h2 := hp.bd (v + j) (by omega)
        exact key _ (by omega) (by omega)
    have := List.Nodup.length_le_of_subset hnd hsub
    simp only [List.length_map, List.length_range] at this
    omega
theorem nth_takeL {p : List Int} {v k : Nat} (h : k < v) : nth (p.take v) k = nth p k := by
  unfold nth
  simp [List.getD, List.getElem?_take, h]
/-- the points' part of such a permutation is one -/
theorem up_perm {v m : Nat} {p : List Int} (h : UpL (dsC v m) p) (hp : Perm p) : (p.take v).length = v ∧ Perm (p.take v) := by
  have hl : p.length = v + m := by rw [h.1, dsC_len]
  have hlt : (p.take v).length = v := by rw [List.length_take]; omega
  refine ⟨hlt, fun k hk => ?_, fun i j hij hj => ?_⟩
  · rw [hlt] at hk ⊢
    rw [nth_takeL hk]
    exact ⟨(hp.bd k (by omega)).1, up_low h hp hk⟩
  · rw [hlt] at hj
    rw [nth_takeL (by omega), nth_takeL hj]
    exact hp.ne i j hij (by omega)
theorem up_take_inv {v m : Nat} {p : List Int} (h : UpL (dsC v m) p) (hp : Perm p) {x : Nat} (hx : x < v) : nth (invP (p.take v)) x = nth (invP p) x := by
  have hl : p.length = v + m := by rw [h.1, dsC_len]
  obtain ⟨h1, h2⟩ := up_perm h hp
  obtain ⟨k, hk, hkx⟩ := perm_surj h2 (i := x) (by omega)
  have e1 := invP_nth h2 hk
  rw [h1] at hk
  rw [hkx, Int.toNat_natCast] at e1
  rw [nth_takeL hk] at hkx
  have e2 := invP_nth hp (v := k) (by omega)
  rw [hkx, Int.toNat_natCast] at e2
  rw [e1, e2]
/-- cutting to the points goes with composing -/
theorem cut_then {v m : Nat} {p q : List Int} (h : UpL (dsC v m) p) (hp : Perm p) (k : UpL (dsC v m) q) (hq : Perm q) :
    (thenP p (invP q)).take v = thenP (p.take v) (invP (q.take v)) := by
  have hl : p.length = v + m := by rw [h.1, dsC_len]
  obtain ⟨h1, h2⟩ := up_perm h hp
  refine nth_ext (by rw [List.length_take, thenP_len, thenP_len, h1, hl]; omega) fun j hj => ?_
  rw [List.length_take, thenP_len, hl] at hj
  have hjv : j < v := by omega
  rw [nth_takeL hjv, thenP_nth (by omega), thenP_nth (by omega), nth_takeL hjv]
  have hlow := up_low h hp hjv
  have hb := hp.bd j (by omega)
  exact (up_take_inv k hq (by omega)).symm
end Go.Proofs.YtpckplpkedhlcaaGreat
/- spec.l05Find: a binary search among rising rows. No condition beyond those stated. -/
namespace Go.Proofs.YtpckplpkedhlcaaGreat
open Go.RowKit

/-- where a row stands, or would stand -/
def FdAt (zss : List (List Int)) (x : List Int) (k : Nat) (f : Bool) : Prop :=
  k ≤ zss.length ∧ ((f = true ∧ x ∈ zss) ∨ (f = false ∧ (∀ i, i < k → cmpL (row zss i) x < 0) ∧ ∀ i, k ≤ i → i < zss.length → 0 < cmpL (row zss i) x))
def FdTo (zss : List (List Int)) (x : List Int) (lo hi : Nat) : Prop :=
  (∀ i, i < lo → cmpL (row zss i) x < 0) ∧ ∀ i, hi ≤ i → i < zss.length → 0 < cmpL (row zss i) x
theorem fdTo_low {zss : List (List Int)} {x : List Int} (hs : StrictL cmpL zss) {lo hi m : Nat} (h : FdTo zss x lo hi) (hm : m < zss.length) (hc : cmpL (row zss m) x < 0) : FdTo zss x (m + 1) hi := by
  refine ⟨fun i hi' => ?_, h.2⟩
  by_cases e : i = m
  · rw [e]; exact hc
  · have h1 := List.pairwise_iff_getElem.1 hs i m (by omega) hm (by omega)
    rw [← row_get (by omega), ← row_get hm] at h1
    exact cmpL_ord.lt_trans h1 hc
theorem fdTo_high {zss : List (List Int)} {x : List Int} (hs : StrictL cmpL zss) {lo hi m : Nat} (h : FdTo zss x lo hi) (hm : m < zss.length) (hc : 0 < cmpL (row zss m) x) : FdTo zss x lo m := by
  refine ⟨h.1, fun i hi' hil => ?_⟩
  by_cases e : i = m
  · rw [e]; exact hc
  · have h1 := List.pairwise_iff_getElem.1 hs m i hm hil (by omega)
    rw [← row_get hm, ← row_get hil] at h1
    have h2 := cmpL_ord.swap (row zss m) x
    have h3 := cmpL_ord.lt_trans (x := x) (by omega) h1
    have h4 := cmpL_ord.swap x (row zss i)
    omega
set_option maxRecDepth 100000 in
set_option maxHeartbeats 2000000 in
theorem l05Find_any (A : Option Addr) (n c : Nat) (zss : List (List Int)) (X : Option Addr) (p q : Nat) (x : List Int) (w : World) (ha : RR w A n zss) (hn : n ≤ 1048576) (hx : RI w X p x) (hp : p ≤ q) (hq : q ≤ 9223372036854775807) (hs : StrictL cmpL zss) :
    Calls Tryz.prog 211 #[.slice A n c, .slice X p q] w (fun e w' => ∃ (k : Nat) (f : Bool), e = .returned (.tuple #[.int .i64 k, .bool f]) ∧ FdAt zss x k f ∧ Drawn w w') := by
  have hla := Lib.hid ha.len
  have HS := Lib.hid hs
  clear hs
  go_enter Tryz.func211, Tryz.ntmps211
  go_wp2
  go_loopw [6, 7] (fun l h wr => ∃ (lo hi : Nat), lo ≤ hi ∧ hi ≤ n ∧ l = .int .i64 lo ∧ h = .int .i64 hi ∧ Drawn w wr ∧ FdTo zss x lo hi) (fun l h _ => (intOf h).toNat - (intOf l).toNat)
  case atStart => exact ⟨0, n, Nat.zero_le _, Nat.le_refl _, rfl, rfl, Drawn.refl _, fun i h => by omega, fun i h1 h2 => by rw [hla.out] at h2; omega⟩
  case round =>
    obtain ⟨lo, hi, hlh, hhn, rfl, rfl, hd, hto⟩ := hrel
    by_cases hlt : lo < hi
    · have hq2 : Int.tdiv ((lo : Int) + (hi : Int)) 2 = (((lo + hi) / 2 : Nat) : Int) := by rw [Int.tdiv_eq_ediv_of_nonneg (by omega)]; omega
      obtain ⟨m, hm⟩ : ∃ m : Nat, (lo + hi) / 2 = m := ⟨_, rfl⟩
      rw [hm] at hq2
      have hm1 : lo ≤ m ∧ m < hi := by omega
      have hmn : m < n := by omega
      obtain ⟨a, Y, p1, q1, rfl, hca, hp1, hq1, hri⟩ := (ha.drawn hd).get hmn
      have hcmp := compareLists_any Y X p1 p q1 q _ x wr hri (hx.keep hd.below) (by omega) (by omega)
      have hbd := cmpL_bd (row zss m) x
      have HM := Lib.hid (show m < zss.length by rw [hla.out]; exact hmn)
      clear hm
      by_cases h0 : cmpL (row zss m) x = 0
      · have HF := Lib.hid (show FdAt zss x m true from ⟨Nat.le_of_lt HM.out, .inl ⟨rfl, by rw [← cmpL_zero h0, row_get HM.out]; exact List.getElem_mem _⟩⟩)
        rw [h0] at hcmp
        clear hto h0 hbd hri
        go_wp2_with fail
        refine hcmp.mono ?_
        rintro e w1 ⟨rfl, hd1⟩
        clear hcmp
        go_wp2
        go_ret2
        exact ⟨m, true, rfl, HF.out, hd.trans hd1⟩
      · by_cases h1 : cmpL (row zss m) x < 0
        · have HT := Lib.hid (fdTo_low HS.out hto HM.out h1)
          generalize cmpL (row zss m) x = s at *
          have e1 : (s == 0) = false := by simpa using h0
          clear hto hri h0
          go_wp2_with fail
          refine hcmp.mono ?_
          rintro e w1 ⟨rfl, hd1⟩
          clear hcmp
          go_wp2
          go_roundw
          case rel => exact ⟨m + 1, hi, by omega, hhn, by go_num, rfl, hd.trans hd1, HT.out⟩
          case measure => simp [intOf]; omega
        · have HT := Lib.hid (fdTo_high HS.out hto HM.out (by omega))
          generalize cmpL (row zss m) x = s at *
          have e1 : (s == 0) = false := by simpa using h0
          clear hto hri h0
          go_wp2_with fail
          refine hcmp.mono ?_
          rintro e w1 ⟨rfl, hd1⟩
          clear hcmp
          go_wp2
          go_roundw
          case rel => exact ⟨lo, m, by omega, by omega, rfl, rfl, hd.trans hd1, HT.out⟩
          case measure => simp [intOf]; omega
    · obtain rfl : lo = hi := by omega
      have HF := Lib.hid (show FdAt zss x lo false from ⟨by rw [hla.out]; exact hhn, .inr ⟨rfl, hto.1, hto.2⟩⟩)
      go_wp2
      go_ret2
      exact ⟨lo, false, rfl, HF.out, hd⟩
end Go.Proofs.YtpckplpkedhlcaaGreat
