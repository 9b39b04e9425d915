/- The search of one design, both sides, whatever the design and the budget. No condition beyond those stated. -/
import Derived.Test.YtdkbcjdimhgmnaaGreatRHN
import Derived.Test.YtdkbcjdimhgmnaaGreatRHA
set_option linter.unusedVariables false
set_option linter.unusedSimpArgs false
namespace Go.Proofs.YtdkbcjdimhgmnaaGreat
open Go.RowKit
noncomputable def dK (v : Int) (bs : List (List Int)) (b : Int) : Int := if tB (Design v bs) then (if inB b 1 20000 then fK v.toNat bs b else 2) else 1
theorem dK_no {v : Int} {bs : List (List Int)} (h : ¬ Design v bs) (b : Int) : dK v bs b = 1 := by rw [dK, tB_no h]; rfl
theorem dK_bud {v : Int} {bs : List (List Int)} (h : Design v bs) {b : Int} (hb : inB b 1 20000 = false) : dK v bs b = 2 := by rw [dK, tB_yes h, hb]; rfl
theorem dK_full {v : Nat} {bs : List (List Int)} (h : Design (v : Int) bs) {b : Int} (hb : inB b 1 20000 = true) (h5 : dgK v bs = 5) : dK (v : Int) bs b = 5 := by rw [dK, tB_yes h, hb, Int.toNat_natCast, fK_full h5]; rfl
theorem dK_ok {v : Nat} {bs : List (List Int)} (h : Design (v : Int) bs) {b : Int} (hb : inB b 1 20000 = true) (h5 : dgK v bs = 0) : dK (v : Int) bs b = codeP (dgC v bs) (dgE v bs) b := by rw [dK, tB_yes h, hb, Int.toNat_natCast, fK_ok h5]; rfl
def RetDX (w : World) (v : Int) (bs : List (List Int)) (b : Int) (e : Ending) (w' : World) : Prop :=
  Below w.heap.size w w' ∧ ∃ u, e = .returned (.tuple #[.pointer u, .int .i64 (dK v bs b)]) ∧ (dK v bs b = 0 → ∃ A n c F m d, OneX w w' u A n c F m d (runP (dgC v.toNat bs) (dgE v.toNat bs) b.toNat))
theorem dK_zero {v : Int} {bs : List (List Int)} {b : Int} (h : dK v bs b = 0) : ∃ V : Nat, v = (V : Int) ∧ Design (V : Int) bs ∧ inB b 1 20000 = true ∧ dgK V bs = 0 ∧ codeP (dgC V bs) (dgE V bs) b = 0 := by
  by_cases h1 : Design v bs
  · obtain ⟨V, rfl⟩ : ∃ V : Nat, v = (V : Int) := ⟨v.toNat, by have := h1.v1; omega⟩
    cases h2 : inB b 1 20000 with
    | false => rw [dK_bud h1 h2] at h; cases h
    | true =>
      rcases dgK_cases V bs with ⟨h3, -⟩ | h3
      · rw [dK_ok h1 h2 h3] at h
        exact ⟨V, rfl, h1, rfl, h3, h⟩
      · rw [dK_full h1 h2 h3] at h; cases h
  · rw [dK_no h1] at h; cases h
set_option maxRecDepth 100000 in
set_option maxHeartbeats 2000000 in
theorem exploredDesign_all (v : Int) (A : Option Addr) (n c : Nat) (bs : List (List Int)) (b : Int) (w : World) (ha : RR w A n bs) (hn : n ≤ 9223372036854775807) :
    Calls Tryz.prog 80 #[.agg #[.int .i64 v, .slice A n c], .int .i64 b] w (RetDX w v bs b) := by
  have hb1 := below_alloc w (.cells #[.int .i64 v, .slice A n c] 56)
  have X := Blk.new w 56 #[.int .i64 v, .slice A n c]
  have hv := validDesign_any v A n c bs _ (ha.keep hb1) hn
  generalize hW1 : w.alloc (.cells #[.int .i64 v, .slice A n c] 56) = W1 at *
  obtain ⟨x0, x1⟩ := X.cells2
  by_cases h1 : Design v bs
  · rw [tB_yes h1] at hv
    obtain ⟨V, rfl⟩ : ∃ V : Nat, v = (V : Int) := ⟨v.toNat, by have := h1.v1; omega⟩
    have HG := Lib.hid (fun (w' : World) (h : Below w.heap.size w w') => designGraph_any V A n c bs w' (ha.keep h) h1)
    have H1 := Lib.hid h1
    clear h1
    cases hi : inB b 1 20000 with
    | false =>
      have HK := Lib.hid (dK_bud H1.out hi)
      go_enter Tryz.func80, Tryz.ntmps80
      go_wp2_with fail
      clear x0 x1
      refine hv.mono ?_
      rintro e w2 ⟨rfl, hb2⟩
      go_wp2_with fail
      refine (isBudget_any _ _).mono ?_
      rintro e w' ⟨rfl, rfl⟩
      rw [hi]
      go_wp2
      go_ret2
      exact ⟨hb1.trans (hb2.mono hb1.size), _, by rw [HK.out]; rfl, fun h => by rw [HK.out] at h; cases h⟩
    | true =>
      rcases dgK_cases V bs with ⟨h0, -⟩ | h5
      · have HK := Lib.hid (dK_ok H1.out hi h0)
        go_enter Tryz.func80, Tryz.ntmps80
        go_wp2_with fail
        clear x0 x1
        refine hv.mono ?_
        rintro e w2 ⟨rfl, hb2⟩
        have X2 := X.after hb2
        have hw2 := hb1.trans (hb2.mono hb1.size)
        obtain ⟨x0, x1⟩ := X2.cells2
        clear hv hb1 hb2 X
        go_wp2_with fail
        refine (isBudget_any _ _).mono ?_
        rintro e w' ⟨rfl, rfl⟩
        rw [hi]
        go_wp2_with fail
        clear x0 x1
        refine (HG.out w2 hw2).mono ?_
        rintro e w3 ⟨A', n', c', F', m', d', rfl, hG, q1, q2, hb3⟩
        rw [h0]
        have hw3 := hw2.trans (hb3.mono hw2.size)
        have hal := below_alloc w3 (.cells #[.slice A' n' c', .slice F' m' d'] 46)
        obtain ⟨y0, y1⟩ := (Blk.new w3 46 #[.slice A' n' c', .slice F' m' d']).cells2
        have hw4 := hw3.trans (hal.mono hw3.size)
        have hex := explored_any' _ A' n' c' F' m' d' (dgC V bs) (dgE V bs) b (hG.keep hal) (by omega) (by omega)
        clear hw2 hw3 hal hG hb3 h0 X2
        go_wp2_with fail
        refine hex.mono ?_
        rintro e w5 h5
        obtain ⟨hb5, u, rfl, hu⟩ := h5.one
        have HU := Lib.hid hu
        clear hu h5 hex
        go_wp2
        go_ret2
        refine ⟨hw4.trans (hb5.mono hw4.size), u, by rw [HK.out]; rfl, fun hz => ?_⟩
        rw [HK.out] at hz
        exact ⟨A', n', c', F', m', d', by rw [Int.toNat_natCast]; exact (HU.out hz).from hw4⟩
      · have HK := Lib.hid (dK_full H1.out hi h5)
        go_enter Tryz.func80, Tryz.ntmps80
        go_wp2_with fail
        clear x0 x1
        refine hv.mono ?_
        rintro e w2 ⟨rfl, hb2⟩
        have X2 := X.after hb2
        have hw2 := hb1.trans (hb2.mono hb1.size)
        obtain ⟨x0, x1⟩ := X2.cells2
        clear hv hb1 hb2 X
        go_wp2_with fail
        refine (isBudget_any _ _).mono ?_
        rintro e w' ⟨rfl, rfl⟩
        rw [hi]
        go_wp2_with fail
        clear x0 x1
        refine (HG.out w2 hw2).mono ?_
        rintro e w3 ⟨A', n', c', F', m', d', rfl, -, q1, q2, hb3⟩
        rw [h5]
        have hw3 := hw2.trans (hb3.mono hw2.size)
        have hal := below_alloc w3 (.cells #[.slice A' n' c', .slice F' m' d'] 46)
        have hw4 := hw3.trans (hal.mono hw3.size)
        clear hw2 hw3 hal hb3 h5 X2
        go_wp2
        go_ret2
        exact ⟨hw4, _, by rw [HK.out]; rfl, fun h => by rw [HK.out] at h; cases h⟩
  · rw [tB_no h1] at hv
    have HK := Lib.hid (dK_no h1 b)
    clear h1
    go_enter Tryz.func80, Tryz.ntmps80
    go_wp2_with fail
    clear x0 x1
    refine hv.mono ?_
    rintro e w2 ⟨rfl, hb2⟩
    go_wp2
    go_ret2
    exact ⟨hb1.trans (hb2.mono hb1.size), _, by rw [HK.out]; rfl, fun h => by rw [HK.out] at h; cases h⟩
end Go.Proofs.YtdkbcjdimhgmnaaGreat
namespace Go.Proofs.YtdkbcjdimhgmnaaGreat
theorem idxG_up {α : Type} {c : α → α → Int} (h : TOrd c) {l : List α} (hl : StrictL c l) {x y : α} (hx : x ∈ l) (hy : y ∈ l) (hxy : c x y < 0) : idxG c l x < idxG c l y := by
  have h1 : idxG c l x ≤ idxG c l y := List.countP_mono_left fun z _ hz => by
    simp only [decide_eq_true_eq] at hz ⊢
    exact h.lt_trans hz hxy
  have h2 : idxG c l x ≠ idxG c l y := fun e => by
    have := idxG_inj h hl hx hy e
    subst this
    have := h.self x
    omega
  omega
def UpL (c d : List Int) : Prop := d.length = c.length ∧ ∀ u v, u < c.length → v < c.length → nth c u < nth c v → nth d u < nth d v
theorem UpL.refl (c : List Int) : UpL c c := ⟨rfl, fun _ _ _ _ h => h⟩
theorem UpL.trans {c d e : List Int} (h : UpL c d) (k : UpL d e) : UpL c e :=
  ⟨by rw [k.1, h.1], fun u v hu hv hlt => k.2 u v (by rw [h.1]; exact hu) (by rw [h.1]; exact hv) (h.2 u v hu hv hlt)⟩
theorem roundP_up (near : List (List Int)) (cells : List Int) : UpL cells (roundP near cells) := by
  refine ⟨roundP_len, fun u v hu hv h => ?_⟩
  rw [roundP_nth hu, roundP_nth hv]
  have := idxG_up cmpL_ord (setG_strict cmpL_ord (keysP near cells)) (kindsP_mem (near := near) hu) (kindsP_mem (near := near) hv) (by unfold keyP; rw [cmpL, if_pos h]; omega)
  exact Int.ofNat_lt.2 this
theorem refF_up (near : List (List Int)) : ∀ (f : Nat) (cells : List Int), UpL cells (refF near f cells) := by
  intro f
  induction f with
  | zero => intro cells; exact roundP_up near cells
  | succ f ih =>
    intro cells
    rw [refF]
    split
    · exact roundP_up near cells
    · exact (roundP_up near cells).trans (ih _)
theorem refP_up (near : List (List Int)) (cells : List Int) : UpL cells (refP near cells) := refF_up near _ cells
theorem splitP_up (cells : List Int) (v : Nat) : UpL cells (splitP cells v) := by
  refine ⟨splitP_len cells v, fun u w hu hw h => ?_⟩
  rw [splitP_nth hu, splitP_nth hw]
  by_cases h1 : u = v
  · by_cases h2 : w = v
    · subst h1; subst h2; omega
    · rw [if_pos h1, if_neg h2]; subst h1; omega
  · by_cases h2 : w = v
    · rw [if_neg h1, if_pos h2]; subst h2; omega
    · rw [if_neg h1, if_neg h2]; omega
theorem Leaf.up {near : List (List Int)} {c p : List Int} (h : Leaf near c p) : UpL c p := by
  induction h with
  | here => exact UpL.refl _
  | down v h hv ht hp ih => exact ((splitP_up _ v).trans (refP_up near _)).trans ih
theorem runP_up (cs : List Int) (es : List Ed) (b : Nat) {p : List Int} (hp : p ∈ (runP cs es b).best) : UpL cs p := (refP_up _ cs).trans (runP_leaf cs es b p hp).up
theorem up_low {v m : Nat} {p : List Int} (h : UpL (dsC v m) p) (hp : Perm p) {u : Nat} (hu : u < v) : nth p u < (v : Int) := by
  have hl : p.length = v + m := by rw [h.1, dsC_len]
  by_cases hc : nth p u < (v : Int)
  · exact hc
  · exfalso
    have hub := hp.bd u (by omega)
    have hgt : ∀ j, j < m → nth p u < nth p (v + j) := fun j hj => h.2 u (v + j) (by rw [dsC_len]; omega) (by rw [dsC_len]; omega) (by
      have e1 : nth (dsC v m) u = 0 := by
        rw [nth_get (by rw [dsC_len]; omega)]
        unfold dsC
        rw [List.getElem_append_left (by simpa using hu), List.getElem_replicate]
      have e2 : nth (dsC v m) (v + j) = 1 := by
        rw [nth_get (by rw [dsC_len]; omega)]
        unfold dsC
        rw [List.getElem_append_right (by simp), List.getElem_replicate]
      omega)
    have hnd : ((List.range (m + 1)).map fun j => if j = m then nth p u else nth p (v + j)).Nodup := by
      rw [List.Nodup, List.pairwise_map]
      refine List.pairwise_lt_range.imp_of_mem fun {i j} hi hj hij => ?_
      have hi := List.mem_range.1 hi
      have hj := List.mem_range.1 hj
      rw [if_neg (by omega)]
      by_cases hjm : j = m
      · rw [if_pos hjm]
        have := hgt i (by omega)
        omega
      · rw [if_neg hjm]
        exact hp.ne (v + i) (v + j) (by omega) (by omega)
    have hsub : ((List.range (m + 1)).map fun j => if j = m then nth p u else nth p (v + j)) ⊆ ((List.range m).map fun (j : Nat) => ((v + j : Nat) : Int)) := by
      intro x hx
      obtain ⟨j, hj, rfl⟩ := List.mem_map.1 hx
      have hj := List.mem_range.1 hj
      have key : ∀ x : Int, (v : Int) ≤ x → x < ((v + m : Nat) : Int) → x ∈ ((List.range m).map fun (j : Nat) => ((v + j : Nat) : Int)) := fun x h1 h2 => List.mem_map.2 ⟨(x - v).toNat, List.mem_range.2 (by omega), by omega⟩
      by_cases hjm : j = m
      · simp only [hjm, if_true]
        exact key _ (by omega) (by omega)
      · simp only [hjm, if_false]
        have h1 := hgt j (by omega)
        have h2 := hp.bd (v + j) (by omega)
        exact key _ (by omega) (by omega)
    have := List.Nodup.length_le_of_subset hnd hsub
    simp only [List.length_map, List.length_range] at this
    omega
theorem nth_takeL {p : List Int} {v k : Nat} (h : k < v) : nth (p.take v) k = nth p k := by
  unfold nth
  simp [List.getD, List.getElem?_take, h]
theorem up_perm {v m : Nat} {p : List Int} (h : UpL (dsC v m) p) (hp : Perm p) : (p.take v).length = v ∧ Perm (p.take v) := by
  have hl : p.length = v + m := by rw [h.1, dsC_len]
  have hlt : (p.take v).length = v := by rw [List.length_take]; omega
  refine ⟨hlt, fun k hk => ?_, fun i j hij hj => ?_⟩
  · rw [hlt] at hk ⊢
    rw [nth_takeL hk]
    exact ⟨(hp.bd k (by omega)).1, up_low h hp hk⟩
  · rw [hlt] at hj
    rw [nth_takeL (by omega), nth_takeL hj]
    exact hp.ne i j hij (by omega)
theorem up_take_inv {v m : Nat} {p : List Int} (h : UpL (dsC v m) p) (hp : Perm p) {x : Nat} (hx : x < v) : nth (invP (p.take v)) x = nth (invP p) x := by
  have hl : p.length = v + m := by rw [h.1, dsC_len]
  obtain ⟨h1, h2⟩ := up_perm h hp
  obtain ⟨k, hk, hkx⟩ := perm_surj h2 (i := x) (by omega)
  have e1 := invP_nth h2 hk
  rw [h1] at hk
  rw [hkx, Int.toNat_natCast] at e1
  rw [nth_takeL hk] at hkx
  have e2 := invP_nth hp (v := k) (by omega)
  rw [hkx, Int.toNat_natCast] at e2
  rw [e1, e2]
theorem cut_then {v m : Nat} {p q : List Int} (h : UpL (dsC v m) p) (hp : Perm p) (k : UpL (dsC v m) q) (hq : Perm q) :
    (thenP p (invP q)).take v = thenP (p.take v) (invP (q.take v)) := by
  have hl : p.length = v + m := by rw [h.1, dsC_len]
  obtain ⟨h1, h2⟩ := up_perm h hp
  refine nth_ext (by rw [List.length_take, thenP_len, thenP_len, h1, hl]; omega) fun j hj => ?_
  rw [List.length_take, thenP_len, hl] at hj
  have hjv : j < v := by omega
  rw [nth_takeL hjv, thenP_nth (by omega), thenP_nth (by omega), nth_takeL hjv]
  have hlow := up_low h hp hjv
  have hb := hp.bd j (by omega)
  exact (up_take_inv k hq (by omega)).symm
end Go.Proofs.YtdkbcjdimhgmnaaGreat
namespace Go.Proofs.YtdkbcjdimhgmnaaGreat
open Go.RowKit
theorem then_step {p q : List Int} {k : Nat} (hk : k < p.length) {x : Int} (hx : nth q (nth p k).toNat = x) : (thenP p q).take k ++ [x] = (thenP p q).take (k + 1) := by
  rw [List.take_succ_eq_append_getElem (by rw [thenP_len]; exact hk), ← nth_get, thenP_nth hk, hx]
set_option maxRecDepth 100000 in
set_option maxHeartbeats 1000000 in
theorem l04Times_any (A : Option Addr) (n c : Nat) (p : List Int) (B : Option Addr) (m d : Nat) (q : List Int) (w : World) (ha : RI w A n p) (hb : RI w B m q) (hp : Perm p) (hnm : n ≤ m) (hn : m ≤ 1048576) :
    Calls Tryz.prog 242 #[.slice A n c, .slice B m d] w (RetI w 2 (thenP p q)) := by
  have hla := Lib.hid ha.len
  have HP := Lib.hid hp
  clear hp
  have ho0 : OI (w.alloc (.cells #[] 2)) w.heap.size 2 (some ⟨w.heap.size, 0, none⟩) 0 0 ((thenP p q).take 0) := ⟨OS.lit w w.heap.size 2 1 0 #[] (Nat.le_refl _) rfl (by omega), fun _ h => by cases h⟩
  have hb0 := below_alloc w (.cells #[] 2)
  go_enter Tryz.func242, Tryz.ntmps242
  go_wp2
  go_loopw [5, 6] (fun t i wr => ∃ (k : Nat) (T : Option Addr) (e : Nat), k ≤ n ∧ i = .int .i64 k ∧ t = .slice T k e ∧ OI wr w.heap.size 2 T k e ((thenP p q).take k) ∧ Below w.heap.size w wr) (fun _ i _ => n - (intOf i).toNat)
  case atStart => exact ⟨0, _, _, Nat.zero_le _, rfl, rfl, ho0, hb0⟩
  case round =>
    clear ho0 hb0
    obtain ⟨k, T, e, hk, rfl, rfl, ho, hw⟩ := hrel
    by_cases hlt : k < n
    · obtain ⟨a, rfl, hca, -⟩ := (ha.keep hw).get hlt
      obtain ⟨x, hx, hxn⟩ := perm_nat HP.out hla.out hlt
      obtain ⟨a2, rfl, hcb, hib⟩ := (hb.keep hw).get (k := x) (by omega)
      have hst := Lib.hid (then_step (p := p) (q := q) (k := k) (by rw [hla.out]; exact hlt) (by rw [hx, Int.toNat_natCast]))
      rw [hx] at hca
      clear hx
      generalize nth q x = z at *
      go_wp2_with (at_builtin; refine app_int _ rfl _ _ rfl w.heap.size T k e _ rfl ho z _ rfl (by simp) hib (by omega) hw.size ?_; intro A' c' w3 ho3 hg3 hn3)
      have hw3 := below_own hw hg3 hw.size (fun b hb => (ho.os.lt hb).1)
      rw [hst.out] at ho3
      go_roundw
      case rel => exact ⟨k + 1, A', c', by omega, by go_num, rfl, ho3, hw3⟩
      case measure => simp [intOf]; omega
    · obtain rfl : k = n := by omega
      rw [List.take_of_length_le (by rw [thenP_len, hla.out]; exact Nat.le_refl _)] at ho
      go_wp2
      go_ret
      exact ⟨_, _, _, rfl, ho, hw⟩
def FdAt (zss : List (List Int)) (x : List Int) (k : Nat) (f : Bool) : Prop :=
  k ≤ zss.length ∧ ((f = true ∧ x ∈ zss) ∨ (f = false ∧ (∀ i, i < k → cmpL (row zss i) x < 0) ∧ ∀ i, k ≤ i → i < zss.length → 0 < cmpL (row zss i) x))
def FdTo (zss : List (List Int)) (x : List Int) (lo hi : Nat) : Prop :=
  (∀ i, i < lo → cmpL (row zss i) x < 0) ∧ ∀ i, hi ≤ i → i < zss.length → 0 < cmpL (row zss i) x
theorem fdTo_low {zss : List (List Int)} {x : List Int} (hs : StrictL cmpL zss) {lo hi m : Nat} (h : FdTo zss x lo hi) (hm : m < zss.length) (hc : cmpL (row zss m) x < 0) : FdTo zss x (m + 1) hi := by
  refine ⟨fun i hi' => ?_, h.2⟩
  by_cases e : i = m
  · rw [e]; exact hc
  · have h1 := List.pairwise_iff_getElem.1 hs i m (by omega) hm (by omega)
    rw [← row_get (by omega), ← row_get hm] at h1
    exact cmpL_ord.lt_trans h1 hc
theorem fdTo_high {zss : List (List Int)} {x : List Int} (hs : StrictL cmpL zss) {lo hi m : Nat} (h : FdTo zss x lo hi) (hm : m < zss.length) (hc : 0 < cmpL (row zss m) x) : FdTo zss x lo m := by
  refine ⟨h.1, fun i hi' hil => ?_⟩
  by_cases e : i = m
  · rw [e]; exact hc
  · have h1 := List.pairwise_iff_getElem.1 hs m i hm hil (by omega)
    rw [← row_get hm, ← row_get hil] at h1
    have h2 := cmpL_ord.swap (row zss m) x
    have h3 := cmpL_ord.lt_trans (x := x) (by omega) h1
    have h4 := cmpL_ord.swap x (row zss i)
    omega
set_option maxRecDepth 100000 in
set_option maxHeartbeats 2000000 in
theorem l05Find_any (A : Option Addr) (n c : Nat) (zss : List (List Int)) (X : Option Addr) (p q : Nat) (x : List Int) (w : World) (ha : RR w A n zss) (hn : n ≤ 1048576) (hx : RI w X p x) (hp : p ≤ q) (hq : q ≤ 9223372036854775807) (hs : StrictL cmpL zss) :
    Calls Tryz.prog 205 #[.slice A n c, .slice X p q] w (fun e w' => ∃ (k : Nat) (f : Bool), e = .returned (.tuple #[.int .i64 k, .bool f]) ∧ FdAt zss x k f ∧ Drawn w w') := by
  have hla := Lib.hid ha.len
  have HS := Lib.hid hs
  clear hs
  go_enter Tryz.func205, Tryz.ntmps205
  go_wp2
  go_loopw [6, 7] (fun l h wr => ∃ (lo hi : Nat), lo ≤ hi ∧ hi ≤ n ∧ l = .int .i64 lo ∧ h = .int .i64 hi ∧ Drawn w wr ∧ FdTo zss x lo hi) (fun l h _ => (intOf h).toNat - (intOf l).toNat)
  case atStart => exact ⟨0, n, Nat.zero_le _, Nat.le_refl _, rfl, rfl, Drawn.refl _, fun i h => by omega, fun i h1 h2 => by rw [hla.out] at h2; omega⟩
  case round =>
    obtain ⟨lo, hi, hlh, hhn, rfl, rfl, hd, hto⟩ := hrel
    by_cases hlt : lo < hi
    · have hq2 : Int.tdiv ((lo : Int) + (hi : Int)) 2 = (((lo + hi) / 2 : Nat) : Int) := by rw [Int.tdiv_eq_ediv_of_nonneg (by omega)]; omega
      obtain ⟨m, hm⟩ : ∃ m : Nat, (lo + hi) / 2 = m := ⟨_, rfl⟩
      rw [hm] at hq2
      have hm1 : lo ≤ m ∧ m < hi := by omega
      have hmn : m < n := by omega
      obtain ⟨a, Y, p1, q1, rfl, hca, hp1, hq1, hri⟩ := (ha.drawn hd).get hmn
      have hcmp := compareLists_any Y X p1 p q1 q _ x wr hri (hx.keep hd.below) (by omega) (by omega)
      have hbd := cmpL_bd (row zss m) x
      have HM := Lib.hid (show m < zss.length by rw [hla.out]; exact hmn)
      clear hm
      by_cases h0 : cmpL (row zss m) x = 0
      · have HF := Lib.hid (show FdAt zss x m true from ⟨Nat.le_of_lt HM.out, .inl ⟨rfl, by rw [← cmpL_zero h0, row_get HM.out]; exact List.getElem_mem _⟩⟩)
        rw [h0] at hcmp
        clear hto h0 hbd hri
        go_wp2_with fail
        refine hcmp.mono ?_
        rintro e w1 ⟨rfl, hd1⟩
        clear hcmp
        go_wp2
        go_ret2
        exact ⟨m, true, rfl, HF.out, hd.trans hd1⟩
      · by_cases h1 : cmpL (row zss m) x < 0
        · have HT := Lib.hid (fdTo_low HS.out hto HM.out h1)
          generalize cmpL (row zss m) x = s at *
          have e1 : (s == 0) = false := by simpa using h0
          clear hto hri h0
          go_wp2_with fail
          refine hcmp.mono ?_
          rintro e w1 ⟨rfl, hd1⟩
          clear hcmp
          go_wp2
          go_roundw
          case rel => exact ⟨m + 1, hi, by omega, hhn, by go_num, rfl, hd.trans hd1, HT.out⟩
          case measure => simp [intOf]; omega
        · have HT := Lib.hid (fdTo_high HS.out hto HM.out (by omega))
          generalize cmpL (row zss m) x = s at *
          have e1 : (s == 0) = false := by simpa using h0
          clear hto hri h0
          go_wp2_with fail
          refine hcmp.mono ?_
          rintro e w1 ⟨rfl, hd1⟩
          clear hcmp
          go_wp2
          go_roundw
          case rel => exact ⟨lo, m, by omega, by omega, rfl, rfl, hd.trans hd1, HT.out⟩
          case measure => simp [intOf]; omega
    · obtain rfl : lo = hi := by omega
      have HF := Lib.hid (show FdAt zss x lo false from ⟨by rw [hla.out]; exact hhn, .inr ⟨rfl, hto.1, hto.2⟩⟩)
      go_wp2
      go_ret2
      exact ⟨lo, false, rfl, HF.out, hd⟩
theorem RR.sls {w : World} {A : Option Addr} {n : Nat} {zss : List (List Int)} (h : RR w A n zss) :
    ∃ vs : List Sl, Rows w vs zss ∧ ∀ j v, vs[j]? = some v → ∃ ad, A = some ad ∧ w.cell? (ad.add j) = some (slv v) := by
  have key : ∀ k, k ≤ n → ∃ vs : List Sl, Rows w vs (zss.take k) ∧ ∀ j v, vs[j]? = some v → ∃ ad, A = some ad ∧ w.cell? (ad.add j) = some (slv v) := by
    intro k
    induction k with
    | zero => intro _; exact ⟨[], by simpa using Rows.nil_ w, fun j v hv => by simp at hv⟩
    | succ k ih =>
      intro hk
      obtain ⟨vs, h1, h2⟩ := ih (by omega)
      obtain ⟨ad, B, m, c, ha, hc, hm, hcc, hr⟩ := h.get (k := k) (by omega)
      refine ⟨vs ++ [(B, m, c)], ?_, fun j v hv => ?_⟩
      · rw [List.take_succ_eq_append_getElem (by rw [h.len]; omega), ← row_get (by rw [h.len]; omega)]
        exact h1.snoc hm hcc hr
      · rw [List.getElem?_append] at hv
        split at hv
        · exact h2 j v hv
        · rename_i hj
          have hl : vs.length = k := by rw [h1.len, List.length_take, h.len]; omega
          have e : j - vs.length = 0 := by have := (List.getElem?_eq_some_iff.1 hv).1; simp at this; omega
          rw [e] at hv
          simp at hv
          subst hv
          obtain rfl : j = k := by omega
          exact ⟨ad, ha, hc⟩
  obtain ⟨vs, h1, h2⟩ := key n (Nat.le_refl _)
  rw [List.take_of_length_le (by rw [h.len]; exact Nat.le_refl _)] at h1
  exact ⟨vs, h1, h2⟩
section
variable {ops : Array Oper} {rest : List Oper} {o : Oper} {a : Act} {Q : Exit → Act → World → Prop}
theorem app_sls (w : World) (hgd : o.guard = none) (s x : Operand) (ho : o.op = .call { callee := .builtin .append, args := #[s, x], argTypes := #[25, 25] })
    (B : Nat) (A : Option Addr) (n c : Nat) (vs : List Sl) (hs : a.eval s = .slice A n c) (hown : OS w B 22 1 A n c (vs.map slv))
    (A2 : Option Addr) (m c2 : Nat) (us : List Sl) (hx : a.eval x = .slice A2 m c2) (hl : us.length = m) (hu : ∀ j v, us[j]? = some v → ∃ ad, A2 = some ad ∧ w.cell? (ad.add j) = some (slv v)) (hbig : n + m ≤ 2199023255552) (hB : B ≤ w.heap.size)
    (h : ∀ A' c' w', OS w' B 22 1 A' (n + m) c' ((vs ++ us).map slv) → w.grownBy w' (blk A) → (blk A' = blk A ∨ blk A' = some w.heap.size) → wpList Tryz.prog ops Q rest (a.put o.dst (.slice A' (n + m) c')) w') :
    wpList Tryz.prog ops Q (o :: rest) a w :=
  wpList_app w hgd s x 25 ho 22 (.slice none 0 0) 1 24 Tryz.underlying25 ints_info rfl (by omega) (by omega) B A n c (vs.map slv) hs hown A2 m c2 (us.map slv) hx (by simp [hl])
    (fun j u hj => by
      rw [List.getElem?_map] at hj
      cases e : us[j]? with
      | none => rw [e] at hj; cases hj
      | some v =>
        rw [e] at hj
        simp only [Option.map_some, Option.some.injEq] at hj
        subst hj
        exact hu j v e)
    (fun u hu => by obtain ⟨v, -, rfl⟩ := List.mem_map.1 hu; rfl) hbig hB
    fun A' c' w' h1 h2 h3 => h A' c' w' (by rw [List.map_append]; exact h1) h2 h3
end
theorem add_add_ (ad : Addr) (k j : Nat) : (ad.add k).add j = ad.add (k + j) := by
  unfold Addr.add
  by_cases hk : k = 0
  · subst hk; simp
  · by_cases hj : j = 0
    · subst hj; simp
    · simp [hk, hj, Nat.add_assoc]
theorem RR.drop_ {w : World} {ad : Addr} {n : Nat} {zss : List (List Int)} (h : RR w (some ad) n zss) {k : Nat} (hk : k ≤ n) : RR w (some (ad.add k)) (n - k) (zss.drop k) := by
  refine ⟨by rw [List.length_drop, h.len], fun j z hz => ?_⟩
  rw [List.getElem?_drop] at hz
  obtain ⟨ad', v, ha, hc, r⟩ := h.2 (k + j) z hz
  cases ha
  exact ⟨ad.add k, v, rfl, by rw [add_add_ ad k j]; exact hc, r⟩
end Go.Proofs.YtdkbcjdimhgmnaaGreat
