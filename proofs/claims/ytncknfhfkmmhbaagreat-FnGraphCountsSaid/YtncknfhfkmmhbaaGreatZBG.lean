/- One round of refinement: the program's side. No condition beyond those stated. -/
import Derived.Test.YtncknfhfkmmhbaaGreatZBE
import Derived.Test.YtncknfhfkmmhbaaGreatZBF
import Derived.Test.YtncknfhfkmmhbaaGreatZAN
set_option linter.unusedVariables false
set_option linter.unusedSimpArgs false
namespace Go.Proofs.YtncknfhfkmmhbaaGreat
open Go.RowKit Go.Sort

/-- the keys of the first k of n vertices, the others not yet there -/
def keysF (near : List (List Int)) (cells : List Int) (k n : Nat) : List (List Int) := keysTo near cells k ++ List.replicate (n - k) []
theorem keysF_zero (near : List (List Int)) (cells : List Int) (n : Nat) : keysF near cells 0 n = List.replicate n [] := by simp [keysF, keysTo]
theorem keysF_step (near : List (List Int)) (cells : List Int) {k n : Nat} (h : k < n) : (keysF near cells k n).set k (keyP near cells k) = keysF near cells (k + 1) n := by
  unfold keysF
  rw [List.set_append_right _ _ (by rw [keysTo_len]; omega), keysTo_len, Nat.sub_self, show n - k = (n - (k + 1)) + 1 by omega, List.replicate_succ, List.set_cons_zero, keysTo_step, List.append_assoc]
  rfl
theorem keysF_all (near : List (List Int)) (cells : List Int) (n : Nat) : keysF near cells n n = keysTo near cells n := by simp [keysF]
/-- the numbers of the first k vertices, the others 0 -/
def nextF (zs : List Int) (k : Nat) : List Int := zs.take k ++ List.replicate (zs.length - k) 0
theorem nextF_zero (zs : List Int) : nextF zs 0 = List.replicate zs.length 0 := by simp [nextF]
theorem nextF_step {zs : List Int} {k : Nat} (h : k < zs.length) : (nextF zs k).set k (nth zs k) = nextF zs (k + 1) := by
  have hl : (zs.take k).length = k := by rw [List.length_take]; omega
  unfold nextF
  rw [List.set_append_right _ _ (by omega), hl, Nat.sub_self, show zs.length - k = (zs.length - (k + 1)) + 1 by omega, List.replicate_succ, List.set_cons_zero, List.take_succ_eq_append_getElem h, List.append_assoc, nth_get h]
  rfl
theorem nextF_all (zs : List Int) : nextF zs zs.length = zs := by simp [nextF]
theorem PV.below {w w' : World} {B : Nat} {e2 : TypeId} {g n c : Nat} {Z : List PL} (h : PV w B e2 g n c Z) (hb : RowKit.Below w.heap.size w w') : PV w' B e2 g n c Z :=
  ⟨h.os.below hb, fun p hp => let ⟨a, b, d, e⟩ := h.rows p hp; ⟨a, b, d.keep hb, e⟩⟩
set_option maxRecDepth 100000 in
set_option maxHeartbeats 4000000 in
theorem refineOnce_any (L : Option Addr) (n c : Nat) (near : List (List Int)) (A : Option Addr) (d : Nat) (cells : List Int) (w : World) (ha : RR w L n near) (hc : RI w A n cells) (hn : n ≤ 4096) (hnr : Nears n near) :
    Calls Tryz.prog 88 #[.slice L n c, .slice A n d] w (RetI w 2 (roundP near cells)) := by
  have hla := Lib.hid ha.len
  have hlc := Lib.hid hc.len
  have HN := Lib.hid hnr; clear hnr
  have hmk := run_make_row' (P := Tryz.prog) 46 33 (.slice none 0 0) 24 Tryz.underlying46 ints_info rfl .i64 .i64 n (by omega) (by omega)
  have ho0 := OR.made w w.heap.size (e2 := 33) (e1 := 2) (by decide) n (Nat.le_refl _) (by omega)
  have hw0 := below_alloc w (.cells (madeCells #[.slice none 0 0] n) 33)
  go_enter Tryz.func88, Tryz.ntmps88
  go_wp2
  clear hmk
  go_loopw [22] (fun i wr => ∃ k : Nat, k ≤ n ∧ i = .int .i64 k ∧ OR wr w.heap.size 33 2 (some ⟨w.heap.size, 0, none⟩) n n (keysF near cells k n) ∧ Below w.heap.size w wr) (fun i _ => n - (intOf i).toNat)
  case atStart => exact ⟨0, Nat.zero_le _, rfl, by rw [keysF_zero]; exact ho0, hw0⟩
  case round =>
    clear ho0 hw0
    obtain ⟨k, hk, rfl, ho, hw⟩ := hrel
    by_cases hlt : k < n
    · obtain ⟨aL, Y, p1, q1, rfl, hcL, hp1, hq1, hri⟩ := (ha.keep hw).get hlt
      obtain ⟨aC, rfl, hcC, hiC⟩ := (hc.keep hw).get hlt
      have hly := Lib.hid hri.len
      have hfew := HN.out.few k hlt
      have hp1n : p1 ≤ n := by rw [← hly.out]; exact hfew
      have HK := Lib.hid (keyP_arTo near cells k)
      rw [hly.out] at HK
      have HO := Lib.hid ho
      have hsz := hw.size
      clear ho hfew
      generalize nth cells k = z at *
      go_wp2
      obtain ⟨wo, rfl⟩ : ∃ wo : World, wo = wr := ⟨_, rfl⟩
      go_loopw [8, 32] (fun v i w2 => ∃ (j : Nat) (A2 : Option Addr) (c2 : Nat), j ≤ p1 ∧ i = .int .i64 j ∧ v = .slice A2 j c2 ∧ OI w2 wo.heap.size 2 A2 j c2 (arTo near cells k j) ∧ Below wo.heap.size wo w2) (fun _ i _ => p1 - (intOf i).toNat)
      case atStart => exact ⟨0, _, _, Nat.zero_le _, rfl, rfl, by rw [arTo_zero]; exact OI.nil_ _ _ _, Below.refl _ _⟩
      case round =>
        obtain ⟨j, A2, c2, hj, rfl, rfl, hl, hb⟩ := hrel
        by_cases hjl : j < p1
        · obtain ⟨aY, rfl, hcY, hiY⟩ := (hri.keep hb).get hjl
          obtain ⟨u, hu, hun⟩ := HN.out.at_ hlt (i := j) (by rw [hly.out]; exact hjl)
          obtain ⟨aC2, e2, hcU, hiU⟩ := (hc.keep (below_then hw hb)).get hun
          injection e2 with e2
          subst e2
          have HA := Lib.hid (arTo_step (cells := cells) (by rw [hly.out]; exact hjl) hu)
          rw [hu] at hcY
          clear hu hiY
          generalize nth cells u = zu at *
          go_wp2_with (at_builtin; refine app_int _ rfl (.tmp 36) (.tmp 41) rfl wo.heap.size A2 j c2 _ rfl hl zu _ rfl (by simp) hiU (by omega) hb.size ?_; intro A3 c3 w3 ho3 hg3 hn3)
          have hw3 := below_own hb hg3 hb.size (fun b hb => (hl.os.lt hb).1)
          clear hl hg3 hn3 hcY hcU
          go_roundw
          case rel => exact ⟨j + 1, _, _, by omega, by go_num, rfl, by rw [HA.out]; exact ho3, hw3⟩
          case measure => simp [intOf]; omega
        · obtain rfl : j = p1 := by omega
          generalize arTo near cells k j = ar at *
          go_wp2_with fail
          refine (sort_any wo.heap.size 2 A2 j c2 ar wr hl (by omega)).mono ?_
          rintro e w3 ⟨rfl, hl3, hg3⟩
          have hb3 := below_own hb hg3 hb.size (fun b hb => (hl.os.lt hb).1)
          have hone := OI.lit w3 wo.heap.size 2 [z] hb3.size (by simp) (All64.one hiC)
          have hrl := hl3.reads.keep (below_alloc w3 (.cells #[.int .i64 z] 2))
          have hb4 := hb3.alloc hb3.size (.cells #[.int .i64 z] 2)
          clear hl hb hg3
          obtain ⟨vs, hov⟩ := HO.out
          obtain ⟨g, v, eg, hv, hcg, hfg, hoi⟩ := hov.get hlt
          injection eg with eg
          injection eg with eg
          subst eg
          have hgl := block_lt hcg
          go_wp2_with (at_builtin; refine app_ints _ rfl (.tmp 49) (.tmp 50) rfl wo.heap.size (some ⟨w3.heap.size, 0, none⟩) 1 1 [z] rfl hone A2 j c2 (srt ar) rfl hrl (by omega) (by have := hb3.size; simp; omega) ?_; intro A4 c4 w4 ho4 hg4 hn4; have hb5 := below_own hb4 hg4 (by have := hb3.size; simp; omega) (fun b hb => (hone.os.lt hb).1); have hcg4 := below_cell hb5 hcg; have hfg4 : w4.frozen? ⟨w.heap.size, k, none⟩ = false := (hb5.frozen (p := ⟨w.heap.size, k, none⟩) hgl).trans hfg)
          have hor := hov.upd (v' := (A4, 1 + j, c4)) hv (grownBy_of_below hb5 _) (ho4.more hsz) (by
            cases h : blk A4 with
            | none => exact .inl rfl
            | some b => exact .inr (.inr ⟨b, rfl, (ho4.os.lt h).1⟩))
          have hw4 := (hw.trans (hb5.mono hsz)).setCell (p := ⟨w.heap.size, k, none⟩) (Nat.le_refl _) (.slice A4 (1 + j) c4)
          have HS := Lib.hid (keysF_step near cells hlt)
          rw [HK.out] at HS
          clear hov ho4 hg4 hn4 hb5 hone hrl hb4 hcg4 hfg4 hcg hfg hoi hl3 hb3 hcL hcC
          go_roundw
          case rel => exact ⟨k + 1, by omega, by go_num, by rw [← HS.out]; exact hor, hw4⟩
          case measure => simp [intOf]; omega
    · obtain rfl : k = n := by omega
      rw [keysF_all] at ho
      obtain ⟨vs, hov⟩ := ho
      have hrw : Rows wr vs (keysTo near cells k) := ⟨hov.len, fun j v z hv hz => let h := hov.rows j v z hv hz; ⟨h.os.cap.1, h.os.cap.2, h.reads⟩⟩
      have hbv : ∀ v ∈ vs, ∀ b, blk v.1 = some b → b < wr.heap.size := fun v hv b hb => by
        obtain ⟨j, hj, rfl⟩ := List.mem_iff_getElem.1 hv
        exact (hov.row_lt (List.getElem?_eq_getElem hj) hb).2
      have HV := Lib.hid hbv
      have HRW := Lib.hid hrw
      have hsz := hw.size
      have hcloned := cloneR_any w.heap.size w.heap.size k k vs (keysTo near cells k) wr hov.os hrw hbv (by omega)
      clear hlt hk hbv hrw
      go_wp2_with fail
      refine hcloned.mono ?_
      rintro e w1 ⟨g, c1, rfl, hp1, hg1, hg2, hb1⟩
      clear hcloned
      go_wp2_with fail
      refine (sortR_any wr.heap.size g k c1 _ w1 hp1 (by omega) hg2).mono ?_
      rintro e w2 ⟨Y, rfl, hp2, hperm, hsorted, hgr2⟩
      have hb2 := hb1.grown hgr2 hb1.size (fun b hb => by injection hb with hb; omega)
      have hg3 : g < w2.heap.size := Nat.lt_of_lt_of_le hg2 hgr2.size
      clear hp1 hgr2
      go_wp2_with fail
      refine (compactR_any wr.heap.size g k c1 Y w2 hp2 (by omega) hg3).mono ?_
      rintro e w3 ⟨m, Y2, rfl, hp3, hcomp, hgr3⟩
      have hb3 := hb2.grown hgr3 hb2.size (fun b hb => by injection hb with hb; omega)
      have hg4 : g < w3.heap.size := Nat.lt_of_lt_of_le hg3 hgr3.size
      have HK := Lib.hid (show Y2.map (·.2) = kindsP near cells by
        rw [hcomp]
        refine setG_comp cmpL_ord hsorted fun x => ?_
        rw [hperm.mem_iff, List.map_snd_zip (by rw [hov.len]; exact Nat.le_refl _), ← hlc.out]
        rfl)
      have hmk := run_make_row' (P := Tryz.prog) 33 2 (.int .i64 0) 8 Tryz.underlying33 int_info rfl .i64 .i64 k (by omega) (by omega)
      have hnx := OI.made w3 w3.heap.size 2 k (Nat.le_refl _) (by omega)
      have hb0 := below_alloc w3 (.cells (madeCells #[.int .i64 0] k) 2)
      have HC := Lib.hid (fun j (hj : j < k) => by
        obtain ⟨g', v, e, hv, hc1, _, _⟩ := hov.get hj
        injection e with e
        injection e with e
        subst e
        exact ⟨v, hv, hc1⟩ : ∀ j, j < k → ∃ v, vs[j]? = some v ∧ wr.cell? ⟨w.heap.size, j, none⟩ = some (.slice v.1 v.2.1 v.2.2))
      have HB := Lib.hid hb3
      have hwl := Lib.hid hw
      have HM := Lib.hid (show m ≤ k by have h1 := hp3.len; have h2 := congrArg List.length HK.out; rw [List.length_map] at h2; have h3 := kindsP_len (near := near) (cells := cells); rw [hlc.out] at h3; omega)
      clear hp2 hgr3 hperm hsorted hcomp hov hb1 hb2 hb3 hw
      go_wp2
      clear hmk
      obtain ⟨wq, rfl⟩ : ∃ wq : World, wq = w3 := ⟨_, rfl⟩
      go_loopw [65] (fun i w4 => ∃ j : Nat, j ≤ k ∧ i = .int .i64 j ∧ OI w4 wq.heap.size 2 (some ⟨wq.heap.size, 0, none⟩) k k (nextF (roundP near cells) j) ∧ Below wq.heap.size wq w4) (fun i _ => k - (intOf i).toNat)
      case atStart => exact ⟨0, Nat.zero_le _, rfl, by rw [nextF_zero, roundP_len, hlc.out]; exact hnx, hb0⟩
      case round =>
        clear hnx hb0
        obtain ⟨j, hj, rfl, hl, hb⟩ := hrel
        by_cases hjl : j < k
        · obtain ⟨⟨K1, K2, K3⟩, hv, hcK⟩ := HC.out j hjl
          have hz : (keysTo near cells k)[j]? = some (keyP near cells j) := by simp [keysTo, hjl]
          obtain ⟨r1, r2, r3⟩ := HRW.out.row j _ _ hv hz
          have hbw := HB.out.trans (hb.mono HB.out.size)
          have hK : Reads wr g ((K1, K2, K3), keyP near cells j) := ⟨r1, r2, r3.keep hbw, fun e => by have := HV.out _ (List.mem_of_getElem? hv) _ e; omega⟩
          have hcK4 := below_cell hbw hcK
          have hp4 := hp3.below hb
          have hcall := searchR_any _ g m c1 Y2 ((K1, K2, K3), keyP near cells j) wr hp4 (by have := HM.out; omega) (Nat.lt_of_lt_of_le hg4 hb.size) hK (by rw [HK.out]; exact kindsP_strict)
          have HI := Lib.hid (show (idxG cmpL (Y2.map (·.2)) (keyP near cells j) : Int) = nth (roundP near cells) j by rw [HK.out, roundP_nth (by rw [hlc.out]; exact hjl)])
          have HS := Lib.hid (nextF_step (zs := roundP near cells) (k := j) (by rw [roundP_len, hlc.out]; exact hjl))
          have hbd := roundP_bd (near := near) (cells := cells) (v := j) (by rw [hlc.out]; exact hjl)
          rw [hlc.out] at hbd
          rw [HI.out] at hcall
          generalize nth (roundP near cells) j = x at *
          clear hz hv hcK r1 r2 r3 hK hp4
          go_wp2_with fail
          refine hcall.mono ?_
          rintro e w5 ⟨bb, rfl, hb5⟩
          have hl5 := hl.below hb5
          have hbb := below_then hb hb5
          have hl6 := hl5.set j (u := x) ⟨by omega, by omega⟩
          rw [HS.out] at hl6
          obtain ⟨g6, e6, hc6, hf6, _⟩ := hl5.cell (k := j) hjl
          injection e6 with e6
          injection e6 with e6
          subst e6
          have hw6 := hbb.setCell (p := ⟨wq.heap.size, j, none⟩) (Nat.le_refl _) (.int .i64 x)
          clear hl hb hb5 hl5 hcall hcK4 hbb
          go_wp2
          go_roundw
          case rel => exact ⟨j + 1, by omega, by go_num, hl6, hw6⟩
          case measure => simp [intOf]; omega
        · obtain rfl : j = k := by omega
          have HR := Lib.hid (show nextF (roundP near cells) j = roundP near cells by
            have := nextF_all (roundP near cells)
            rwa [roundP_len, hlc.out] at this)
          rw [HR.out] at hl
          have hend := hwl.out.trans ((HB.out.trans (hb.mono HB.out.size)).mono hsz)
          go_wp2
          go_ret
          exact ⟨_, _, _, rfl, hl.more (Nat.le_trans hsz HB.out.size), hend⟩
end Go.Proofs.YtncknfhfkmmhbaaGreat
/- Different leaves of the search are different, plain. No program in sight. -/
namespace Go.Proofs.YtncknfhfkmmhbaaGreat

/-! different leaves are different -/
theorem idxG_lt {α : Type} {c : α → α → Int} (h : TOrd c) {l : List α} (hl : StrictL c l) {x y : α} (hx : x ∈ l) (hy : y ∈ l) (hxy : c x y < 0) : idxG c l x < idxG c l y := by
  obtain ⟨h1, h2⟩ := idxG_mem h hl hx
  obtain ⟨h3, h4⟩ := idxG_mem h hl hy
  rcases Nat.lt_trichotomy (idxG c l x) (idxG c l y) with h5 | h5 | h5
  · exact h5
  · rw [idxG_inj h hl hx hy h5] at hxy
    have := h.self y
    omega
  · have hp := List.pairwise_iff_getElem.1 hl _ _ h3 h1 h5
    rw [List.getElem?_eq_getElem h1] at h2
    rw [List.getElem?_eq_getElem h3] at h4
    injection h2 with h2
    injection h4 with h4
    rw [h2, h4] at hp
    have := h.swap x y
    omega
theorem roundP_order {near : List (List Int)} {cells : List Int} {u v : Nat} (hu : u < cells.length) (hv : v < cells.length) (h : nth cells u < nth cells v) : nth (roundP near cells) u < nth (roundP near cells) v := by
  rw [roundP_nth hu, roundP_nth hv]
  have : cmpL (keyP near cells u) (keyP near cells v) < 0 := by
    unfold keyP
    rw [cmpL, if_pos h]
    omega
  have := idxG_lt cmpL_ord kindsP_strict (kindsP_mem (near := near) hu) (kindsP_mem (near := near) hv) this
  omega
theorem refF_order (near : List (List Int)) : ∀ (f : Nat) (cells : List Int) (u v : Nat), u < cells.length → v < cells.length → nth cells u < nth cells v → nth (refF near f cells) u < nth (refF near f cells) v
  | 0, cells, u, v, hu, hv, h => roundP_order hu hv h
  | f + 1, cells, u, v, hu, hv, h => by
    rw [refF]
    split
    · exact roundP_order hu hv h
    · exact refF_order near f _ u v (by rw [roundP_len]; exact hu) (by rw [roundP_len]; exact hv) (roundP_order hu hv h)
theorem refP_order {near : List (List Int)} {cells : List Int} {u v : Nat} (hu : u < cells.length) (hv : v < cells.length) (h : nth cells u < nth cells v) : nth (refP near cells) u < nth (refP near cells) v := refF_order near _ cells u v hu hv h
/-- p keeps the order of the cells -/
def Fine (n : Nat) (cells p : List Int) : Prop := ∀ u v, u < n → v < n → nth cells u < nth cells v → nth p u < nth p v
theorem Fine.self (n : Nat) (cells : List Int) : Fine n cells cells := fun _ _ _ _ h => h
theorem Fine.ref {n : Nat} {near : List (List Int)} {cells p : List Int} (hl : cells.length = n) (h : Fine n (refP near cells) p) : Fine n cells p := fun u v hu hv hlt =>
  h u v hu hv (refP_order (by omega) (by omega) hlt)
theorem Fine.split {n : Nat} {cells p : List Int} {v : Nat} (hl : cells.length = n) (h : Fine n (splitP cells v) p) : Fine n cells p := fun a b ha hb hlt => by
  refine h a b ha hb ?_
  rw [splitP_nth (by omega), splitP_nth (by omega)]
  split <;> split <;> rename_i h1 h2
  · subst h1; subst h2; omega
  · subst h1; omega
  · subst h2; omega
  · omega
theorem Fine.first {n : Nat} {cells p : List Int} {v u : Nat} (hl : cells.length = n) (hv : v < n) (hu : u < n) (hne : u ≠ v) (he : nth cells u = nth cells v) (h : Fine n (splitP cells v) p) : nth p v < nth p u := by
  refine h v u hv hu ?_
  rw [splitP_nth (by omega), splitP_nth (by omega), if_pos rfl, if_neg hne, he]
  omega
/-- the rows of the one are rows of the other and of new ones, which keep the order of the cells and are different -/
def Grows (n : Nat) (P : List Int → Prop) (s t : St) : Prop := ∃ L : List (List Int), t.best.Sublist (s.best ++ L) ∧ L.Nodup ∧ ∀ p ∈ L, P p
theorem Grows.refl (n : Nat) (P : List Int → Prop) (s : St) : Grows n P s s := ⟨[], by simp, by simp, fun _ h => by cases h⟩
theorem leafP_grows {n : Nat} {cs : List Int} {es : List Ed} {s : St} {p : List Int} : Grows n (fun q => q = p) s (leafP cs es s p) := by
  refine ⟨[p], ?_, by simp, fun q hq => List.mem_singleton.1 hq⟩
  unfold leafP
  simp only []
  split
  · exact List.sublist_append_right _ _
  · split
    · exact List.Sublist.refl _
    · exact List.sublist_append_left _ _
theorem loopP_grows {n : Nat} {near : List (List Int)} {sub : St → List Int → St} {cells : List Int} {f : Nat} {t : Int} (hn : cells.length = n)
    (hsub : ∀ s c, s.left < f → Cells n c → Kept1 n s (sub s c) ∧ Grows n (Fine n c) s (sub s c)) : ∀ (vs : List Int) (s : St), s.left ≤ f → (∀ x ∈ vs, ∃ v : Nat, x = v ∧ v < n ∧ nth cells v = t) → vs.Nodup →
      Grows n (fun p => Fine n cells p ∧ ∃ v : Nat, (v : Int) ∈ vs ∧ Fine n (splitP cells v) p) s (loopP near sub cells vs s)
  | [], s, _, _, _ => Grows.refl _ _ s
  | x :: r, s, hl, hx, hnd => by
    rw [loopP]
    by_cases h1 : s.spent = true
    · rw [if_pos h1]; exact Grows.refl _ _ s
    · rw [if_neg h1]
      by_cases h2 : s.left = 0
      · rw [if_pos h2]; exact Grows.refl n _ s
      · rw [if_neg h2]
        have hc : Cells n (refP near (splitP cells x.toNat)) := by
          have := refP_cells near (splitP cells x.toNat)
          rwa [splitP_len, hn] at this
        obtain ⟨hk, L1, g1, g2, g3⟩ := hsub { s with left := s.left - 1, nodes := s.nodes + 1 } _ (by simp only []; omega) hc
        obtain ⟨v, rfl, hv, hvt⟩ := hx x List.mem_cons_self
        have hle := hk.left
        generalize sub { s with left := s.left - 1, nodes := s.nodes + 1 } (refP near (splitP cells (v : Int).toNat)) = q at *
        simp only [] at g1 hle
        have hnd' := List.nodup_cons.1 hnd
        obtain ⟨L2, j1, j2, j3⟩ := loopP_grows hn hsub r q (by omega) (fun y hy => hx y (List.mem_cons_of_mem _ hy)) hnd'.2
        refine ⟨L1 ++ L2, j1.trans ?_, ?_, fun p hp => ?_⟩
        · rw [← List.append_assoc]
          exact g1.append_right L2
        · refine List.nodup_append.2 ⟨g2, j2, fun a ha b hb hab => ?_⟩
          subst hab
          have f1 : Fine n (splitP cells v) a := Fine.ref (by rw [splitP_len, hn]) (g3 a ha)
          obtain ⟨_, u, hu, f2⟩ := j3 a hb
          obtain ⟨u', e, hu', hut⟩ := hx u (List.mem_cons_of_mem _ hu)
          have e : u = u' := by omega
          subst e
          have hne : u ≠ v := fun e => hnd'.1 (by rw [← e]; exact hu)
          have k1 := f1.first hn hv hu' hne (hut.trans hvt.symm)
          have k2 := f2.first hn hu' hv (fun e => hne e.symm) (hvt.trans hut.symm)
          omega
        · rcases List.mem_append.1 hp with hp | hp
          · have f1 : Fine n (splitP cells v) p := Fine.ref (by rw [splitP_len, hn]) (g3 p hp)
            exact ⟨f1.split hn, v, List.mem_cons_self, f1⟩
          · obtain ⟨f0, u, hu, f2⟩ := j3 p hp
            exact ⟨f0, u, List.mem_cons_of_mem _ hu, f2⟩
theorem vertsP_nodup (cells : List Int) (t : Int) : (vertsP cells t).Nodup := by
  unfold vertsP vF
  rw [List.Nodup, List.pairwise_map, List.drop_zero]
  exact (List.pairwise_lt_range.filter _).imp fun h => by omega
theorem searchP_grows {n : Nat} (cs : List Int) (es : List Ed) (near : List (List Int)) : ∀ (f : Nat) (s : St) (cells : List Int), s.left ≤ f → Cells n cells → Grows n (Fine n cells) s (searchP cs es near f s cells)
  | 0, s, cells, hl, hc => by
    rw [searchP]
    split
    · obtain ⟨L, h1, h2, h3⟩ := leafP_grows (n := n) (cs := cs) (es := es) (s := s) (p := cells)
      exact ⟨L, h1, h2, fun p hp => by rw [h3 p hp]; exact Fine.self _ _⟩
    · obtain ⟨L, h1, h2, h3⟩ := loopP_grows (n := n) (near := near) (f := 0) (sub := fun s _ => s) (t := tgtP cells) hc.len (fun s c h _ => absurd h (by omega)) (vertsP cells (tgtP cells)) s hl
        (fun x hx => by obtain ⟨v, e, h4, h5⟩ := vertsP_mem hx; exact ⟨v, e, by rw [← hc.len]; exact h4, h5⟩) (vertsP_nodup _ _)
      exact ⟨L, h1, h2, fun p hp => (h3 p hp).1⟩
  | f + 1, s, cells, hl, hc => by
    rw [searchP]
    split
    · obtain ⟨L, h1, h2, h3⟩ := leafP_grows (n := n) (cs := cs) (es := es) (s := s) (p := cells)
      exact ⟨L, h1, h2, fun p hp => by rw [h3 p hp]; exact Fine.self _ _⟩
    · obtain ⟨L, h1, h2, h3⟩ := loopP_grows (n := n) (near := near) (f := f + 1) (sub := searchP cs es near f) (t := tgtP cells) hc.len (fun s c h hc' => ⟨searchP_kept cs es near f s c (by omega) hc', searchP_grows cs es near f s c (by omega) hc'⟩) (vertsP cells (tgtP cells)) s hl
        (fun x hx => by obtain ⟨v, e, h4, h5⟩ := vertsP_mem hx; exact ⟨v, e, by rw [← hc.len]; exact h4, h5⟩) (vertsP_nodup _ _)
      exact ⟨L, h1, h2, fun p hp => (h3 p hp).1⟩
theorem runP_nodup (cs : List Int) (es : List Ed) (b : Nat) : (runP cs es b).best.Nodup := by
  obtain ⟨L, h1, h2, _⟩ := searchP_grows cs es (nearP cs.length es) b ⟨b, false, 0, 0, [], [], []⟩ _ (Nat.le_refl _) (refP_cells (nearP cs.length es) cs)
  rw [List.nil_append] at h1
  exact List.Sublist.nodup h1 h2
end Go.Proofs.YtncknfhfkmmhbaaGreat
