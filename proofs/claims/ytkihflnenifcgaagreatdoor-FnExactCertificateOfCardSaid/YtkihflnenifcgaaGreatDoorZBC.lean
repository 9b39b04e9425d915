/- One round of refinement: the program's side. No condition beyond those stated. -/
import Derived.Test.YtkihflnenifcgaaGreatDoorZBA
import Derived.Test.YtkihflnenifcgaaGreatDoorZBB
import Derived.Test.YtkihflnenifcgaaGreatDoorZAS
import Derived.Test.YtkihflnenifcgaaGreatDoorZAZ
import Derived.Test.YtkihflnenifcgaaGreatDoorZAP
import Derived.Test.YtkihflnenifcgaaGreatDoorZAH
import Derived.Deep.QuietTactic
import Derived.BigQuiet
set_option linter.unusedVariables false
set_option linter.unusedSimpArgs false
namespace Go.Proofs.YtkihflnenifcgaaGreatDoor
open Go.RowKit Go.Sort

/-- the keys of the first k of n vertices, the others not yet there -/
def keysF (near : List (List Int)) (cells : List Int) (k n : Nat) : List (List Int) := keysTo near cells k ++ List.replicate (n - k) []
theorem keysF_zero (near : List (List Int)) (cells : List Int) (n : Nat) : keysF near cells 0 n = List.replicate n [] := by simp [keysF, keysTo]
theorem keysF_step (near : List (List Int)) (cells : List Int) {k n : Nat} (h : k < n) : (keysF near cells k n).set k (keyP near cells k) = keysF near cells (k + 1) n := by
  unfold keysF
  rw [List.set_append_right _ _ (by rw [keysTo_len]; omega), keysTo_len, Nat.sub_self, show n - k = (n - (k + 1)) + 1 by omega, List.replicate_succ, List.set_cons_zero, keysTo_step, List.append_assoc]
  rfl
theorem keysF_all (near : List (List Int)) (cells : List Int) (n : Nat) : keysF near cells n n = keysTo near cells n := by simp [keysF]
/-- the numbers of the first k vertices, the others 0 -/
def nextF (zs : List Int) (k : Nat) : List Int := zs.take k ++ List.replicate (zs.length - k) 0
theorem nextF_zero (zs : List Int) : nextF zs 0 = List.replicate zs.length 0 := by simp [nextF]
theorem nextF_step {zs : List Int} {k : Nat} (h : k < zs.length) : (nextF zs k).set k (nth zs k) = nextF zs (k + 1) := by
  have hl : (zs.take k).length = k := by rw [List.length_take]; omega
  unfold nextF
  rw [List.set_append_right _ _ (by omega), hl, Nat.sub_self, show zs.length - k = (zs.length - (k + 1)) + 1 by omega, List.replicate_succ, List.set_cons_zero, List.take_succ_eq_append_getElem h, List.append_assoc, nth_get h]
  rfl
theorem nextF_all (zs : List Int) : nextF zs zs.length = zs := by simp [nextF]
theorem PV.below {w w' : World} {B : Nat} {e2 : TypeId} {g n c : Nat} {Z : List PL} (h : PV w B e2 g n c Z) (hb : RowKit.Below w.heap.size w w') : PV w' B e2 g n c Z :=
  ⟨h.os.below hb, fun p hp => let ⟨a, b, d, e⟩ := h.rows p hp; ⟨a, b, d.keep hb, e⟩⟩
set_option maxRecDepth 100000 in
set_option maxHeartbeats 4000000 in
theorem refineOnce_any (L : Option Addr) (n c : Nat) (near : List (List Int)) (A : Option Addr) (d : Nat) (cells : List Int) (w : World) (ha : RR w L n near) (hc : RI w A n cells) (hn : n ≤ 4096) (hnr : Nears n near) :
    Calls Tryz.prog 74 #[.slice L n c, .slice A n d] w (RetI w 2 (roundP near cells)) := by
  have hla := Lib.hid ha.len
  have hlc := Lib.hid hc.len
  have HN := Lib.hid hnr; clear hnr
  have hmk := run_make_row' (P := Tryz.prog) 54 24 (.slice none 0 0) 24 Tryz.underlying54 ints_info rfl .i64 .i64 n (by omega) (by omega)
  have ho0 := OR.made w w.heap.size (e2 := 24) (e1 := 2) (by decide) n (Nat.le_refl _) (by omega)
  have hw0 := below_alloc w (.cells (madeCells #[.slice none 0 0] n) 24)
  go_enter Tryz.func74, Tryz.ntmps74
  go_wp2
  clear hmk
  go_loopw [22] (fun i wr => ∃ k : Nat, k ≤ n ∧ i = .int .i64 k ∧ OR wr w.heap.size 24 2 (some ⟨w.heap.size, 0, none⟩) n n (keysF near cells k n) ∧ Below w.heap.size w wr) (fun i _ => n - (intOf i).toNat)
  case atStart => exact ⟨0, Nat.zero_le _, rfl, by rw [keysF_zero]; exact ho0, hw0⟩
  case round =>
    clear ho0 hw0
    obtain ⟨k, hk, rfl, ho, hw⟩ := hrel
    by_cases hlt : k < n
    · obtain ⟨aL, Y, p1, q1, rfl, hcL, hp1, hq1, hri⟩ := (ha.keep hw).get hlt
      obtain ⟨aC, rfl, hcC, hiC⟩ := (hc.keep hw).get hlt
      have hly := Lib.hid hri.len
      have hfew := HN.out.few k hlt
      have hp1n : p1 ≤ n := by rw [← hly.out]; exact hfew
      have HK := Lib.hid (keyP_arTo near cells k)
      rw [hly.out] at HK
      have HO := Lib.hid ho
      have hsz := hw.size
      clear ho hfew
      generalize nth cells k = z at *
      go_wp2
      obtain ⟨wo, rfl⟩ : ∃ wo : World, wo = wr := ⟨_, rfl⟩
      go_loopw [8, 32] (fun v i w2 => ∃ (j : Nat) (A2 : Option Addr) (c2 : Nat), j ≤ p1 ∧ i = .int .i64 j ∧ v = .slice A2 j c2 ∧ OI w2 wo.heap.size 2 A2 j c2 (arTo near cells k j) ∧ Below wo.heap.size wo w2) (fun _ i _ => p1 - (intOf i).toNat)
      case atStart => exact ⟨0, _, _, Nat.zero_le _, rfl, rfl, by rw [arTo_zero]; exact OI.nil_ _ _ _, Below.refl _ _⟩
      case round =>
        obtain ⟨j, A2, c2, hj, rfl, rfl, hl, hb⟩ := hrel
        by_cases hjl : j < p1
        · obtain ⟨aY, rfl, hcY, hiY⟩ := (hri.keep hb).get hjl
          obtain ⟨u, hu, hun⟩ := HN.out.at_ hlt (i := j) (by rw [hly.out]; exact hjl)
          obtain ⟨aC2, e2, hcU, hiU⟩ := (hc.keep (below_then hw hb)).get hun
          injection e2 with e2
          subst e2
          have HA := Lib.hid (arTo_step (cells := cells) (by rw [hly.out]; exact hjl) hu)
          rw [hu] at hcY
          clear hu hiY
          generalize nth cells u = zu at *
          go_wp2_with (at_builtin; refine app_int _ rfl (.tmp 36) (.tmp 41) rfl wo.heap.size A2 j c2 _ rfl hl zu _ rfl (by simp) hiU (by omega) hb.size ?_; intro A3 c3 w3 ho3 hg3 hn3)
          have hw3 := below_own hb hg3 hb.size (fun b hb => (hl.os.lt hb).1)
          clear hl hg3 hn3 hcY hcU
          go_roundw
          case rel => exact ⟨j + 1, _, _, by omega, by go_num, rfl, by rw [HA.out]; exact ho3, hw3⟩
          case measure => simp [intOf]; omega
        · obtain rfl : j = p1 := by omega
          generalize arTo near cells k j = ar at *
          go_wp2_with fail
          refine (sort_any wo.heap.size 2 A2 j c2 ar wr hl (by omega)).mono ?_
          rintro e w3 ⟨rfl, hl3, hg3⟩
          have hb3 := below_own hb hg3 hb.size (fun b hb => (hl.os.lt hb).1)
          have hone := OI.lit w3 wo.heap.size 2 [z] hb3.size (by simp) (All64.one hiC)
          have hrl := hl3.reads.keep (below_alloc w3 (.cells #[.int .i64 z] 2))
          have hb4 := hb3.alloc hb3.size (.cells #[.int .i64 z] 2)
          clear hl hb hg3
          obtain ⟨vs, hov⟩ := HO.out
          obtain ⟨g, v, eg, hv, hcg, hfg, hoi⟩ := hov.get hlt
          injection eg with eg
          injection eg with eg
          subst eg
          have hgl := block_lt hcg
          go_wp2_with (at_builtin; refine app_ints _ rfl (.tmp 49) (.tmp 50) rfl wo.heap.size (some ⟨w3.heap.size, 0, none⟩) 1 1 [z] rfl hone A2 j c2 (srt ar) rfl hrl (by omega) (by have := hb3.size; simp; omega) ?_; intro A4 c4 w4 ho4 hg4 hn4; have hb5 := below_own hb4 hg4 (by have := hb3.size; simp; omega) (fun b hb => (hone.os.lt hb).1); have hcg4 := below_cell hb5 hcg; have hfg4 : w4.frozen? ⟨w.heap.size, k, none⟩ = false := (hb5.frozen (p := ⟨w.heap.size, k, none⟩) hgl).trans hfg)
          have hor := hov.upd (v' := (A4, 1 + j, c4)) hv (grownBy_of_below hb5 _) (ho4.more hsz) (by
            cases h : blk A4 with
            | none => exact .inl rfl
            | some b => exact .inr (.inr ⟨b, rfl, (ho4.os.lt h).1⟩))
          have hw4 := (hw.trans (hb5.mono hsz)).setCell (p := ⟨w.heap.size, k, none⟩) (Nat.le_refl _) (.slice A4 (1 + j) c4)
          have HS := Lib.hid (keysF_step near cells hlt)
          rw [HK.out] at HS
          clear hov ho4 hg4 hn4 hb5 hone hrl hb4 hcg4 hfg4 hcg hfg hoi hl3 hb3 hcL hcC
          go_roundw
          case rel => exact ⟨k + 1, by omega, by go_num, by rw [← HS.out]; exact hor, hw4⟩
          case measure => simp [intOf]; omega
    · obtain rfl : k = n := by omega
      rw [keysF_all] at ho
      obtain ⟨vs, hov⟩ := ho
      have hrw : Rows wr vs (keysTo near cells k) := ⟨hov.len, fun j v z hv hz => let h := hov.rows j v z hv hz; ⟨h.os.cap.1, h.os.cap.2, h.reads⟩⟩
      have hbv : ∀ v ∈ vs, ∀ b, blk v.1 = some b → b < wr.heap.size := fun v hv b hb => by
        obtain ⟨j, hj, rfl⟩ := List.mem_iff_getElem.1 hv
        exact (hov.row_lt (List.getElem?_eq_getElem hj) hb).2
      have HV := Lib.hid hbv
      have HRW := Lib.hid hrw
      have hsz := hw.size
      have hcloned := cloneR_any w.heap.size w.heap.size k k vs (keysTo near cells k) wr hov.os hrw hbv (by omega)
      clear hlt hk hbv hrw
      go_wp2_with fail
      refine hcloned.mono ?_
      rintro e w1 ⟨g, c1, rfl, hp1, hg1, hg2, hb1⟩
      clear hcloned
      go_wp2_with fail
      refine (sortR_any wr.heap.size g k c1 _ w1 hp1 (by omega) hg2).mono ?_
      rintro e w2 ⟨Y, rfl, hp2, hperm, hsorted, hgr2⟩
      have hb2 := hb1.grown hgr2 hb1.size (fun b hb => by injection hb with hb; omega)
      have hg3 : g < w2.heap.size := Nat.lt_of_lt_of_le hg2 hgr2.size
      clear hp1 hgr2
      go_wp2_with fail
      refine (compactR_any wr.heap.size g k c1 Y w2 hp2 (by omega) hg3).mono ?_
      rintro e w3 ⟨m, Y2, rfl, hp3, hcomp, hgr3⟩
      have hb3 := hb2.grown hgr3 hb2.size (fun b hb => by injection hb with hb; omega)
      have hg4 : g < w3.heap.size := Nat.lt_of_lt_of_le hg3 hgr3.size
      have HK := Lib.hid (show Y2.map (·.2) = kindsP near cells by
        rw [hcomp]
        refine setG_comp cmpL_ord hsorted fun x => ?_
        rw [hperm.mem_iff, List.map_snd_zip (by rw [hov.len]; exact Nat.le_refl _), ← hlc.out]
        rfl)
      have hmk := run_make_row' (P := Tryz.prog) 24 2 (.int .i64 0) 8 Tryz.underlying24 int_info rfl .i64 .i64 k (by omega) (by omega)
      have hnx := OI.made w3 w3.heap.size 2 k (Nat.le_refl _) (by omega)
      have hb0 := below_alloc w3 (.cells (madeCells #[.int .i64 0] k) 2)
      have HC := Lib.hid (fun j (hj : j < k) => by
        obtain ⟨g', v, e, hv, hc1, _, _⟩ := hov.get hj
        injection e with e
        injection e with e
        subst e
        exact ⟨v, hv, hc1⟩ : ∀ j, j < k → ∃ v, vs[j]? = some v ∧ wr.cell? ⟨w.heap.size, j, none⟩ = some (.slice v.1 v.2.1 v.2.2))
      have HB := Lib.hid hb3
      have hwl := Lib.hid hw
      have HM := Lib.hid (show m ≤ k by have h1 := hp3.len; have h2 := congrArg List.length HK.out; rw [List.length_map] at h2; have h3 := kindsP_len (near := near) (cells := cells); rw [hlc.out] at h3; omega)
      clear hp2 hgr3 hperm hsorted hcomp hov hb1 hb2 hb3 hw
      go_wp2
      clear hmk
      obtain ⟨wq, rfl⟩ : ∃ wq : World, wq = w3 := ⟨_, rfl⟩
      go_loopw [65] (fun i w4 => ∃ j : Nat, j ≤ k ∧ i = .int .i64 j ∧ OI w4 wq.heap.size 2 (some ⟨wq.heap.size, 0, none⟩) k k (nextF (roundP near cells) j) ∧ Below wq.heap.size wq w4) (fun i _ => k - (intOf i).toNat)
      case atStart => exact ⟨0, Nat.zero_le _, rfl, by rw [nextF_zero, roundP_len, hlc.out]; exact hnx, hb0⟩
      case round =>
        clear hnx hb0
        obtain ⟨j, hj, rfl, hl, hb⟩ := hrel
        by_cases hjl : j < k
        · obtain ⟨⟨K1, K2, K3⟩, hv, hcK⟩ := HC.out j hjl
          have hz : (keysTo near cells k)[j]? = some (keyP near cells j) := by simp [keysTo, hjl]
          obtain ⟨r1, r2, r3⟩ := HRW.out.row j _ _ hv hz
          have hbw := HB.out.trans (hb.mono HB.out.size)
          have hK : Reads wr g ((K1, K2, K3), keyP near cells j) := ⟨r1, r2, r3.keep hbw, fun e => by have := HV.out _ (List.mem_of_getElem? hv) _ e; omega⟩
          have hcK4 := below_cell hbw hcK
          have hp4 := hp3.below hb
          have hcall := searchR_any _ g m c1 Y2 ((K1, K2, K3), keyP near cells j) wr hp4 (by have := HM.out; omega) (Nat.lt_of_lt_of_le hg4 hb.size) hK (by rw [HK.out]; exact kindsP_strict)
          have HI := Lib.hid (show (idxG cmpL (Y2.map (·.2)) (keyP near cells j) : Int) = nth (roundP near cells) j by rw [HK.out, roundP_nth (by rw [hlc.out]; exact hjl)])
          have HS := Lib.hid (nextF_step (zs := roundP near cells) (k := j) (by rw [roundP_len, hlc.out]; exact hjl))
          have hbd := roundP_bd (near := near) (cells := cells) (v := j) (by rw [hlc.out]; exact hjl)
          rw [hlc.out] at hbd
          rw [HI.out] at hcall
          generalize nth (roundP near cells) j = x at *
          clear hz hv hcK r1 r2 r3 hK hp4
          go_wp2_with fail
          refine hcall.mono ?_
          rintro e w5 ⟨bb, rfl, hb5⟩
          have hl5 := hl.below hb5
          have hbb := below_then hb hb5
          have hl6 := hl5.set j (u := x) ⟨by omega, by omega⟩
          rw [HS.out] at hl6
          obtain ⟨g6, e6, hc6, hf6, _⟩ := hl5.cell (k := j) hjl
          injection e6 with e6
          injection e6 with e6
          subst e6
          have hw6 := hbb.setCell (p := ⟨wq.heap.size, j, none⟩) (Nat.le_refl _) (.int .i64 x)
          clear hl hb hb5 hl5 hcall hcK4 hbb
          go_wp2
          go_roundw
          case rel => exact ⟨j + 1, by omega, by go_num, hl6, hw6⟩
          case measure => simp [intOf]; omega
        · obtain rfl : j = k := by omega
          have HR := Lib.hid (show nextF (roundP near cells) j = roundP near cells by
            have := nextF_all (roundP near cells)
            rwa [roundP_len, hlc.out] at this)
          rw [HR.out] at hl
          have hend := hwl.out.trans ((HB.out.trans (hb.mono HB.out.size)).mono hsz)
          go_wp2
          go_ret
          exact ⟨_, _, _, rfl, hl.more (Nat.le_trans hsz HB.out.size), hend⟩
end Go.Proofs.YtkihflnenifcgaaGreatDoor
/- Refinement to the end: the program's side. No condition beyond those stated. -/
namespace Go.Proofs.YtkihflnenifcgaaGreatDoor
open Go.RowKit

theorem RI.unique {w : World} {A : Option Addr} {n : Nat} {zs ys : List Int} (h : RI w A n zs) (k : RI w A n ys) : zs = ys := by
  refine nth_ext (by rw [h.len, k.len]) fun j hj => ?_
  rw [h.len] at hj
  obtain ⟨a, e1, h1, _⟩ := h.get hj
  obtain ⟨b, e2, h2, _⟩ := k.get hj
  rw [e1] at e2
  injection e2 with e2
  subst e2
  rw [h1] at h2
  injection h2 with h2
  injection h2
/-- what a slice of numbers reads as -/
noncomputable def readL (w : World) (v : Value) : List Int := @dite _ (∃ zs A n c, v = .slice A n c ∧ RI w A n zs) (Classical.propDecidable _) (fun h => h.choose) (fun _ => [])
theorem readL_eq {w : World} {A : Option Addr} {n c : Nat} {zs : List Int} (h : RI w A n zs) : readL w (.slice A n c) = zs := by
  have hex : ∃ zs A' n' c', Value.slice A n c = .slice A' n' c' ∧ RI w A' n' zs := ⟨zs, A, n, c, rfl, h⟩
  unfold readL
  rw [dif_pos hex]
  obtain ⟨A', n', c', e, h'⟩ := hex.choose_spec
  injection e with e1 e2 e3
  subst e1; subst e2
  exact h'.unique h
set_option maxRecDepth 100000 in
set_option maxHeartbeats 1000000 in
theorem refine_any (L : Option Addr) (n c : Nat) (near : List (List Int)) (A : Option Addr) (d : Nat) (cells : List Int) (w : World) (ha : RR w L n near) (hc : RI w A n cells) (hn : n ≤ 4096) (hnr : Nears n near) :
    Calls Tryz.prog 47 #[.slice L n c, .slice A n d] w (RetI w 2 (refP near cells)) := by
  have hlc := Lib.hid hc.len
  have HN := Lib.hid hnr; clear hnr
  go_enter Tryz.func47, Tryz.ntmps47
  go_wp2
  go_loopw [1] (fun v wr => ∃ (cur : List Int) (A' : Option Addr) (c' : Nat), v = .slice A' n c' ∧ RI wr A' n cur ∧ Below w.heap.size w wr ∧ cur.length = n ∧ refP near cells = refP near cur) (fun v wr => n + 1 - manyP (readL wr v))
  case atStart => exact ⟨cells, _, _, rfl, hc, Below.refl _ _, hlc.out, rfl⟩
  case round =>
    obtain ⟨cur, A', c', rfl, hcu, hw, hcl, hr⟩ := hrel
    have HCL := Lib.hid hcl
    have HR := Lib.hid hr
    have HRD := Lib.hid (readL_eq (c := c') hcu)
    have hmono := roundP_many (near := near) (cells := cur)
    have hle := manyP_le (roundP near cur)
    rw [roundP_len, hcl] at hle
    clear hcl hr
    go_wp2_with fail
    refine (refineOnce_any L n c near A' c' cur wr (ha.keep hw) hcu hn HN.out).mono ?_
    rintro e w3 ⟨A3, n3, c3, rfl, ho3, hb3⟩
    obtain rfl : n3 = n := by rw [← ho3.len, roundP_len, HCL.out]
    have hw3 := below_then hw hb3
    have ho3' := ho3.more hw.size
    have hcu3 := hcu.keep hb3
    clear hcu hb3 ho3 hw
    go_wp2_with fail
    refine (cellCount_any A3 n3 c3 (roundP near cur) w3 ho3'.reads (by omega)).mono ?_
    rintro e w4 ⟨rfl, hb4⟩
    have hcu4 := hcu3.keep hb4
    have ho4 := ho3'.below hb4
    have hw4 := below_then hw3 hb4
    clear hcu3 hb4 ho3' hw3
    go_wp2_with fail
    refine (cellCount_any A' n3 c' cur w4 hcu4 (by omega)).mono ?_
    rintro e w5 ⟨rfl, hb5⟩
    have ho5 := ho4.below hb5
    have hw5 := below_then hw4 hb5
    clear hcu4 hb5 ho4 hw4
    by_cases he : manyP (roundP near cur) = manyP cur
    · have HM := Lib.hid (refP_done (near := near) (cells := cur) he)
      rw [he]
      have hee : (((manyP cur : Nat) : Int) == ((manyP cur : Nat) : Int)) = true := by simp
      clear he
      go_wp2
      go_ret
      exact ⟨_, _, _, rfl, by rw [HR.out, HM.out]; exact ho5, hw5⟩
    · have HM := Lib.hid (refP_more (near := near) (cells := cur) he)
      have hq : manyP cur < manyP (roundP near cur) := by omega
      have hee : (((manyP (roundP near cur) : Nat) : Int) == ((manyP cur : Nat) : Int)) = false := by simp; omega
      have HRD2 := Lib.hid (readL_eq (c := c3) ho5.reads)
      clear he
      go_wp2
      go_roundw
      case rel => exact ⟨_, _, _, rfl, ho5.reads, hw5, by rw [roundP_len]; exact HCL.out, by rw [HR.out]; exact HM.out⟩
      case measure => rw [HRD.out, HRD2.out]; omega
end Go.Proofs.YtkihflnenifcgaaGreatDoor
/- spec.l21Many. No condition beyond those stated. -/
namespace Go.Proofs.YtkihflnenifcgaaGreatDoor
open Go.RowKit

set_option maxRecDepth 100000 in
set_option maxHeartbeats 1000000 in
theorem l21Many_any (A : Option Addr) (n c : Nat) (zs : List Int) (w : World) (ha : RI w A n zs) (hn : n ≤ 1048576) :
    Calls Tryz.prog 124 #[.slice A n c] w (fun e w' => e = .returned (.int .i64 (manyP zs)) ∧ Below w.heap.size w w') := by
  have hla := Lib.hid ha.len
  have ho0 := OI.lit w w.heap.size 2 [] (Nat.le_refl _) (by simp) All64.nil_
  have hw0 := below_alloc w (.cells #[] 2)
  go_enter Tryz.func124, Tryz.ntmps124
  go_wp2
  go_loopw [3, 4] (fun v i wr => ∃ (k m : Nat) (A' : Option Addr) (c' : Nat), k ≤ n ∧ i = .int .i64 k ∧ v = .slice A' m c' ∧ OI wr w.heap.size 2 A' m c' (setG sgnI (zs.take k)) ∧ Below w.heap.size w wr) (fun _ i _ => n - (intOf i).toNat)
  case atStart => exact ⟨0, _, _, _, Nat.zero_le _, rfl, rfl, ho0, hw0⟩
  case round =>
    obtain ⟨k, m, A', c', hk, rfl, rfl, ho, hw⟩ := hrel
    have hm : m ≤ n := by have h1 := ho.len; have h2 := setG_len (c := sgnI) (zs.take k); rw [List.length_take, hla.out] at h2; omega
    clear ho0 hw0
    by_cases hlt : k < n
    · obtain ⟨a, rfl, hca, hia⟩ := (ha.keep hw).get hlt
      have HS := Lib.hid (show setG sgnI (zs.take (k + 1)) = putG sgnI (setG sgnI (zs.take k)) (nth zs k) by
        rw [List.take_succ_eq_append_getElem (by rw [hla.out]; exact hlt), setG_snoc, nth_get])
      go_wp2_with fail
      refine (l00Put_any A' m c' _ (nth zs k) wr ho.reads (by omega) hia).mono ?_
      rintro e w3 ⟨A3, n3, c3, rfl, ho3, hb3⟩
      have hw3 := below_then hw hb3
      have ho4 := ho3.more hw.size
      clear ho ho3 hb3 hca
      go_wp2
      go_roundw
      case rel => exact ⟨k + 1, _, _, _, by omega, by go_num, rfl, by rw [HS.out]; exact ho4, hw3⟩
      case measure => simp [intOf]; omega
    · obtain rfl : k = n := by omega
      have HS := Lib.hid (show setG sgnI (zs.take k) = setG sgnI zs by rw [List.take_of_length_le (by rw [hla.out]; exact Nat.le_refl _)])
      rw [HS.out] at ho
      have hl := Lib.hid ho.len
      go_wp2
      go_ret
      exact ⟨ret_int (by unfold manyP; rw [hl.out]), hw⟩
end Go.Proofs.YtkihflnenifcgaaGreatDoor
/- Refinement to the end: the reference's side. No condition beyond those stated. -/
namespace Go.Proofs.YtkihflnenifcgaaGreatDoor
open Go.RowKit

set_option maxRecDepth 100000 in
set_option maxHeartbeats 1000000 in
theorem l21Refine_any (L : Option Addr) (n c : Nat) (near : List (List Int)) (A : Option Addr) (d : Nat) (cells : List Int) (w : World) (ha : RR w L n near) (hc : RI w A n cells) (hn : n ≤ 4096) (hnr : Nears n near) :
    Calls Tryz.prog 93 #[.slice L n c, .slice A n d] w (RetI w 2 (refP near cells)) := by
  have hlc := Lib.hid hc.len
  have HN := Lib.hid hnr; clear hnr
  go_enter Tryz.func93, Tryz.ntmps93
  go_wp2_with fail
  refine (l21Many_any A n d cells w hc (by omega)).mono ?_
  rintro e w1 ⟨rfl, hb1⟩
  go_wp2_with fail
  refine (l21Round_any L n c near A d cells w1 (ha.keep hb1) (hc.keep hb1) hn HN.out).mono ?_
  rintro e w2 ⟨A2, n2, c2, rfl, ho2, hb2⟩
  obtain rfl : n2 = n := by rw [← ho2.len, roundP_len, hlc.out]
  have ho3 := ho2.more hb1.size
  have hw2 := below_then hb1 hb2
  clear ho2 hb1 hb2
  go_wp2
  go_loopw [5, 6] (fun m v wr => ∃ (cur : List Int) (A' : Option Addr) (c' : Nat), m = .int .i64 (manyP cur) ∧ v = .slice A' n2 c' ∧ OI wr w.heap.size 2 A' n2 c' (roundP near cur) ∧ Below w.heap.size w wr ∧ cur.length = n2 ∧ refP near cells = refP near cur) (fun m _ _ => n2 + 1 - (intOf m).toNat)
  case atStart => exact ⟨cells, _, _, rfl, rfl, ho3, hw2, hlc.out, rfl⟩
  case round =>
    clear ho3 hw2
    obtain ⟨cur, A', c', rfl, rfl, ho, hw, hcl, hr⟩ := hrel
    have HCL := Lib.hid hcl
    have HR := Lib.hid hr
    have hmono := roundP_many (near := near) (cells := cur)
    have hle := manyP_le (roundP near cur)
    rw [roundP_len, hcl] at hle
    have hcall := l21Many_any A' n2 c' (roundP near cur) wr ho.reads (by omega)
    clear hcl hr
    by_cases hlt : manyP cur < manyP (roundP near cur)
    · have HM := Lib.hid (refP_more (near := near) (cells := cur) (by omega))
      generalize hq : manyP (roundP near cur) = q at *
      have HQ := Lib.hid hq; clear hq
      go_wp2_with fail
      refine hcall.mono ?_
      rintro e w3 ⟨rfl, hb3⟩
      have ho3 := ho.below hb3
      have hw3 := below_then hw hb3
      clear ho hcall hb3 hw
      have hcall3 := l21Many_any A' n2 c' (roundP near cur) w3 ho3.reads (by omega)
      rw [HQ.out] at hcall3
      go_wp2_with fail
      refine hcall3.mono ?_
      rintro e w4 ⟨rfl, hb4⟩
      have ho4 := ho3.below hb4
      have hw4 := below_then hw3 hb4
      clear ho3 hcall3 hb4 hw3
      go_wp2_with fail
      refine (l21Round_any L n2 c near A' c' (roundP near cur) w4 (ha.keep hw4) ho4.reads hn HN.out).mono ?_
      rintro e w5 ⟨A5, n5, c5, rfl, ho5, hb5⟩
      obtain rfl : n5 = n2 := by rw [← ho5.len, roundP_len, roundP_len, HCL.out]
      have ho6 := ho5.more hw4.size
      have hw5 := below_then hw4 hb5
      clear ho4 ho5 hb5 hw4
      go_wp2
      go_roundw
      case rel => exact ⟨roundP near cur, _, _, by rw [HQ.out], rfl, ho6, hw5, by rw [roundP_len]; exact HCL.out, by rw [HR.out]; exact HM.out⟩
      case measure => simp [intOf]; omega
    · have HM := Lib.hid (refP_done (near := near) (cells := cur) (by omega))
      have he : manyP (roundP near cur) = manyP cur := by omega
      rw [he] at hcall
      go_wp2_with fail
      refine hcall.mono ?_
      rintro e w3 ⟨rfl, hb3⟩
      have ho3 := ho.below hb3
      have hw3 := below_then hw hb3
      go_wp2
      go_ret
      exact ⟨_, _, _, rfl, by rw [HR.out, HM.out]; exact ho3, hw3⟩
end Go.Proofs.YtkihflnenifcgaaGreatDoor
