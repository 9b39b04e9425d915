/- The first construction that applies: the reference's side, difference sets and none. No condition beyond those stated. -/
import Derived.Test.YtnmcmologlgccaaGreatSZBJ
set_option linter.unusedVariables false
set_option linter.unusedSimpArgs false
namespace Go.Proofs.YtnmcmologlgccaaGreat
open Go.RowKit
set_option maxRecDepth 100000 in
set_option maxHeartbeats 8000000 in
theorem l29Base_p5 (v k l : Nat) (w : World) (hr : InR v k l) (n1 : Hid (No1 v k l)) (H2 : Hid (¬ (k = 3 ∧ l = 1))) (h3 : Hid (¬ (l = 1 ∧ v = k * k))) (h4 : Hid (¬ (l = 1 ∧ v + k = k * k + 1))) (HPP : Hid (isP v = true ∧ v % 4 = 3)) (h5 : (sqrS v (v - 1)).length = k ∧ v = 4 * l + 3) : Calls Tryz.prog 51 #[.int .i64 v, .int .i64 k, .int .i64 l] w (RetWO w v (fstD v k l)) := by
  obtain ⟨v3, v32, k2, kv, l1, l1000⟩ := id hr
  have hb0 := below_alloc w (.cells #[.int .i64 0, .slice none 0 0] 28)
  have Y := Blk.new w 28 #[.int .i64 0, .slice none 0 0]
  have hz0 : (w.alloc (.cells #[.int .i64 0, .slice none 0 0] 28)).heap.size = w.heap.size + 1 := by simp
  have HR := Lib.hid hr
  have hch1 := specChoose_any (v - 2) (k - 2) (w.alloc (.cells #[.int .i64 0, .slice none 0 0] 28)) (by omega)
  have HCH2 := Lib.hid (fun (W : World) => specChoose_any v k W (by omega))
  have ev2 : (v : Int) - 2 = ((v - 2 : Nat) : Int) := by omega
  have ek2 : (k : Int) - 2 = ((k - 2 : Nat) : Int) := by omega
  have n2 : Hid (No2 v k l) := Lib.hid ⟨fun h => H2.out ⟨h.1, h.2.1⟩⟩
  have n3 : Hid (No3 v k l) := Lib.hid ⟨h3.out⟩
  have n4 : Hid (No4 v k l) := Lib.hid ⟨h4.out⟩
  obtain ⟨M, hM⟩ : ∃ M, M = k * k := ⟨_, rfl⟩
  have hkm : (k : Int) * (k : Int) = (M : Int) := by rw [hM]; push_cast; rfl
  have hMb : M ≤ 1024 := by rw [hM]; exact kk_bd hr
  have HM := Lib.hid hM
  clear hM
  have H3 : Hid (¬ (l = 1 ∧ v = M)) := Lib.hid (by rw [HM.out]; exact h3.out)
  have H4 : Hid (¬ (l = 1 ∧ v + k = M + 1)) := Lib.hid (by rw [HM.out]; exact h4.out)
  have HV := Lib.hid h5.2
  have HK := Lib.hid h5.1
  have hvb : (4 * (l : Int) == (v : Int) - 3) = true := by simp; omega
  clear h5
  clear hr
  go_enter Tryz.func51, Tryz.ntmps51
  go_upto_region 1 with (fail)
  generalize w.alloc (.cells #[.int .i64 0, .slice none 0 0] 28) = W0 at *
  go_cut [37] (fun s wx => s = .bool false ∧ wx = W0)
  case first =>
    have hc2 := HCH2.out W0
    have hn1 := n1.out.h
    clear HCH2 n1
    generalize chP (v - 2) (k - 2) = c1 at *
    generalize chP v k = c2 at *
    go_wp2_with fail
    refine hch1.mono ?_
    rintro e w1 ⟨rfl, rfl⟩
    clear hch1
    by_cases hl : l = c1
    · have hlb : ((l : Int) == (c1 : Int)) = true := by simp [hl]
      have h128 : ¬ (c2 : Int) ≤ 128 := by omega
      clear hn1 hl
      go_wp2_with fail
      refine hc2.mono ?_
      rintro e w2 ⟨rfl, rfl⟩
      clear hc2
      go_wp2
      go_meet
      exact ⟨by rw [decide_eq_false (Int.not_le.2 h128)], rfl⟩
    · have hlb : ((l : Int) == (c1 : Int)) = false := by simp; omega
      clear hn1 hl
      go_wp2
      go_meet
      exact ⟨rfl, rfl⟩
  case rest =>
    obtain ⟨rfl, hwc⟩ := hcut
    subst hwc
    clear hch1 ev2 ek2 HCH2
    go_upto_region 8 with (fail)
    go_cut [61] (fun s wx => s = .bool false ∧ wx = wc)
    case first =>
      by_cases hk3 : k = 3
      · have b1 : ((k : Int) == 3) = true := by simp [hk3]
        have b2 : ((l : Int) == 1) = false := by have := H2.out; simp; omega
        clear hk3
        go_wp2
        go_meet
        exact ⟨rfl, rfl⟩
      · have b1 : ((k : Int) == 3) = false := by simp; omega
        clear hk3
        go_wp2
        go_meet
        exact ⟨rfl, rfl⟩
    case rest =>
      obtain ⟨rfl, hwc⟩ := hcut
      subst hwc
      go_upto_region 12 with (fail)
      go_cut [78] (fun s wx => s = .bool false ∧ wx = wc)
      case first =>
        by_cases h1 : l = 1
        · have h1b : ((l : Int) == 1) = true := by simp [h1]
          have hvb : ((v : Int) == (M : Int)) = false := by have := H3.out; simp; omega
          clear h1
          go_wp2
          go_meet
          exact ⟨rfl, rfl⟩
        · have h1b : ((l : Int) == 1) = false := by simp; omega
          clear h1
          go_wp2
          go_meet
          exact ⟨rfl, rfl⟩
      case rest =>
        obtain ⟨rfl, hwc⟩ := hcut
        subst hwc
        go_upto_region 16 with (fail)
        go_cut [98] (fun s wx => s = .bool false ∧ wx = wc)
        case first =>
          by_cases h1 : l = 1
          · have h1b : ((l : Int) == 1) = true := by simp [h1]
            have hvb : ((v : Int) == (M : Int) - (k : Int) + 1) = false := by have := H4.out; simp; omega
            clear h1
            go_wp2
            go_meet
            exact ⟨rfl, rfl⟩
          · have h1b : ((l : Int) == 1) = false := by simp; omega
            clear h1
            go_wp2
            go_meet
            exact ⟨rfl, rfl⟩
        case rest =>
          obtain ⟨rfl, hwc⟩ := hcut
          subst hwc
          have hps := specPaleySet_yes v wc v3 v32 HPP.out.1 HPP.out.2
          go_upto_region 21 with (fail)
          refine hps.mono ?_
          rintro e w7 ⟨A7, n7, c7, rfl, ho7, hb7⟩
          have Y := Y.below hb7 (by omega)
          have hw7 := hb0.trans (hb7.mono hb0.size)
          have hs7 : w.heap.size + 1 ≤ w7.heap.size := by have := hb7.size; omega
          have HNL := Lib.hid ho7.len
          have hbz := hb7.size
          clear hps hb7 hb0
          go_upto_region 21 with (fail)
          have hnb : ((n7 : Int) == (k : Int)) = true := by have h1 := HNL.out; rw [HK.out] at h1; simp [h1]
          have hmem := sq_mem HR.out HV.out HPP.out.1
          obtain ⟨e1, e2, e3⟩ := dfcS_at hmem
          have hok := okS_block (sqs_at HV.out l1 v32 HPP.out.1).1
          rw [e1] at ho7 HK
          have HF := Lib.hid (fst_5 n1.out n2.out n3.out n4.out ⟨HV.out, HPP.out.1, HK.out⟩)
          rw [← e2] at HF
          have hoL := ORv.litH (v := (A7, n7, c7)) ho7 hbz
          have hrL := OR.reads ⟨_, hoL⟩
          have hbL := below_alloc w7 (.cells #[.slice A7 n7 c7] 36)
          have hsL : w.heap.size + 1 ≤ (w7.alloc (.cells #[.slice A7 n7 c7] 36)).heap.size := by simp; omega
          have hwL := hw7.trans (hbL.mono hw7.size)
          have YL := Y.below hbL (by omega)
          have hmk := specDevelop_any v (some ⟨w7.heap.size, 0, none⟩) 1 (sqK v v) _ hrL (by omega) v32 hok.1.1 hok.2 hok.1.2 e3
          clear hmem e1 e2 e3 hok ho7 hoL hrL hbL Y hw7
          generalize srtR (devS v (sqK v v) v) = bsL at *
          generalize sqK v v = sq at *
          go_wp2_with fail
          refine hmk.mono ?_
          rintro e w5 ⟨A5, n5, c5, rfl, ⟨vs5, ho5⟩, hb5⟩
          have Y6 := (YL.below hb5 (by omega)).alloc (.cells #[.int .i64 (v : Int), .slice A5 n5 c5] 28)
          have Z6 := Blk.new w5 28 #[.int .i64 (v : Int), .slice A5 n5 c5]
          have hw5 := hwL.trans (hb5.mono hwL.size)
          have hw6 := hw5.alloc hw5.size (.cells #[.int .i64 (v : Int), .slice A5 n5 c5] 28)
          have ho6 := ho5.below (below_alloc w5 (.cells #[.int .i64 (v : Int), .slice A5 n5 c5] 28))
          obtain ⟨y0, y1⟩ := Y6.cells2
          obtain ⟨z0, z1⟩ := Z6.cells2
          have f0 := Y6.frozen 0
          have f1 := Y6.frozen 1
          obtain ⟨q0, q1, q2, q3⟩ := fin_storeB (v := (v : Int)) Y6 hw6 ho6 (by omega)
          have Q := Lib.hid (And.intro q0 q1)
          clear q0 q1 hmk ho5 hb5 YL Y6 Z6 hw5 hw6 ho6
          go_wp2
          refine bodyPost_ret (v := .tuple #[.agg #[.int .i64 (v : Int), .slice A5 n5 c5], .int .i64 5]) (by simp [results, Tryz.results51, go_sem, q2, q3]) rfl ?_
          rw [HF.out]
          exact ⟨A5, n5, c5, rfl, ⟨_, Q.out.1⟩, Q.out.2⟩
set_option maxRecDepth 100000 in
set_option maxHeartbeats 8000000 in
theorem l29Base_p5n (v k l : Nat) (w : World) (hr : InR v k l) (n1 : Hid (No1 v k l)) (H2 : Hid (¬ (k = 3 ∧ l = 1))) (h3 : Hid (¬ (l = 1 ∧ v = k * k))) (h4 : Hid (¬ (l = 1 ∧ v + k = k * k + 1))) (HPP : Hid (isP v = true ∧ v % 4 = 3)) (h5 : ¬ ((sqrS v (v - 1)).length = k ∧ v = 4 * l + 3)) : Calls Tryz.prog 51 #[.int .i64 v, .int .i64 k, .int .i64 l] w (RetWO w v (fstD v k l)) := by
  obtain ⟨v3, v32, k2, kv, l1, l1000⟩ := id hr
  have hb0 := below_alloc w (.cells #[.int .i64 0, .slice none 0 0] 28)
  have Y := Blk.new w 28 #[.int .i64 0, .slice none 0 0]
  have hz0 : (w.alloc (.cells #[.int .i64 0, .slice none 0 0] 28)).heap.size = w.heap.size + 1 := by simp
  have HR := Lib.hid hr
  have hch1 := specChoose_any (v - 2) (k - 2) (w.alloc (.cells #[.int .i64 0, .slice none 0 0] 28)) (by omega)
  have HCH2 := Lib.hid (fun (W : World) => specChoose_any v k W (by omega))
  have ev2 : (v : Int) - 2 = ((v - 2 : Nat) : Int) := by omega
  have ek2 : (k : Int) - 2 = ((k - 2 : Nat) : Int) := by omega
  have n2 : Hid (No2 v k l) := Lib.hid ⟨fun h => H2.out ⟨h.1, h.2.1⟩⟩
  have n3 : Hid (No3 v k l) := Lib.hid ⟨h3.out⟩
  have n4 : Hid (No4 v k l) := Lib.hid ⟨h4.out⟩
  obtain ⟨M, hM⟩ : ∃ M, M = k * k := ⟨_, rfl⟩
  have hkm : (k : Int) * (k : Int) = (M : Int) := by rw [hM]; push_cast; rfl
  have hMb : M ≤ 1024 := by rw [hM]; exact kk_bd hr
  have HM := Lib.hid hM
  clear hM
  have H3 : Hid (¬ (l = 1 ∧ v = M)) := Lib.hid (by rw [HM.out]; exact h3.out)
  have H4 : Hid (¬ (l = 1 ∧ v + k = M + 1)) := Lib.hid (by rw [HM.out]; exact h4.out)
  have n5 : Hid (No5 v k l) := Lib.hid ⟨fun h => h5 ⟨by
    have hmem := sq_mem hr h.1 h.2.1
    rw [(dfcS_at hmem).1]
    exact h.2.2, h.1⟩⟩
  have n6 : Hid (No6 v k l) := Lib.hid ⟨fun h => n5.out.h ⟨h.1, HPP.out.1, by
    rw [(sqs_at h.1 l1 v32 HPP.out.1).2]
    omega⟩⟩
  have HF := Lib.hid (fst_0 n1.out n2.out n3.out n4.out n5.out n6.out)
  have H5 := Lib.hid h5
  clear h5
  clear hr
  go_enter Tryz.func51, Tryz.ntmps51
  go_upto_region 1 with (fail)
  generalize w.alloc (.cells #[.int .i64 0, .slice none 0 0] 28) = W0 at *
  go_cut [37] (fun s wx => s = .bool false ∧ wx = W0)
  case first =>
    have hc2 := HCH2.out W0
    have hn1 := n1.out.h
    clear HCH2 n1
    generalize chP (v - 2) (k - 2) = c1 at *
    generalize chP v k = c2 at *
    go_wp2_with fail
    refine hch1.mono ?_
    rintro e w1 ⟨rfl, rfl⟩
    clear hch1
    by_cases hl : l = c1
    · have hlb : ((l : Int) == (c1 : Int)) = true := by simp [hl]
      have h128 : ¬ (c2 : Int) ≤ 128 := by omega
      clear hn1 hl
      go_wp2_with fail
      refine hc2.mono ?_
      rintro e w2 ⟨rfl, rfl⟩
      clear hc2
      go_wp2
      go_meet
      exact ⟨by rw [decide_eq_false (Int.not_le.2 h128)], rfl⟩
    · have hlb : ((l : Int) == (c1 : Int)) = false := by simp; omega
      clear hn1 hl
      go_wp2
      go_meet
      exact ⟨rfl, rfl⟩
  case rest =>
    obtain ⟨rfl, hwc⟩ := hcut
    subst hwc
    clear hch1 ev2 ek2 HCH2
    go_upto_region 8 with (fail)
    go_cut [61] (fun s wx => s = .bool false ∧ wx = wc)
    case first =>
      by_cases hk3 : k = 3
      · have b1 : ((k : Int) == 3) = true := by simp [hk3]
        have b2 : ((l : Int) == 1) = false := by have := H2.out; simp; omega
        clear hk3
        go_wp2
        go_meet
        exact ⟨rfl, rfl⟩
      · have b1 : ((k : Int) == 3) = false := by simp; omega
        clear hk3
        go_wp2
        go_meet
        exact ⟨rfl, rfl⟩
    case rest =>
      obtain ⟨rfl, hwc⟩ := hcut
      subst hwc
      go_upto_region 12 with (fail)
      go_cut [78] (fun s wx => s = .bool false ∧ wx = wc)
      case first =>
        by_cases h1 : l = 1
        · have h1b : ((l : Int) == 1) = true := by simp [h1]
          have hvb : ((v : Int) == (M : Int)) = false := by have := H3.out; simp; omega
          clear h1
          go_wp2
          go_meet
          exact ⟨rfl, rfl⟩
        · have h1b : ((l : Int) == 1) = false := by simp; omega
          clear h1
          go_wp2
          go_meet
          exact ⟨rfl, rfl⟩
      case rest =>
        obtain ⟨rfl, hwc⟩ := hcut
        subst hwc
        go_upto_region 16 with (fail)
        go_cut [98] (fun s wx => s = .bool false ∧ wx = wc)
        case first =>
          by_cases h1 : l = 1
          · have h1b : ((l : Int) == 1) = true := by simp [h1]
            have hvb : ((v : Int) == (M : Int) - (k : Int) + 1) = false := by have := H4.out; simp; omega
            clear h1
            go_wp2
            go_meet
            exact ⟨rfl, rfl⟩
          · have h1b : ((l : Int) == 1) = false := by simp; omega
            clear h1
            go_wp2
            go_meet
            exact ⟨rfl, rfl⟩
        case rest =>
          obtain ⟨rfl, hwc⟩ := hcut
          subst hwc
          have hps := specPaleySet_yes v wc v3 v32 HPP.out.1 HPP.out.2
          go_upto_region 21 with (fail)
          refine hps.mono ?_
          rintro e w7 ⟨A7, n7, c7, rfl, ho7, hb7⟩
          have Y := Y.below hb7 (by omega)
          have hw7 := hb0.trans (hb7.mono hb0.size)
          have hs7 : w.heap.size + 1 ≤ w7.heap.size := by have := hb7.size; omega
          have HNL := Lib.hid ho7.len
          have hbz := hb7.size
          clear hps hb7 hb0
          go_upto_region 21 with (fail)
          clear ho7
          go_cut [127] (fun s wx => s = .bool false ∧ wx = w7)
          case first =>
            have h5 := H5.out
            rw [HNL.out] at h5
            by_cases hnk : n7 = k
            · have hnb : ((n7 : Int) == (k : Int)) = true := by simp [hnk]
              have hvb : (4 * (l : Int) == (v : Int) - 3) = false := by simp; omega
              clear hnk h5
              go_wp2
              go_meet
              exact ⟨rfl, rfl⟩
            · have hnb : ((n7 : Int) == (k : Int)) = false := by simp; omega
              clear hnk h5
              go_wp2
              go_meet
              exact ⟨rfl, rfl⟩
          case rest =>
            obtain ⟨rfl, hwc⟩ := hcut
            subst hwc
            go_upto_region 24 with (fail)
            go_cut [147] (fun s wx => s = .bool false ∧ wx = wc)
            case first =>
              have hn6 := n6.out.h
              by_cases hvl : v = 4 * l + 3
              · have hvb : ((v : Int) == 4 * (l : Int) + 3) = true := by simp; omega
                have hkb : ((k : Int) == 2 * (l : Int) + 1) = false := by simp; omega
                clear hn6 hvl
                go_wp2
                go_meet
                exact ⟨rfl, rfl⟩
              · have hvb : ((v : Int) == 4 * (l : Int) + 3) = false := by simp; omega
                clear hn6 hvl
                go_wp2
                go_meet
                exact ⟨rfl, rfl⟩
            case rest =>
              obtain ⟨rfl, hwc⟩ := hcut
              subst hwc
              obtain ⟨y0, y1⟩ := Y.cells2
              have f0 := Y.frozen 0
              have f1 := Y.frozen 1
              obtain ⟨q0, q1, q2, q3⟩ := fin_storeB (v := 0) (A := none) (n := 0) (c := 0) (bs := []) (vs := []) Y hw7 (OB.nilW _ (w.heap.size + 1)) (by omega)
              have Q := Lib.hid (And.intro q0 q1)
              clear q0 q1 Y
              go_wp2
              refine bodyPost_ret (v := .tuple #[.agg #[.int .i64 0, .slice none 0 0], .int .i64 0]) (by simp [results, Tryz.results51, go_sem, q2, q3]) rfl ?_
              rw [HF.out]
              exact ⟨none, 0, 0, rfl, ⟨_, Q.out.1⟩, Q.out.2⟩
set_option maxRecDepth 100000 in
set_option maxHeartbeats 8000000 in
theorem l29Base_p6 (v k l : Nat) (w : World) (hr : InR v k l) (n1 : Hid (No1 v k l)) (H2 : Hid (¬ (k = 3 ∧ l = 1))) (h3 : Hid (¬ (l = 1 ∧ v = k * k))) (h4 : Hid (¬ (l = 1 ∧ v + k = k * k + 1))) (hpp : ¬ (isP v = true ∧ v % 4 = 3)) (h6 : ¬ ((v = 4 * l + 3 ∧ k = 2 * l + 1) ∧ isP v = false)) : Calls Tryz.prog 51 #[.int .i64 v, .int .i64 k, .int .i64 l] w (RetWO w v (fstD v k l)) := by
  obtain ⟨v3, v32, k2, kv, l1, l1000⟩ := id hr
  have hb0 := below_alloc w (.cells #[.int .i64 0, .slice none 0 0] 28)
  have Y := Blk.new w 28 #[.int .i64 0, .slice none 0 0]
  have hz0 : (w.alloc (.cells #[.int .i64 0, .slice none 0 0] 28)).heap.size = w.heap.size + 1 := by simp
  have HR := Lib.hid hr
  have hch1 := specChoose_any (v - 2) (k - 2) (w.alloc (.cells #[.int .i64 0, .slice none 0 0] 28)) (by omega)
  have HCH2 := Lib.hid (fun (W : World) => specChoose_any v k W (by omega))
  have ev2 : (v : Int) - 2 = ((v - 2 : Nat) : Int) := by omega
  have ek2 : (k : Int) - 2 = ((k - 2 : Nat) : Int) := by omega
  have n2 : Hid (No2 v k l) := Lib.hid ⟨fun h => H2.out ⟨h.1, h.2.1⟩⟩
  have n3 : Hid (No3 v k l) := Lib.hid ⟨h3.out⟩
  have n4 : Hid (No4 v k l) := Lib.hid ⟨h4.out⟩
  obtain ⟨M, hM⟩ : ∃ M, M = k * k := ⟨_, rfl⟩
  have hkm : (k : Int) * (k : Int) = (M : Int) := by rw [hM]; push_cast; rfl
  have hMb : M ≤ 1024 := by rw [hM]; exact kk_bd hr
  have HM := Lib.hid hM
  clear hM
  have H3 : Hid (¬ (l = 1 ∧ v = M)) := Lib.hid (by rw [HM.out]; exact h3.out)
  have H4 : Hid (¬ (l = 1 ∧ v + k = M + 1)) := Lib.hid (by rw [HM.out]; exact h4.out)
  have hpq : isP v = false ∨ v % 4 ≠ 3 := by
    cases hp : isP v with
    | false => exact .inl rfl
    | true => exact .inr (fun h => hpp ⟨hp, h⟩)
  have HPQ := Lib.hid hpq
  have n5 : Hid (No5 v k l) := Lib.hid ⟨fun h => hpp ⟨h.2.1, by omega⟩⟩
  have n6 : Hid (No6 v k l) := Lib.hid ⟨fun h => h6 ⟨h, by
    cases hp : isP v with
    | false => rfl
    | true => exact absurd ⟨hp, by omega⟩ hpp⟩⟩
  have HF := Lib.hid (fst_0 n1.out n2.out n3.out n4.out n5.out n6.out)
  clear hpp hpq h6
  clear hr
  go_enter Tryz.func51, Tryz.ntmps51
  go_upto_region 1 with (fail)
  generalize w.alloc (.cells #[.int .i64 0, .slice none 0 0] 28) = W0 at *
  go_cut [37] (fun s wx => s = .bool false ∧ wx = W0)
  case first =>
    have hc2 := HCH2.out W0
    have hn1 := n1.out.h
    clear HCH2 n1
    generalize chP (v - 2) (k - 2) = c1 at *
    generalize chP v k = c2 at *
    go_wp2_with fail
    refine hch1.mono ?_
    rintro e w1 ⟨rfl, rfl⟩
    clear hch1
    by_cases hl : l = c1
    · have hlb : ((l : Int) == (c1 : Int)) = true := by simp [hl]
      have h128 : ¬ (c2 : Int) ≤ 128 := by omega
      clear hn1 hl
      go_wp2_with fail
      refine hc2.mono ?_
      rintro e w2 ⟨rfl, rfl⟩
      clear hc2
      go_wp2
      go_meet
      exact ⟨by rw [decide_eq_false (Int.not_le.2 h128)], rfl⟩
    · have hlb : ((l : Int) == (c1 : Int)) = false := by simp; omega
      clear hn1 hl
      go_wp2
      go_meet
      exact ⟨rfl, rfl⟩
  case rest =>
    obtain ⟨rfl, hwc⟩ := hcut
    subst hwc
    clear hch1 ev2 ek2 HCH2
    go_upto_region 8 with (fail)
    go_cut [61] (fun s wx => s = .bool false ∧ wx = wc)
    case first =>
      by_cases hk3 : k = 3
      · have b1 : ((k : Int) == 3) = true := by simp [hk3]
        have b2 : ((l : Int) == 1) = false := by have := H2.out; simp; omega
        clear hk3
        go_wp2
        go_meet
        exact ⟨rfl, rfl⟩
      · have b1 : ((k : Int) == 3) = false := by simp; omega
        clear hk3
        go_wp2
        go_meet
        exact ⟨rfl, rfl⟩
    case rest =>
      obtain ⟨rfl, hwc⟩ := hcut
      subst hwc
      go_upto_region 12 with (fail)
      go_cut [78] (fun s wx => s = .bool false ∧ wx = wc)
      case first =>
        by_cases h1 : l = 1
        · have h1b : ((l : Int) == 1) = true := by simp [h1]
          have hvb : ((v : Int) == (M : Int)) = false := by have := H3.out; simp; omega
          clear h1
          go_wp2
          go_meet
          exact ⟨rfl, rfl⟩
        · have h1b : ((l : Int) == 1) = false := by simp; omega
          clear h1
          go_wp2
          go_meet
          exact ⟨rfl, rfl⟩
      case rest =>
        obtain ⟨rfl, hwc⟩ := hcut
        subst hwc
        go_upto_region 16 with (fail)
        go_cut [98] (fun s wx => s = .bool false ∧ wx = wc)
        case first =>
          by_cases h1 : l = 1
          · have h1b : ((l : Int) == 1) = true := by simp [h1]
            have hvb : ((v : Int) == (M : Int) - (k : Int) + 1) = false := by have := H4.out; simp; omega
            clear h1
            go_wp2
            go_meet
            exact ⟨rfl, rfl⟩
          · have h1b : ((l : Int) == 1) = false := by simp; omega
            clear h1
            go_wp2
            go_meet
            exact ⟨rfl, rfl⟩
        case rest =>
          obtain ⟨rfl, hwc⟩ := hcut
          subst hwc
          have hps := specPaleySet_no v wc v3 v32 HPQ.out
          go_upto_region 21 with (fail)
          refine hps.mono ?_
          rintro e w7 ⟨A7, n7, c7, rfl, ho7, hb7⟩
          have Y := Y.below hb7 (by omega)
          have hw7 := hb0.trans (hb7.mono hb0.size)
          have hs7 : w.heap.size + 1 ≤ w7.heap.size := by have := hb7.size; omega
          clear hps hb7 hb0 ho7
          go_upto_region 24 with (fail)
          go_cut [147] (fun s wx => s = .bool false ∧ wx = w7)
          case first =>
            have hn6 := n6.out.h
            by_cases hvl : v = 4 * l + 3
            · have hvb : ((v : Int) == 4 * (l : Int) + 3) = true := by simp; omega
              have hkb : ((k : Int) == 2 * (l : Int) + 1) = false := by simp; omega
              clear hn6 hvl
              go_wp2
              go_meet
              exact ⟨rfl, rfl⟩
            · have hvb : ((v : Int) == 4 * (l : Int) + 3) = false := by simp; omega
              clear hn6 hvl
              go_wp2
              go_meet
              exact ⟨rfl, rfl⟩
          case rest =>
            obtain ⟨rfl, hwc⟩ := hcut
            subst hwc
            obtain ⟨y0, y1⟩ := Y.cells2
            have f0 := Y.frozen 0
            have f1 := Y.frozen 1
            obtain ⟨q0, q1, q2, q3⟩ := fin_storeB (v := 0) (A := none) (n := 0) (c := 0) (bs := []) (vs := []) Y hw7 (OB.nilW _ (w.heap.size + 1)) (by omega)
            have Q := Lib.hid (And.intro q0 q1)
            clear q0 q1 Y
            go_wp2
            refine bodyPost_ret (v := .tuple #[.agg #[.int .i64 0, .slice none 0 0], .int .i64 0]) (by simp [results, Tryz.results51, go_sem, q2, q3]) rfl ?_
            rw [HF.out]
            exact ⟨none, 0, 0, rfl, ⟨_, Q.out.1⟩, Q.out.2⟩
theorem l29Base_any (v k l : Nat) (w : World) (hr : InR v k l) : Calls Tryz.prog 51 #[.int .i64 v, .int .i64 k, .int .i64 l] w (RetWO w v (fstD v k l)) := by
  by_cases h1 : l = chP (v - 2) (k - 2) ∧ chP v k ≤ 128
  · exact l29Base_p1 v k l w hr h1
  have n1 : Hid (No1 v k l) := Lib.hid ⟨h1⟩
  by_cases h2 : k = 3 ∧ l = 1
  · cases ht : triB v with
    | true => exact l29Base_p2 v k l w hr n1 h2 ht
    | false => exact l29Base_p2n v k l w hr n1 h2 ht
  by_cases h3 : l = 1 ∧ v = k * k
  · exact l29Base_p3 v k l w hr n1 (Lib.hid h2) h3
  by_cases h4 : l = 1 ∧ v + k = k * k + 1
  · exact l29Base_p4 v k l w hr n1 (Lib.hid h2) (Lib.hid h3) h4
  by_cases h6 : (v = 4 * l + 3 ∧ k = 2 * l + 1) ∧ isP v = false
  · obtain ⟨⟨hv, hk⟩, hp⟩ := h6
    rcases not_prime hv hr.l1 hr.v32 hp with rfl | rfl
    · obtain rfl : l = 3 := by omega
      obtain rfl : k = 7 := by omega
      exact l29Base_15 w
    · obtain rfl : l = 6 := by omega
      obtain rfl : k = 13 := by omega
      exact l29Base_27 w
  by_cases hpp : isP v = true ∧ v % 4 = 3
  · by_cases h5 : (sqrS v (v - 1)).length = k ∧ v = 4 * l + 3
    · exact l29Base_p5 v k l w hr n1 (Lib.hid h2) (Lib.hid h3) (Lib.hid h4) (Lib.hid hpp) h5
    · exact l29Base_p5n v k l w hr n1 (Lib.hid h2) (Lib.hid h3) (Lib.hid h4) (Lib.hid hpp) h5
  · exact l29Base_p6 v k l w hr n1 (Lib.hid h2) (Lib.hid h3) (Lib.hid h4) hpp h6
theorem inRng_in {v k l : Nat} (h : InR v k l) : inRng v k l = true := by
  obtain ⟨v3, v32, k2, kv, l1, l1000⟩ := h
  simp [inRng, inB]; omega
theorem mid_storeB {w w5 : World} {B g : Nat} {x y : Value} {cs : Array Value} {v : Int} {A : Option Addr} {n c : Nat} {vs : List Sl} {bs : List (List Int)} (X : Blk w5 g 28 #[x, y]) (Y : Blk w5 w.heap.size 28 cs) (hb : Below w.heap.size w w5) (ho : OB w5 B A n c vs bs) (hg : w.heap.size < g) (hB : g < B) :
    OB ((w5.setCell ⟨g, 0, none⟩ (.int .i64 v)).setCell ⟨g, 1, none⟩ (.slice A n c)) B A n c vs bs ∧ Below w.heap.size w ((w5.setCell ⟨g, 0, none⟩ (.int .i64 v)).setCell ⟨g, 1, none⟩ (.slice A n c)) ∧
    Blk ((w5.setCell ⟨g, 0, none⟩ (.int .i64 v)).setCell ⟨g, 1, none⟩ (.slice A n c)) w.heap.size 28 cs ∧ Blk ((w5.setCell ⟨g, 0, none⟩ (.int .i64 v)).setCell ⟨g, 1, none⟩ (.slice A n c)) g 28 #[.int .i64 v, .slice A n c] ∧ ((w5.setCell ⟨g, 0, none⟩ (.int .i64 v)).setCell ⟨g, 1, none⟩ (.slice A n c)).heap.size = w5.heap.size := by
  refine ⟨(ho.setLow (p := ⟨g, 0, none⟩) (by show g < B; omega) _).setLow (p := ⟨g, 1, none⟩) (by show g < B; omega) _, (hb.setCell (p := ⟨g, 0, none⟩) (by show w.heap.size ≤ g; omega) _).setCell (p := ⟨g, 1, none⟩) (by show w.heap.size ≤ g; omega) _, ?_, ?_, by simp⟩
  · exact (Y.far (p := ⟨g, 0, none⟩) (by show w.heap.size ≠ g; omega) _).far (p := ⟨g, 1, none⟩) (by show w.heap.size ≠ g; omega) _
  · exact (X.set_ 0 (.int .i64 v)).set_ 1 (.slice A n c)
def cplW (v k l : Nat) : Int := nB v k l - 2 * nR v k l + l
theorem smp_cpl {v k l : Nat} (hr : InR v k l) (hf : fstD v k l = none) : smpD v k l = if okB v k l = true ∧ okR v k l = true ∧ inRng v ((v : Int) - k) (cplW v k l) = true then ((match fstD v (v - k) (cplW v k l).toNat with
    | some (_, bs) => some (srtR (cmlB v bs))
    | none => none).map fun bs => (7, bs)) else none := by
  unfold smpD
  rw [hf]
  show (cplO v k l).map _ = _
  unfold cplO
  by_cases h : okB v k l = true ∧ okR v k l = true
  · have hi := inRng_in hr
    have e1 : bnC v k l = 0 := by unfold bnC; rw [hi, h.1, h.2]; rfl
    have e2 : cplL v k l = cplW v k l := by unfold cplL cplW bnB bnR; rw [hi, h.1, h.2]; rfl
    rw [e1, e2]
    by_cases h3 : inRng v ((v : Int) - k) (cplW v k l) = true
    · rw [if_pos ⟨rfl, h3⟩, if_pos ⟨h.1, h.2, h3⟩]; rfl
    · rw [if_neg (fun h => h3 h.2), if_neg (fun h => h3 h.2.2)]; rfl
  · have e1 : bnC v k l ≠ 0 := by
      unfold bnC
      rw [inRng_in hr]
      have : (okB v k l && okR v k l) = false := by
        cases h1 : okB (v : Int) k l with
        | false => rfl
        | true =>
          cases h2 : okR (v : Int) k l with
          | false => rfl
          | true => exact absurd ⟨h1, h2⟩ h
      rw [this]
      decide
    rw [if_neg (fun h => e1 h.1), if_neg (fun h2 => h ⟨h2.1, h2.2.1⟩)]; rfl
theorem cml_block {v k l c : Nat} {bs : List (List Int)} (hr : InR v k l) (h : smpD v k l = some (c, srtR (cmlB v bs))) (hv : v ≤ 32) {j : Nat} (hj : j < bs.length) : Block (minS (iotaP v) (row bs j)) v := by
  have hb := (smp_ok hr h).1.d
  have hm : minS (iotaP v) (row bs j) ∈ srtR (cmlB v bs) := by
    refine (srtR_perm _).mem_iff.2 ?_
    rw [← minK_minS (by omega), ← cmlB_row hj, row_get (by rw [cmlB_len]; exact hj)]
    exact List.getElem_mem _
  obtain ⟨i, hi, he⟩ := mem_rowH hm
  rw [← he]
  exact hb.blk i hi
set_option maxRecDepth 100000 in
set_option maxHeartbeats 8000000 in
theorem l29Seven_any (v k l : Nat) (w : World) (hr : InR v k l) : Calls Tryz.prog 32 #[.int .i64 v, .int .i64 k, .int .i64 l] w (RetWO w v (smpD v k l)) := by
  have hb0 := below_alloc w (.cells #[.int .i64 0, .slice none 0 0] 28)
  have Y := Blk.new w 28 #[.int .i64 0, .slice none 0 0]
  have hz0 : (w.alloc (.cells #[.int .i64 0, .slice none 0 0] 28)).heap.size = w.heap.size + 1 := by simp
  have hba := l29Base_any v k l (w.alloc (.cells #[.int .i64 0, .slice none 0 0] 28)) hr
  have HR := Lib.hid hr
  cases hfo : fstD v k l with
  | some x =>
    obtain ⟨c, bs⟩ := x
    rw [hfo] at hba
    have HF := Lib.hid (show smpD v k l = some (c, bs) by unfold smpD; rw [hfo])
    have hc := fst_inv hfo
    have hc0 : (0 : Int) < c := by omega
    clear hfo hc hr
    go_enter Tryz.func32, Tryz.ntmps32
    go_wp2_with fail
    refine hba.mono ?_
    rintro e w5 ⟨A5, n5, c5, rfl, ⟨vs5, ho5⟩, hb5⟩
    have Y6 := (Y.after hb5).alloc (.cells #[.int .i64 (v : Int), .slice A5 n5 c5] 28)
    have Z6 := Blk.new w5 28 #[.int .i64 (v : Int), .slice A5 n5 c5]
    have hw5 := hb0.trans (hb5.mono hb0.size)
    have hw6 := hw5.alloc hw5.size (.cells #[.int .i64 (v : Int), .slice A5 n5 c5] 28)
    have ho6 := ho5.below (below_alloc w5 (.cells #[.int .i64 (v : Int), .slice A5 n5 c5] 28))
    obtain ⟨y0, y1⟩ := Y6.cells2
    obtain ⟨z0, z1⟩ := Z6.cells2
    have f0 := Y6.frozen 0
    have f1 := Y6.frozen 1
    obtain ⟨q0, q1, q2, q3⟩ := fin_storeB (v := (v : Int)) Y6 hw6 ho6 (by omega)
    have Q := Lib.hid (And.intro q0 q1)
    clear q0 q1 hba ho5 hb5 Y Y6 Z6 hw5 hw6 ho6
    go_wp2
    refine bodyPost_ret (v := .tuple #[.agg #[.int .i64 (v : Int), .slice A5 n5 c5], .int .i64 c]) (by simp [results, Tryz.results32, go_sem, q2, q3]) rfl ?_
    rw [HF.out]
    exact ⟨A5, n5, c5, rfl, ⟨_, Q.out.1⟩, Q.out.2⟩
  | none =>
    rw [hfo] at hba
    have HS := Lib.hid (smp_cpl hr hfo)
    have HNU := Lib.hid (fun (W : World) => l29Numbers_any (v : Int) k l W (inRng_in hr))
    have HRN := Lib.hid (fun (W : World) => l29Range_any (v : Int) ((v : Int) - k) (cplW v k l) W)
    have HT : Hid (cplW v k l = nB v k l - 2 * nR v k l + l) := Lib.hid rfl
    obtain ⟨⟨b0, b1⟩, ⟨r0, r1⟩⟩ := nBR_bd hr
    obtain ⟨v3, v32, k2, kv, l1, l1000⟩ := hr
    clear hfo
    generalize nB (v : Int) k l = b at *
    generalize nR (v : Int) k l = r at *
    generalize okB (v : Int) k l = o1 at *
    generalize okR (v : Int) k l = o2 at *
    have hkv : (v : Int) - k = ((v - k : Nat) : Int) := by omega
    rw [hkv] at HRN HS
    generalize hs : cplW v k l = s at *
    have hlm := HT.out.symm
    clear HT hs
    go_enter Tryz.func32, Tryz.ntmps32
    go_wp2_with fail
    refine hba.mono ?_
    rintro e w1 ⟨A1, n1, c1, rfl, -, hb1⟩
    have Y1 := (Y.after hb1).alloc (.cells #[.int .i64 0, .slice A1 n1 c1] 28)
    have X1 := Blk.new w1 28 #[.int .i64 0, .slice A1 n1 c1]
    have hw1 := (hb0.trans (hb1.mono hb0.size)).alloc (by have := hb1.size; omega) (.cells #[.int .i64 0, .slice A1 n1 c1] 28)
    have hg : w.heap.size < w1.heap.size := by have := hb1.size; omega
    have hz1 : w1.heap.size < (w1.alloc (.cells #[.int .i64 0, .slice A1 n1 c1] 28)).heap.size := by simp
    clear hba hb0 hb1 Y hz0
    have hnu := HNU.out (w1.alloc (.cells #[.int .i64 0, .slice A1 n1 c1] 28))
    go_wp2_with fail
    generalize w1.alloc (.cells #[.int .i64 0, .slice A1 n1 c1] 28) = W1 at *
    generalize w1.heap.size = gd at *
    refine hnu.mono ?_
    rintro e w2 ⟨rfl, hb2⟩
    have Y2 := Y1.after hb2
    have X2 := X1.after hb2
    have hw2 := hw1.trans (hb2.mono (by omega))
    have hz2 : gd < w2.heap.size := by have := hb2.size; omega
    have hrn := HRN.out w2
    obtain ⟨ri, hri⟩ : ∃ ri, ri = inRng (v : Int) ((v - k : Nat) : Int) s := ⟨_, rfl⟩
    rw [← hri] at hrn HS
    have HRI := Lib.hid hri
    clear hri
    clear HNU HRN hnu hb2 Y1 X1 hw1 hz1
    go_upto_region 5 with (fail)
    go_cut [55] (fun t wx => t = .bool (decide (¬ (o1 = true ∧ o2 = true ∧ ri = true))) ∧ wx = w2)
    case first =>
      cases o1 with
      | false =>
        go_wp2
        go_meet
        exact ⟨by simp, rfl⟩
      | true =>
        cases o2 with
        | false =>
          go_wp2
          go_meet
          exact ⟨by simp, rfl⟩
        | true =>
          cases ri with
          | false =>
            go_wp2_with fail
            refine hrn.mono ?_
            rintro e w3 ⟨rfl, rfl⟩
            go_wp2
            go_meet
            exact ⟨by simp, rfl⟩
          | true =>
            go_wp2_with fail
            refine hrn.mono ?_
            rintro e w3 ⟨rfl, rfl⟩
            go_wp2
            go_meet
            exact ⟨by simp, rfl⟩
    case rest =>
      obtain ⟨rfl, hwc⟩ := hcut
      subst hwc
      clear hrn
      by_cases hin : o1 = true ∧ o2 = true ∧ ri = true
      · have HS2 := Lib.hid (HS.out.trans (if_pos hin))
        rw [decide_eq_false (fun h => h hin)]
        have hir := HRI.out.symm.trans hin.2.2
        have hpos := inRng_true hir
        obtain ⟨m, rfl⟩ : ∃ m : Nat, s = (m : Int) := ⟨s.toNat, by omega⟩
        have HRm := Lib.hid (inRng_of hir v32)
        clear hin HS hpos hir HRI
        rw [Int.toNat_natCast] at HS2
        have hba := l29Base_any v (v - k) m wc HRm.out
        cases hfo : fstD v (v - k) m with
        | none =>
          rw [hfo] at HS2 hba
          have HE := Lib.hid (show smpD v k l = none from HS2.out)
          clear hfo
          obtain ⟨x0, x1⟩ := X2.cells2
          go_wp2_with fail
          refine hba.mono ?_
          rintro e w3 ⟨A3, n3, c3, rfl, ⟨vs3, ho3⟩, hb3⟩
          have hs3 := hb3.size
          have hw3 := hw2.trans (hb3.mono (by omega))
          have X3 := X2.after hb3
          obtain ⟨ho4, hw4, Y4, X4, e4⟩ := mid_storeB (v := 0) X3 (Y2.after hb3) hw3 ho3 hg (by omega)
          clear x0 x1
          obtain ⟨x0, x1⟩ := X3.cells2
          have g0 := X3.frozen 0
          have g1 := X3.frozen 1
          clear hba hb3 Y2 X2 hw2 hw3 ho3 X3
          obtain ⟨y0, y1⟩ := Y4.cells2
          have f0 := Y4.frozen 0
          have f1 := Y4.frozen 1
          obtain ⟨q0, q1, q2, q3⟩ := fin_storeB (v := 0) (A := none) (n := 0) (c := 0) (bs := []) (vs := []) Y4 hw4 (OB.nilW _ (w.heap.size + 1)) (by omega)
          have Q := Lib.hid (And.intro q0 q1)
          clear q0 q1
          go_wp2
          refine bodyPost_ret (v := .tuple #[.agg #[.int .i64 0, .slice none 0 0], .int .i64 0]) (by simp [results, Tryz.results32, go_sem, q2, q3]) rfl ?_
          rw [HE.out]
          exact ⟨none, 0, 0, rfl, ⟨_, Q.out.1⟩, Q.out.2⟩
        | some x =>
          obtain ⟨c, bs⟩ := x
          rw [hfo] at HS2 hba
          have hE : smpD v k l = some (7, srtR (cmlB v bs)) := HS2.out
          have hc := fst_inv hfo
          have hc0 : ((c : Int) == 0) = false := by simp; omega
          have hbal := (fst_base HRm.out hfo).bal
          have HCD := Lib.hid (fun (A : Option Addr) (n cc : Nat) (W : World) (ha : RR W A n bs) => specComplement_any v A n cc bs W ha hbal.d (fun j hj => cml_block HR.out hE v32 (by rw [ha.len]; exact hj)))
          have HE := Lib.hid hE
          generalize srtR (cmlB v bs) = L at *
          clear hfo hbal hc hE
          obtain ⟨x0, x1⟩ := X2.cells2
          go_wp2_with fail
          refine hba.mono ?_
          rintro e w3 ⟨A3, n3, c3, rfl, ⟨vs3, ho3⟩, hb3⟩
          have hs3 := hb3.size
          have hw3 := hw2.trans (hb3.mono (by omega))
          have X3 := X2.after hb3
          obtain ⟨ho4, hw4, Y4, X4, e4⟩ := mid_storeB (v := (v : Int)) X3 (Y2.after hb3) hw3 ho3 hg (by omega)
          clear x0 x1
          obtain ⟨x0, x1⟩ := X3.cells2
          have g0 := X3.frozen 0
          have g1 := X3.frozen 1
          obtain ⟨z0, z1⟩ := X4.cells2
          have hcd := HCD.out A3 n3 c3 _ ho4.reads
          clear hba hb3 Y2 X2 hw2 hw3 ho3 X3 ho4
          go_wp2_with fail
          refine hcd.mono ?_
          rintro e w5 ⟨A5, n5, c5, rfl, ⟨vs5, ho5⟩, hb5⟩
          have Y6 := (Y4.after hb5).alloc (.cells #[.int .i64 (v : Int), .slice A5 n5 c5] 28)
          have Z6 := Blk.new w5 28 #[.int .i64 (v : Int), .slice A5 n5 c5]
          have hw5 := hw4.trans (hb5.mono hw4.size)
          have hw6 := hw5.alloc hw5.size (.cells #[.int .i64 (v : Int), .slice A5 n5 c5] 28)
          have ho6 := ho5.below (below_alloc w5 (.cells #[.int .i64 (v : Int), .slice A5 n5 c5] 28))
          clear z0 z1 x0 x1 g0 g1
          obtain ⟨y0, y1⟩ := Y6.cells2
          obtain ⟨z0, z1⟩ := Z6.cells2
          have f0 := Y6.frozen 0
          have f1 := Y6.frozen 1
          obtain ⟨q0, q1, q2, q3⟩ := fin_storeB (v := (v : Int)) Y6 hw6 ho6 (by omega)
          have Q := Lib.hid (And.intro q0 q1)
          clear q0 q1 hcd ho5 hb5 Y4 X4 Y6 Z6 hw4 hw5 hw6 ho6 e4
          go_wp2
          refine bodyPost_ret (v := .tuple #[.agg #[.int .i64 (v : Int), .slice A5 n5 c5], .int .i64 7]) (by simp [results, Tryz.results32, go_sem, q2, q3]) rfl ?_
          rw [HE.out]
          exact ⟨A5, n5, c5, rfl, ⟨_, Q.out.1⟩, Q.out.2⟩
      · have HE := Lib.hid (show smpD v k l = none from HS.out.trans (if_neg hin))
        rw [decide_eq_true hin]
        clear hin HS
        obtain ⟨y0, y1⟩ := Y2.cells2
        have f0 := Y2.frozen 0
        have f1 := Y2.frozen 1
        obtain ⟨q0, q1, q2, q3⟩ := fin_storeB (v := 0) (A := none) (n := 0) (c := 0) (bs := []) (vs := []) Y2 hw2 (OB.nilW _ (w.heap.size + 1)) (by omega)
        have Q := Lib.hid (And.intro q0 q1)
        clear q0 q1
        go_wp2
        refine bodyPost_ret (v := .tuple #[.agg #[.int .i64 0, .slice none 0 0], .int .i64 0]) (by simp [results, Tryz.results32, go_sem, q2, q3]) rfl ?_
        rw [HE.out]
        exact ⟨none, 0, 0, rfl, ⟨_, Q.out.1⟩, Q.out.2⟩
end Go.Proofs.YtnmcmologlgccaaGreat
