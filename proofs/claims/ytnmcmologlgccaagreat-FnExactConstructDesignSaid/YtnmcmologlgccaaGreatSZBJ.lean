/- The first construction that applies: the reference's side, two Hadamard matrices and the complete designs. No condition beyond those stated. -/
import Derived.Test.YtnmcmologlgccaaGreatSZBH
import Derived.Test.YtnmcmologlgccaaGreatSZBI
import Derived.Deep.DeepCutAuto
set_option linter.unusedVariables false
set_option linter.unusedSimpArgs false
namespace Go.Proofs.YtnmcmologlgccaaGreat
open Go.RowKit
def RetWO (w : World) (v : Nat) (o : Option (Nat × List (List Int))) (e : Ending) (w' : World) : Prop :=
  match o with
  | some (c, bs) => RetW w v bs c e w'
  | none => RetW w 0 [] 0 e w'
set_option maxRecDepth 100000 in
set_option maxHeartbeats 8000000 in
theorem l29Base_15 (w : World) : Calls Tryz.prog 51 #[.int .i64 15, .int .i64 7, .int .i64 3] w (RetWO w 15 (fstD 15 7 3)) := by
  have hb0 := below_alloc w (.cells #[.int .i64 0, .slice none 0 0] 28)
  have Y := Blk.new w 28 #[.int .i64 0, .slice none 0 0]
  have hz0 : (w.alloc (.cells #[.int .i64 0, .slice none 0 0] 28)).heap.size = w.heap.size + 1 := by simp
  rw [fst15]
  have hch := specChoose_any 13 5 (w.alloc (.cells #[.int .i64 0, .slice none 0 0] 28)) (by omega)
  have hcc : (3 == ((chP 13 5 : Nat) : Int)) = false := by decide +kernel
  generalize ((chP 13 5 : Nat) : Int) = ch at *
  have hpn := specPaleySet_no 15 (w.alloc (.cells #[.int .i64 0, .slice none 0 0] 28)) (by omega) (by omega) (.inl (by
    have ha := sqs_all
    simp only [Bool.and_eq_true, Bool.not_eq_true'] at ha
    exact ha.1.2))
  go_enter Tryz.func51, Tryz.ntmps51
  go_wp2_with fail
  generalize w.alloc (.cells #[.int .i64 0, .slice none 0 0] 28) = W0 at *
  refine hch.mono ?_
  rintro e w1 ⟨rfl, rfl⟩
  clear hch
  go_wp2_with fail
  refine hpn.mono ?_
  rintro e w2 ⟨A2, n2, c2, rfl, -, hb2⟩
  have Y := Y.below hb2 (by omega)
  have hw2 := hb0.trans (hb2.mono hb0.size)
  have hs2 : w.heap.size + 1 ≤ w2.heap.size := by have := hb2.size; omega
  clear hpn hb0 hb2
  go_wp2
  go_loopw [20] (fun nv wr => ∃ n : Nat, n ≤ 4 ∧ nv = .int .i64 n ∧ wr = w2) (fun nv _ => 4 - (intOf nv).toNat)
  case atStart => exact ⟨0, by omega, rfl, rfl⟩
  case round =>
    obtain ⟨n, hn, rfl, rfl⟩ := hrel
    have hpo := l03Power_any 2 n wr (by omega) (by omega) (by omega)
    by_cases hlt : n < 4
    · have hz : (2 : Int) ^ n < 16 := by
        have : n = 0 ∨ n = 1 ∨ n = 2 ∨ n = 3 := by omega
        rcases this with rfl | rfl | rfl | rfl <;> decide
      generalize (2 : Int) ^ n = z at *
      go_wp2_with fail
      refine hpo.mono ?_
      rintro e w3 ⟨rfl, rfl⟩
      clear hpo
      go_wp2
      exact ⟨⟨n + 1, by omega, by go_num, trivial⟩, by simp only [intOf]; omega⟩
    · obtain rfl : n = 4 := by omega
      have hp2 : (2 : Int) ^ 4 = 16 := by decide
      rw [hp2] at hpo
      clear hp2
      have hsy := specSylvester_any 4 wr (by omega)
      go_wp2_with fail
      refine hpo.mono ?_
      rintro e w3 ⟨rfl, rfl⟩
      go_wp2_with fail
      refine hsy.mono ?_
      rintro e w3 ⟨A3, n3, c3, rfl, ho3, hb3⟩
      have Y := Y.below hb3 (by omega)
      have hw3 := hw2.trans (hb3.mono hw2.size)
      have hs3 : w.heap.size + 1 ≤ w3.heap.size := by have := hb3.size; omega
      have hpo := l03Power_any 2 4 w3 (by omega) (by omega) (by omega)
      rw [show (2 : Int) ^ 4 = 16 by decide] at hpo
      clear hsy hb3 hw2 hs2
      go_wp2_with fail
      refine hpo.mono ?_
      rintro e w4 ⟨rfl, rfl⟩
      clear hpo
      have hmk := specDesignOfHadamard_any 15 A3 n3 c3 H16 w3 (OR.reads (H16_ok ▸ ho3)) hadS15 (by omega) (by omega)
      clear ho3
      rw [hadS15.eq] at hmk
      go_wp2_with fail
      refine hmk.mono ?_
      rintro e w5 ⟨A5, n5, c5, rfl, ⟨vs5, ho5⟩, hb5⟩
      have Y6 := (Y.below hb5 (by omega)).alloc (.cells #[.int .i64 15, .slice A5 n5 c5] 28)
      have Z6 := Blk.new w5 28 #[.int .i64 15, .slice A5 n5 c5]
      have hw5 := hw3.trans (hb5.mono hw3.size)
      have hw6 := hw5.alloc hw5.size (.cells #[.int .i64 15, .slice A5 n5 c5] 28)
      have ho6 := ho5.below (below_alloc w5 (.cells #[.int .i64 15, .slice A5 n5 c5] 28))
      obtain ⟨y0, y1⟩ := Y6.cells2
      obtain ⟨z0, z1⟩ := Z6.cells2
      have f0 := Y6.frozen 0
      have f1 := Y6.frozen 1
      obtain ⟨q0, q1, q2, q3⟩ := fin_storeB (v := 15) Y6 hw6 ho6 (by omega)
      have Q := Lib.hid (And.intro q0 q1)
      clear q0 q1 hmk ho5 hb5 Y Y6 Z6 hw5 hw6 ho6
      go_wp2
      refine bodyPost_ret (v := .tuple #[.agg #[.int .i64 15, .slice A5 n5 c5], .int .i64 6]) (by simp [results, Tryz.results51, go_sem, q2, q3]) rfl ?_
      exact ⟨A5, n5, c5, rfl, ⟨_, Q.out.1⟩, Q.out.2⟩
set_option maxRecDepth 100000 in
set_option maxHeartbeats 8000000 in
theorem l29Base_27 (w : World) : Calls Tryz.prog 51 #[.int .i64 27, .int .i64 13, .int .i64 6] w (RetWO w 27 (fstD 27 13 6)) := by
  have hb0 := below_alloc w (.cells #[.int .i64 0, .slice none 0 0] 28)
  have Y := Blk.new w 28 #[.int .i64 0, .slice none 0 0]
  have hz0 : (w.alloc (.cells #[.int .i64 0, .slice none 0 0] 28)).heap.size = w.heap.size + 1 := by simp
  rw [fst27]
  have hch := specChoose_any 25 11 (w.alloc (.cells #[.int .i64 0, .slice none 0 0] 28)) (by omega)
  have hcc : (6 == ((chP 25 11 : Nat) : Int)) = false := by decide +kernel
  generalize ((chP 25 11 : Nat) : Int) = ch at *
  have hpn := specPaleySet_no 27 (w.alloc (.cells #[.int .i64 0, .slice none 0 0] 28)) (by omega) (by omega) (.inl (by
    have ha := sqs_all
    simp only [Bool.and_eq_true, Bool.not_eq_true'] at ha
    exact ha.2))
  go_enter Tryz.func51, Tryz.ntmps51
  go_wp2_with fail
  generalize w.alloc (.cells #[.int .i64 0, .slice none 0 0] 28) = W0 at *
  refine hch.mono ?_
  rintro e w1 ⟨rfl, rfl⟩
  clear hch
  go_wp2_with fail
  refine hpn.mono ?_
  rintro e w2 ⟨A2, n2, c2, rfl, -, hb2⟩
  have Y := Y.below hb2 (by omega)
  have hw2 := hb0.trans (hb2.mono hb0.size)
  have hs2 : w.heap.size + 1 ≤ w2.heap.size := by have := hb2.size; omega
  clear hpn hb0 hb2
  go_wp2
  go_loopw [20] (fun nv wr => ∃ n : Nat, n ≤ 5 ∧ nv = .int .i64 n ∧ wr = w2) (fun nv _ => 5 - (intOf nv).toNat)
  case atStart => exact ⟨0, by omega, rfl, rfl⟩
  case round =>
    obtain ⟨n, hn, rfl, rfl⟩ := hrel
    have hpo := l03Power_any 2 n wr (by omega) (by omega) (by omega)
    by_cases hlt : n < 5
    · have hz : (2 : Int) ^ n < 28 := by
        have : n = 0 ∨ n = 1 ∨ n = 2 ∨ n = 3 ∨ n = 4 := by omega
        rcases this with rfl | rfl | rfl | rfl | rfl <;> decide
      generalize (2 : Int) ^ n = z at *
      go_wp2_with fail
      refine hpo.mono ?_
      rintro e w3 ⟨rfl, rfl⟩
      clear hpo
      go_wp2
      exact ⟨⟨n + 1, by omega, by go_num, trivial⟩, by simp only [intOf]; omega⟩
    · obtain rfl : n = 5 := by omega
      have hp2 : (2 : Int) ^ 5 = 32 := by decide
      rw [hp2] at hpo
      clear hp2
      have hsy := specSylvester_any 5 wr (by omega)
      go_wp2_with fail
      refine hpo.mono ?_
      rintro e w3 ⟨rfl, rfl⟩
      go_wp2_with fail
      refine hsy.mono ?_
      rintro e w3 ⟨A3, n3, c3, rfl, ho3, hb3⟩
      have Y := Y.below hb3 (by omega)
      have hw3 := hw2.trans (hb3.mono hw2.size)
      have hs3 : w.heap.size + 1 ≤ w3.heap.size := by have := hb3.size; omega
      have hpo := l03Power_any 2 5 w3 (by omega) (by omega) (by omega)
      rw [show (2 : Int) ^ 5 = 32 by decide] at hpo
      clear hsy hb3 hw2 hs2
      go_wp2_with fail
      refine hpo.mono ?_
      rintro e w4 ⟨rfl, rfl⟩
      clear hpo
      have hpa := specPaley_27 w3
      go_wp2_with fail
      refine hpa.mono ?_
      rintro e w4 ⟨A4, n4, c4, rfl, ho4, hb4⟩
      have Y := Y.below hb4 (by omega)
      have hw4 := hw3.trans (hb4.mono hw3.size)
      have hs4 : w.heap.size + 1 ≤ w4.heap.size := by have := hb4.size; omega
      clear hpa hb4 hw3 hs3 ho3
      have hmk := specDesignOfHadamard_any 27 A4 n4 c4 H28 w4 (OR.reads ho4) hadS27 (by omega) (by omega)
      clear ho4
      rw [hadS27.eq] at hmk
      go_wp2_with fail
      refine hmk.mono ?_
      rintro e w5 ⟨A5, n5, c5, rfl, ⟨vs5, ho5⟩, hb5⟩
      have Y6 := (Y.below hb5 (by omega)).alloc (.cells #[.int .i64 27, .slice A5 n5 c5] 28)
      have Z6 := Blk.new w5 28 #[.int .i64 27, .slice A5 n5 c5]
      have hw5 := hw4.trans (hb5.mono hw4.size)
      have hw6 := hw5.alloc hw5.size (.cells #[.int .i64 27, .slice A5 n5 c5] 28)
      have ho6 := ho5.below (below_alloc w5 (.cells #[.int .i64 27, .slice A5 n5 c5] 28))
      obtain ⟨y0, y1⟩ := Y6.cells2
      obtain ⟨z0, z1⟩ := Z6.cells2
      have f0 := Y6.frozen 0
      have f1 := Y6.frozen 1
      obtain ⟨q0, q1, q2, q3⟩ := fin_storeB (v := 27) Y6 hw6 ho6 (by omega)
      have Q := Lib.hid (And.intro q0 q1)
      clear q0 q1 hmk ho5 hb5 Y Y6 Z6 hw5 hw6 ho6
      go_wp2
      refine bodyPost_ret (v := .tuple #[.agg #[.int .i64 27, .slice A5 n5 c5], .int .i64 6]) (by simp [results, Tryz.results51, go_sem, q2, q3]) rfl ?_
      exact ⟨A5, n5, c5, rfl, ⟨_, Q.out.1⟩, Q.out.2⟩
set_option maxRecDepth 100000 in
set_option maxHeartbeats 8000000 in
theorem l29Base_p1 (v k l : Nat) (w : World) (hr : InR v k l) (h1 : l = chP (v - 2) (k - 2) ∧ chP v k ≤ 128) : Calls Tryz.prog 51 #[.int .i64 v, .int .i64 k, .int .i64 l] w (RetWO w v (fstD v k l)) := by
  obtain ⟨v3, v32, k2, kv, l1, l1000⟩ := id hr
  have hb0 := below_alloc w (.cells #[.int .i64 0, .slice none 0 0] 28)
  have Y := Blk.new w 28 #[.int .i64 0, .slice none 0 0]
  have hz0 : (w.alloc (.cells #[.int .i64 0, .slice none 0 0] 28)).heap.size = w.heap.size + 1 := by simp
  have HR := Lib.hid hr
  have hch1 := specChoose_any (v - 2) (k - 2) (w.alloc (.cells #[.int .i64 0, .slice none 0 0] 28)) (by omega)
  have HCH2 := Lib.hid (fun (W : World) => specChoose_any v k W (by omega))
  have ev2 : (v : Int) - 2 = ((v - 2 : Nat) : Int) := by omega
  have ek2 : (k : Int) - 2 = ((k - 2 : Nat) : Int) := by omega
  have HF := Lib.hid (fst_1 hr h1)
  have HL := Lib.hid (subL_len v k)
  have HST := Lib.hid (fun (i : Nat) => show (List.range (i + 1)).map (fun r => subP v k r) = (List.range i).map (fun r => subP v k r) ++ [subP v k i] from by rw [List.range_succ, List.map_append]; rfl)
  have h128 := h1.2
  have hlb : ((l : Int) == ((chP (v - 2) (k - 2) : Nat) : Int)) = true := by simp [h1.1]
  have HSUB : Hid (subL v k = (List.range (chP v k)).map fun r => subP v k r) := Lib.hid rfl
  have hc2 := HCH2.out (w.alloc (.cells #[.int .i64 0, .slice none 0 0] 28))
  clear h1
  generalize chP v k = N at *
  generalize chP (v - 2) (k - 2) = c1 at *
  have hNi : (N : Int) ≤ 128 := by omega
  clear hr
  go_enter Tryz.func51, Tryz.ntmps51
  go_wp2_with fail
  generalize w.alloc (.cells #[.int .i64 0, .slice none 0 0] 28) = W0 at *
  refine hch1.mono ?_
  rintro e w1 ⟨rfl, rfl⟩
  clear hch1
  go_wp2_with fail
  refine hc2.mono ?_
  rintro e w2 ⟨rfl, rfl⟩
  clear hc2
  have G0 := Grw.start W0 W0 (Below.refl _ _)
  rw [hz0] at G0
  go_wp2
  go_loopw [8, 9] (fun ov iv wr => ∃ (i : Nat) (P : Option Addr) (pc : Nat), i ≤ N ∧ iv = .int .i64 i ∧ ov = .slice P i pc ∧ Grw W0 wr P i pc ((List.range i).map fun r => subP v k r)) (fun _ iv _ => N - (intOf iv).toNat)
  case atStart => exact ⟨0, _, 0, Nat.zero_le _, rfl, rfl, G0⟩
  case round =>
    clear G0
    obtain ⟨i, P, pc, hi, rfl, rfl, G⟩ := hrel
    have hc2 := HCH2.out wr
    by_cases hlt : i < N
    · have hsu := l01Subset_any v k i wr (by omega) (by omega) (by omega)
      go_wp2_with fail
      refine hc2.mono ?_
      rintro e w2 ⟨rfl, rfl⟩
      clear hc2
      go_wp2_with fail
      refine hsu.mono ?_
      rintro e w2 ⟨A2, n2, c2, rfl, ho2, hb2⟩
      obtain ⟨vs, G⟩ := G.row ho2 hb2
      have hlw := G.b.size
      have HS1 := Lib.hid (HST.out i)
      clear hsu ho2 hb2
      generalize subP v k i = tr at *
      go_wp2_with (at_builtin; refine app_row _ rfl _ _ rfl W0.heap.size P i pc vs _ rfl G.o (A2, n2, c2) tr G.r G.ap _ rfl rfl (by omega) hlw ?_; intro A7 c7 w7 ho7 hg7 hn7)
      have G := G.done ho7 hg7
      clear ho7 hg7 hn7
      exact ⟨⟨i + 1, A7, c7, by omega, by go_num, rfl, by rw [HS1.out]; exact G⟩, by simp only [intOf]; omega⟩
    · obtain rfl : i = N := by omega
      have Y5 := Y.below G.2 (by omega)
      have hwr := hb0.trans (G.2.mono hb0.size)
      have hDr : w.heap.size + 1 ≤ wr.heap.size := by have := G.2.size; omega
      obtain ⟨ho, hbG⟩ := G
      rw [← HSUB.out] at ho
      obtain ⟨vs5, ho5⟩ := OB.of_orW ho
      clear ho hbG
      go_wp2_with fail
      refine hc2.mono ?_
      rintro e w2 ⟨rfl, rfl⟩
      clear hc2
      obtain ⟨y0, y1⟩ := Y5.cells2
      have f0 := Y5.frozen 0
      have f1 := Y5.frozen 1
      obtain ⟨q0, q1, q2, q3⟩ := fin_storeB (v := (v : Int)) Y5 hwr ho5 (by omega)
      have Q := Lib.hid (And.intro q0 q1)
      clear q0 q1 Y Y5 hwr ho5
      go_wp2
      refine bodyPost_ret (v := .tuple #[.agg #[.int .i64 (v : Int), .slice P i pc], .int .i64 1]) (by simp [results, Tryz.results51, go_sem, q2, q3]) rfl ?_
      rw [HF.out]
      exact ⟨P, i, pc, rfl, ⟨_, Q.out.1⟩, Q.out.2⟩
set_option maxRecDepth 100000 in
set_option maxHeartbeats 8000000 in
theorem l29Base_p2 (v k l : Nat) (w : World) (hr : InR v k l) (n1 : Hid (No1 v k l)) (h2 : k = 3 ∧ l = 1) (ht : triB v = true) : Calls Tryz.prog 51 #[.int .i64 v, .int .i64 k, .int .i64 l] w (RetWO w v (fstD v k l)) := by
  obtain ⟨v3, v32, k2, kv, l1, l1000⟩ := id hr
  have hb0 := below_alloc w (.cells #[.int .i64 0, .slice none 0 0] 28)
  have Y := Blk.new w 28 #[.int .i64 0, .slice none 0 0]
  have hz0 : (w.alloc (.cells #[.int .i64 0, .slice none 0 0] 28)).heap.size = w.heap.size + 1 := by simp
  have HR := Lib.hid hr
  have hch1 := specChoose_any (v - 2) (k - 2) (w.alloc (.cells #[.int .i64 0, .slice none 0 0] 28)) (by omega)
  have HCH2 := Lib.hid (fun (W : World) => specChoose_any v k W (by omega))
  have ev2 : (v : Int) - 2 = ((v - 2 : Nat) : Int) := by omega
  have ek2 : (k : Int) - 2 = ((k - 2 : Nat) : Int) := by omega
  have hm8 : v ∈ [7, 9, 13, 15, 19, 21, 25, 27] := by
    rcases tri_mem v3 ht with rfl | hm
    · omega
    · exact hm
  have HT : Hid (triB v = true) := Lib.hid ht
  have HF := Lib.hid (fst_2 n1.out ⟨h2.1, h2.2, ht⟩)
  have k3b : ((k : Int) == 3) = true := by simp [h2.1]
  have l1b : ((l : Int) == 1) = true := by simp [h2.2]
  clear h2 ht
  clear hr
  go_enter Tryz.func51, Tryz.ntmps51
  go_upto_region 1 with (fail)
  generalize w.alloc (.cells #[.int .i64 0, .slice none 0 0] 28) = W0 at *
  go_cut [37] (fun s wx => s = .bool false ∧ wx = W0)
  case first =>
    have hc2 := HCH2.out W0
    have hn1 := n1.out.h
    clear HCH2 n1
    generalize chP (v - 2) (k - 2) = c1 at *
    generalize chP v k = c2 at *
    go_wp2_with fail
    refine hch1.mono ?_
    rintro e w1 ⟨rfl, rfl⟩
    clear hch1
    by_cases hl : l = c1
    · have hlb : ((l : Int) == (c1 : Int)) = true := by simp [hl]
      have h128 : ¬ (c2 : Int) ≤ 128 := by omega
      clear hn1 hl
      go_wp2_with fail
      refine hc2.mono ?_
      rintro e w2 ⟨rfl, rfl⟩
      clear hc2
      go_wp2
      go_meet
      exact ⟨by rw [decide_eq_false (Int.not_le.2 h128)], rfl⟩
    · have hlb : ((l : Int) == (c1 : Int)) = false := by simp; omega
      clear hn1 hl
      go_wp2
      go_meet
      exact ⟨rfl, rfl⟩
  case rest =>
    obtain ⟨rfl, hwc⟩ := hcut
    subst hwc
    clear hch1 ev2 ek2 HCH2
    have hmk := specMakeTriples_any v wc v32
    rw [HT.out, if_pos rfl, triS_srt hm8] at hmk
    clear hm8 HT
    generalize srtR (triL v) = bsL at *
    go_wp2_with fail
    refine hmk.mono ?_
    rintro e w5 ⟨A5, n5, c5, rfl, ⟨vs5, ho5⟩, hb5⟩
    have Y6 := (Y.below hb5 (by omega)).alloc (.cells #[.int .i64 (v : Int), .slice A5 n5 c5] 28)
    have Z6 := Blk.new w5 28 #[.int .i64 (v : Int), .slice A5 n5 c5]
    have hw5 := hb0.trans (hb5.mono hb0.size)
    have hw6 := hw5.alloc hw5.size (.cells #[.int .i64 (v : Int), .slice A5 n5 c5] 28)
    have ho6 := ho5.below (below_alloc w5 (.cells #[.int .i64 (v : Int), .slice A5 n5 c5] 28))
    obtain ⟨y0, y1⟩ := Y6.cells2
    obtain ⟨z0, z1⟩ := Z6.cells2
    have f0 := Y6.frozen 0
    have f1 := Y6.frozen 1
    obtain ⟨q0, q1, q2, q3⟩ := fin_storeB (v := (v : Int)) Y6 hw6 ho6 (by omega)
    have Q := Lib.hid (And.intro q0 q1)
    clear q0 q1 hmk ho5 hb5 Y Y6 Z6 hw5 hw6 ho6
    go_wp2
    refine bodyPost_ret (v := .tuple #[.agg #[.int .i64 (v : Int), .slice A5 n5 c5], .int .i64 2]) (by simp [results, Tryz.results51, go_sem, q2, q3]) rfl ?_
    rw [HF.out]
    exact ⟨A5, n5, c5, rfl, ⟨_, Q.out.1⟩, Q.out.2⟩
set_option maxRecDepth 100000 in
set_option maxHeartbeats 8000000 in
theorem l29Base_p2n (v k l : Nat) (w : World) (hr : InR v k l) (n1 : Hid (No1 v k l)) (h2 : k = 3 ∧ l = 1) (ht : triB v = false) : Calls Tryz.prog 51 #[.int .i64 v, .int .i64 k, .int .i64 l] w (RetWO w v (fstD v k l)) := by
  obtain ⟨v3, v32, k2, kv, l1, l1000⟩ := id hr
  have hb0 := below_alloc w (.cells #[.int .i64 0, .slice none 0 0] 28)
  have Y := Blk.new w 28 #[.int .i64 0, .slice none 0 0]
  have hz0 : (w.alloc (.cells #[.int .i64 0, .slice none 0 0] 28)).heap.size = w.heap.size + 1 := by simp
  have HR := Lib.hid hr
  have hch1 := specChoose_any (v - 2) (k - 2) (w.alloc (.cells #[.int .i64 0, .slice none 0 0] 28)) (by omega)
  have HCH2 := Lib.hid (fun (W : World) => specChoose_any v k W (by omega))
  have ev2 : (v : Int) - 2 = ((v - 2 : Nat) : Int) := by omega
  have ek2 : (k : Int) - 2 = ((k - 2 : Nat) : Int) := by omega
  obtain ⟨hv7, hv9⟩ := tri_not hr h2.1 ht
  obtain ⟨hk3, hl1⟩ := h2
  have HF := Lib.hid (fst_0 n1.out ⟨fun h => absurd h.2.2 (by rw [ht]; simp)⟩ ⟨fun h => hv9 (by rw [h.2, hk3])⟩ ⟨fun h => hv7 (by have := h.2; rw [hk3] at this; omega)⟩ ⟨fun h => hv7 (by omega)⟩ ⟨fun h => hv7 (by omega)⟩)
  have HT := Lib.hid ht
  have k3b : ((k : Int) == 3) = true := by simp [hk3]
  have l1b : ((l : Int) == 1) = true := by simp [hl1]
  obtain ⟨M, hM⟩ : ∃ M, M = k * k := ⟨_, rfl⟩
  have hkm : (k : Int) * (k : Int) = (M : Int) := by rw [hM]; push_cast; rfl
  have hMb : M ≤ 1024 := by rw [hM]; exact kk_bd hr
  have HM := Lib.hid hM
  clear hM
  have hM9 : M = 9 := by rw [HM.out, hk3]
  have b9 : ((v : Int) == (M : Int)) = false := by simp; omega
  have b7 : ((v : Int) == (M : Int) - (k : Int) + 1) = false := by simp; omega
  have b4 : (4 * (l : Int) == (v : Int) - 3) = false := by simp; omega
  have b5 : ((v : Int) == 4 * (l : Int) + 3) = false := by simp; omega
  clear hM9 hk3 hl1
  clear ht
  clear hr
  go_enter Tryz.func51, Tryz.ntmps51
  go_upto_region 1 with (fail)
  generalize w.alloc (.cells #[.int .i64 0, .slice none 0 0] 28) = W0 at *
  go_cut [37] (fun s wx => s = .bool false ∧ wx = W0)
  case first =>
    have hc2 := HCH2.out W0
    have hn1 := n1.out.h
    clear HCH2 n1
    generalize chP (v - 2) (k - 2) = c1 at *
    generalize chP v k = c2 at *
    go_wp2_with fail
    refine hch1.mono ?_
    rintro e w1 ⟨rfl, rfl⟩
    clear hch1
    by_cases hl : l = c1
    · have hlb : ((l : Int) == (c1 : Int)) = true := by simp [hl]
      have h128 : ¬ (c2 : Int) ≤ 128 := by omega
      clear hn1 hl
      go_wp2_with fail
      refine hc2.mono ?_
      rintro e w2 ⟨rfl, rfl⟩
      clear hc2
      go_wp2
      go_meet
      exact ⟨by rw [decide_eq_false (Int.not_le.2 h128)], rfl⟩
    · have hlb : ((l : Int) == (c1 : Int)) = false := by simp; omega
      clear hn1 hl
      go_wp2
      go_meet
      exact ⟨rfl, rfl⟩
  case rest =>
    obtain ⟨rfl, hwc⟩ := hcut
    subst hwc
    clear hch1 ev2 ek2 HCH2
    have hmk := specMakeTriples_any v wc v32
    rw [HT.out, if_neg (by simp)] at hmk
    go_upto_region 10 with (fail)
    refine hmk.mono ?_
    rintro e w5 ⟨A5, n5, c5, rfl, ⟨vs5, ho5⟩, hb5⟩
    have Y := (Y.below hb5 (by omega)).alloc (.cells #[.int .i64 0, .slice A5 n5 c5] 28)
    have hw5 := hb0.trans (hb5.mono hb0.size)
    have hw6 := hw5.alloc hw5.size (.cells #[.int .i64 0, .slice A5 n5 c5] 28)
    have hs6 : w.heap.size + 1 ≤ (w5.alloc (.cells #[.int .i64 0, .slice A5 n5 c5] 28)).heap.size := by have := hb5.size; simp; omega
    clear hmk hb5 hw5 ho5 hb0
    go_upto_region 10 with (fail)
    generalize w5.alloc (.cells #[.int .i64 0, .slice A5 n5 c5] 28) = W1 at *
    by_cases hpp : isP v = true ∧ v % 4 = 3
    · have hps := specPaleySet_yes v W1 v3 v32 hpp.1 hpp.2
      clear hpp
      go_upto_region 21 with (fail)
      refine hps.mono ?_
      rintro e w7 ⟨A7, n7, c7, rfl, ho7, hb7⟩
      have Y := Y.below hb7 (by omega)
      have hw7 := hw6.trans (hb7.mono hw6.size)
      have hs7 : w.heap.size + 1 ≤ w7.heap.size := by have := hb7.size; omega
      clear hps hb7 hw6 ho7
      go_upto_region 21 with (fail)
      go_cut [127] (fun s wx => s = .bool false ∧ wx = w7)
      case first =>
        by_cases hn3 : (n7 : Int) = (k : Int)
        · have b3 : ((n7 : Int) == (k : Int)) = true := by simpa using hn3
          clear hn3
          go_wp2
          go_meet
          exact ⟨rfl, rfl⟩
        · have b3 : ((n7 : Int) == (k : Int)) = false := by simpa using hn3
          clear hn3
          go_wp2
          go_meet
          exact ⟨rfl, rfl⟩
      case rest =>
        obtain ⟨rfl, hwc⟩ := hcut
        subst hwc
        obtain ⟨y0, y1⟩ := Y.cells2
        have f0 := Y.frozen 0
        have f1 := Y.frozen 1
        obtain ⟨q0, q1, q2, q3⟩ := fin_storeB (v := 0) (A := none) (n := 0) (c := 0) (bs := []) (vs := []) Y hw7 (OB.nilW _ (w.heap.size + 1)) (by omega)
        have Q := Lib.hid (And.intro q0 q1)
        clear q0 q1 Y
        go_wp2
        refine bodyPost_ret (v := .tuple #[.agg #[.int .i64 0, .slice none 0 0], .int .i64 0]) (by simp [results, Tryz.results51, go_sem, q2, q3]) rfl ?_
        rw [HF.out]
        exact ⟨none, 0, 0, rfl, ⟨_, Q.out.1⟩, Q.out.2⟩
    · have hpq : isP v = false ∨ v % 4 ≠ 3 := by
        cases hp : isP v with
        | false => exact .inl rfl
        | true => exact .inr (fun h => hpp ⟨hp, h⟩)
      have hps := specPaleySet_no v W1 v3 v32 hpq
      clear hpq hpp
      go_wp2_with fail
      refine hps.mono ?_
      rintro e w7 ⟨A7, n7, c7, rfl, ho7, hb7⟩
      have Y := Y.below hb7 (by omega)
      have hw7 := hw6.trans (hb7.mono hw6.size)
      have hs7 : w.heap.size + 1 ≤ w7.heap.size := by have := hb7.size; omega
      clear hps hb7 hw6 ho7
      obtain ⟨y0, y1⟩ := Y.cells2
      have f0 := Y.frozen 0
      have f1 := Y.frozen 1
      obtain ⟨q0, q1, q2, q3⟩ := fin_storeB (v := 0) (A := none) (n := 0) (c := 0) (bs := []) (vs := []) Y hw7 (OB.nilW _ (w.heap.size + 1)) (by omega)
      have Q := Lib.hid (And.intro q0 q1)
      clear q0 q1 Y
      go_wp2
      refine bodyPost_ret (v := .tuple #[.agg #[.int .i64 0, .slice none 0 0], .int .i64 0]) (by simp [results, Tryz.results51, go_sem, q2, q3]) rfl ?_
      rw [HF.out]
      exact ⟨none, 0, 0, rfl, ⟨_, Q.out.1⟩, Q.out.2⟩
set_option maxRecDepth 100000 in
set_option maxHeartbeats 8000000 in
theorem l29Base_p3 (v k l : Nat) (w : World) (hr : InR v k l) (n1 : Hid (No1 v k l)) (H2 : Hid (¬ (k = 3 ∧ l = 1))) (h3 : l = 1 ∧ v = k * k) : Calls Tryz.prog 51 #[.int .i64 v, .int .i64 k, .int .i64 l] w (RetWO w v (fstD v k l)) := by
  obtain ⟨v3, v32, k2, kv, l1, l1000⟩ := id hr
  have hb0 := below_alloc w (.cells #[.int .i64 0, .slice none 0 0] 28)
  have Y := Blk.new w 28 #[.int .i64 0, .slice none 0 0]
  have hz0 : (w.alloc (.cells #[.int .i64 0, .slice none 0 0] 28)).heap.size = w.heap.size + 1 := by simp
  have HR := Lib.hid hr
  have hch1 := specChoose_any (v - 2) (k - 2) (w.alloc (.cells #[.int .i64 0, .slice none 0 0] 28)) (by omega)
  have HCH2 := Lib.hid (fun (W : World) => specChoose_any v k W (by omega))
  have ev2 : (v : Int) - 2 = ((v - 2 : Nat) : Int) := by omega
  have ek2 : (k : Int) - 2 = ((k - 2 : Nat) : Int) := by omega
  have HF := Lib.hid (fst_3 n1.out ⟨fun h => H2.out ⟨h.1, h.2.1⟩⟩ h3)
  have HVK := Lib.hid h3.2
  have L1B : Hid (((l : Int) == 1) = true) := Lib.hid (by simp [h3.1])
  obtain ⟨M, hM⟩ : ∃ M, M = k * k := ⟨_, rfl⟩
  have hkm : (k : Int) * (k : Int) = (M : Int) := by rw [hM]; push_cast; rfl
  have hMb : M ≤ 1024 := by rw [hM]; exact kk_bd hr
  have HM := Lib.hid hM
  clear hM
  have vMb : ((v : Int) == (M : Int)) = true := by have := HM.out; rw [← h3.2] at this; simp [this]
  have VMB := Lib.hid vMb
  clear h3 vMb
  clear hr
  go_enter Tryz.func51, Tryz.ntmps51
  go_upto_region 1 with (fail)
  generalize w.alloc (.cells #[.int .i64 0, .slice none 0 0] 28) = W0 at *
  go_cut [37] (fun s wx => s = .bool false ∧ wx = W0)
  case first =>
    have hc2 := HCH2.out W0
    have hn1 := n1.out.h
    clear HCH2 n1
    generalize chP (v - 2) (k - 2) = c1 at *
    generalize chP v k = c2 at *
    go_wp2_with fail
    refine hch1.mono ?_
    rintro e w1 ⟨rfl, rfl⟩
    clear hch1
    by_cases hl : l = c1
    · have hlb : ((l : Int) == (c1 : Int)) = true := by simp [hl]
      have h128 : ¬ (c2 : Int) ≤ 128 := by omega
      clear hn1 hl
      go_wp2_with fail
      refine hc2.mono ?_
      rintro e w2 ⟨rfl, rfl⟩
      clear hc2
      go_wp2
      go_meet
      exact ⟨by rw [decide_eq_false (Int.not_le.2 h128)], rfl⟩
    · have hlb : ((l : Int) == (c1 : Int)) = false := by simp; omega
      clear hn1 hl
      go_wp2
      go_meet
      exact ⟨rfl, rfl⟩
  case rest =>
    obtain ⟨rfl, hwc⟩ := hcut
    subst hwc
    clear hch1 ev2 ek2 HCH2
    go_upto_region 8 with (fail)
    go_cut [61] (fun s wx => s = .bool false ∧ wx = wc)
    case first =>
      by_cases hk3 : k = 3
      · have b1 : ((k : Int) == 3) = true := by simp [hk3]
        have b2 : ((l : Int) == 1) = false := by have := H2.out; simp; omega
        clear hk3
        go_wp2
        go_meet
        exact ⟨rfl, rfl⟩
      · have b1 : ((k : Int) == 3) = false := by simp; omega
        clear hk3
        go_wp2
        go_meet
        exact ⟨rfl, rfl⟩
    case rest =>
      obtain ⟨rfl, hwc⟩ := hcut
      subst hwc
      have l1b := L1B.out
      have vMb := VMB.out
      have hmk := specAffinePlane_any k wc k2 (aff_bd HR.out HVK.out)
      rw [← HVK.out] at hmk
      generalize srtR (affQ k) = bsL at *
      go_wp2_with fail
      refine hmk.mono ?_
      rintro e w5 ⟨A5, n5, c5, rfl, ⟨vs5, ho5⟩, hb5⟩
      have Y6 := (Y.below hb5 (by omega)).alloc (.cells #[.int .i64 (v : Int), .slice A5 n5 c5] 28)
      have Z6 := Blk.new w5 28 #[.int .i64 (v : Int), .slice A5 n5 c5]
      have hw5 := hb0.trans (hb5.mono hb0.size)
      have hw6 := hw5.alloc hw5.size (.cells #[.int .i64 (v : Int), .slice A5 n5 c5] 28)
      have ho6 := ho5.below (below_alloc w5 (.cells #[.int .i64 (v : Int), .slice A5 n5 c5] 28))
      obtain ⟨y0, y1⟩ := Y6.cells2
      obtain ⟨z0, z1⟩ := Z6.cells2
      have f0 := Y6.frozen 0
      have f1 := Y6.frozen 1
      obtain ⟨q0, q1, q2, q3⟩ := fin_storeB (v := (v : Int)) Y6 hw6 ho6 (by omega)
      have Q := Lib.hid (And.intro q0 q1)
      clear q0 q1 hmk ho5 hb5 Y Y6 Z6 hw5 hw6 ho6
      go_wp2
      refine bodyPost_ret (v := .tuple #[.agg #[.int .i64 (v : Int), .slice A5 n5 c5], .int .i64 3]) (by simp [results, Tryz.results51, go_sem, q2, q3]) rfl ?_
      rw [HF.out]
      exact ⟨A5, n5, c5, rfl, ⟨_, Q.out.1⟩, Q.out.2⟩
set_option maxRecDepth 100000 in
set_option maxHeartbeats 8000000 in
theorem l29Base_p4 (v k l : Nat) (w : World) (hr : InR v k l) (n1 : Hid (No1 v k l)) (H2 : Hid (¬ (k = 3 ∧ l = 1))) (h3 : Hid (¬ (l = 1 ∧ v = k * k))) (h4 : l = 1 ∧ v + k = k * k + 1) : Calls Tryz.prog 51 #[.int .i64 v, .int .i64 k, .int .i64 l] w (RetWO w v (fstD v k l)) := by
  obtain ⟨v3, v32, k2, kv, l1, l1000⟩ := id hr
  have hb0 := below_alloc w (.cells #[.int .i64 0, .slice none 0 0] 28)
  have Y := Blk.new w 28 #[.int .i64 0, .slice none 0 0]
  have hz0 : (w.alloc (.cells #[.int .i64 0, .slice none 0 0] 28)).heap.size = w.heap.size + 1 := by simp
  have HR := Lib.hid hr
  have hch1 := specChoose_any (v - 2) (k - 2) (w.alloc (.cells #[.int .i64 0, .slice none 0 0] 28)) (by omega)
  have HCH2 := Lib.hid (fun (W : World) => specChoose_any v k W (by omega))
  have ev2 : (v : Int) - 2 = ((v - 2 : Nat) : Int) := by omega
  have ek2 : (k : Int) - 2 = ((k - 2 : Nat) : Int) := by omega
  have HF := Lib.hid (fst_4 n1.out ⟨fun h => H2.out ⟨h.1, h.2.1⟩⟩ ⟨h3.out⟩ h4)
  have hpb := prj_bd hr n1.out h4
  have L1B : Hid (((l : Int) == 1) = true) := Lib.hid (by simp [h4.1])
  obtain ⟨M, hM⟩ : ∃ M, M = k * k := ⟨_, rfl⟩
  have hkm : (k : Int) * (k : Int) = (M : Int) := by rw [hM]; push_cast; rfl
  have hMb : M ≤ 1024 := by rw [hM]; exact kk_bd hr
  have HM := Lib.hid hM
  clear hM
  have H3 : Hid (¬ (l = 1 ∧ v = M)) := Lib.hid (by rw [HM.out]; exact h3.out)
  have vMb : ((v : Int) == (M : Int) - (k : Int) + 1) = true := by have := HM.out; rw [← this] at h4; simp; omega
  have VMB := Lib.hid vMb
  clear h4 vMb
  clear hr
  go_enter Tryz.func51, Tryz.ntmps51
  go_upto_region 1 with (fail)
  generalize w.alloc (.cells #[.int .i64 0, .slice none 0 0] 28) = W0 at *
  go_cut [37] (fun s wx => s = .bool false ∧ wx = W0)
  case first =>
    have hc2 := HCH2.out W0
    have hn1 := n1.out.h
    clear HCH2 n1
    generalize chP (v - 2) (k - 2) = c1 at *
    generalize chP v k = c2 at *
    go_wp2_with fail
    refine hch1.mono ?_
    rintro e w1 ⟨rfl, rfl⟩
    clear hch1
    by_cases hl : l = c1
    · have hlb : ((l : Int) == (c1 : Int)) = true := by simp [hl]
      have h128 : ¬ (c2 : Int) ≤ 128 := by omega
      clear hn1 hl
      go_wp2_with fail
      refine hc2.mono ?_
      rintro e w2 ⟨rfl, rfl⟩
      clear hc2
      go_wp2
      go_meet
      exact ⟨by rw [decide_eq_false (Int.not_le.2 h128)], rfl⟩
    · have hlb : ((l : Int) == (c1 : Int)) = false := by simp; omega
      clear hn1 hl
      go_wp2
      go_meet
      exact ⟨rfl, rfl⟩
  case rest =>
    obtain ⟨rfl, hwc⟩ := hcut
    subst hwc
    clear hch1 ev2 ek2 HCH2
    go_upto_region 8 with (fail)
    go_cut [61] (fun s wx => s = .bool false ∧ wx = wc)
    case first =>
      by_cases hk3 : k = 3
      · have b1 : ((k : Int) == 3) = true := by simp [hk3]
        have b2 : ((l : Int) == 1) = false := by have := H2.out; simp; omega
        clear hk3
        go_wp2
        go_meet
        exact ⟨rfl, rfl⟩
      · have b1 : ((k : Int) == 3) = false := by simp; omega
        clear hk3
        go_wp2
        go_meet
        exact ⟨rfl, rfl⟩
    case rest =>
      obtain ⟨rfl, hwc⟩ := hcut
      subst hwc
      go_upto_region 12 with (fail)
      go_cut [78] (fun s wx => s = .bool false ∧ wx = wc)
      case first =>
        by_cases h1 : l = 1
        · have h1b : ((l : Int) == 1) = true := by simp [h1]
          have hvb : ((v : Int) == (M : Int)) = false := by have := H3.out; simp; omega
          clear h1
          go_wp2
          go_meet
          exact ⟨rfl, rfl⟩
        · have h1b : ((l : Int) == 1) = false := by simp; omega
          clear h1
          go_wp2
          go_meet
          exact ⟨rfl, rfl⟩
      case rest =>
        obtain ⟨rfl, hwc⟩ := hcut
        subst hwc
        have l1b := L1B.out
        have vMb := VMB.out
        obtain ⟨q, hkq, q2, q5, hvq⟩ := hpb
        have hmk := specProjectivePlane_any q wc q2 q5
        rw [← hvq] at hmk
        have e1 : k - 1 = q := by omega
        rw [e1] at HF
        have ek : (k : Int) - 1 = (q : Int) := by omega
        clear hkq hvq e1
        generalize srtR (prjQ q) = bsL at *
        go_wp2_with fail
        refine hmk.mono ?_
        rintro e w5 ⟨A5, n5, c5, rfl, ⟨vs5, ho5⟩, hb5⟩
        have Y6 := (Y.below hb5 (by omega)).alloc (.cells #[.int .i64 (v : Int), .slice A5 n5 c5] 28)
        have Z6 := Blk.new w5 28 #[.int .i64 (v : Int), .slice A5 n5 c5]
        have hw5 := hb0.trans (hb5.mono hb0.size)
        have hw6 := hw5.alloc hw5.size (.cells #[.int .i64 (v : Int), .slice A5 n5 c5] 28)
        have ho6 := ho5.below (below_alloc w5 (.cells #[.int .i64 (v : Int), .slice A5 n5 c5] 28))
        obtain ⟨y0, y1⟩ := Y6.cells2
        obtain ⟨z0, z1⟩ := Z6.cells2
        have f0 := Y6.frozen 0
        have f1 := Y6.frozen 1
        obtain ⟨q0, q1, q2, q3⟩ := fin_storeB (v := (v : Int)) Y6 hw6 ho6 (by omega)
        have Q := Lib.hid (And.intro q0 q1)
        clear q0 q1 hmk ho5 hb5 Y Y6 Z6 hw5 hw6 ho6
        go_wp2
        refine bodyPost_ret (v := .tuple #[.agg #[.int .i64 (v : Int), .slice A5 n5 c5], .int .i64 4]) (by simp [results, Tryz.results51, go_sem, q2, q3]) rfl ?_
        rw [HF.out]
        exact ⟨A5, n5, c5, rfl, ⟨_, Q.out.1⟩, Q.out.2⟩
end Go.Proofs.YtnmcmologlgccaaGreat
