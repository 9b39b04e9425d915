/- The graph of a square, the reference's. No condition beyond those stated. -/
import Derived.Test.YtdkbcjdimhgmnaaGreatRHG
set_option linter.unusedVariables false
set_option linter.unusedSimpArgs false
namespace Go.Proofs.YtdkbcjdimhgmnaaGreat
open Go.RowKit
theorem sqcol_min {n : Nat} (h : 1 ≤ n) (k : Nat) : sqcol n false k = min ((k / n : Nat) : Int) 3 := by
  unfold sqcol
  by_cases hk : k < 3 * n
  · have := Nat.div_lt_of_lt_mul (k := 3) (n := n) (m := k) (by omega)
    simp only [hk, if_true, Bool.false_eq_true, if_false]
    omega
  · have := (Nat.le_div_iff_mul_le (k0 := h) (x := 3) (y := k)).2 (by omega)
    simp only [hk, if_false]
    omega
theorem sqcol_true {n k : Nat} (h : k < 3 * n) : sqcol n true k = 0 := by simp [sqcol, h]
theorem sqcol_behind {n k : Nat} (h : ¬ k < 3 * n) (cl : Bool) : sqcol n cl k = sqcol n false k := by simp [sqcol, h]
theorem sqIx_mm {a : List (List Int)} {n : Nat} (h : Square a) (hn : a.length = n) : (sqIx a n n).map mmP = sqIx a n n := by
  rw [List.map_congr_left (g := id) fun e he => ?_, List.map_id]
  have := sqIx_lt h hn e he
  exact Prod.ext (by simp only [mmP, mmE, id]; omega) (by simp only [mmP, mmE, id]; omega)
set_option maxRecDepth 100000 in
set_option maxHeartbeats 4000000 in
theorem squareGraph_any (A : Option Addr) (n c : Nat) (a : List (List Int)) (cl : Bool) (w : World) (ha : RR w A n a) (hS : Square a) (hn : n ≤ 6) (hr : cells a ≤ 1099511627776) :
    Calls Tryz.prog 125 #[.slice A n c, .bool cl] w (fun e w' => ∃ A' n' c' F' m' d', e = .returned (.tuple #[.agg #[.slice A' n' c', .slice F' m' d'], .int .i64 0]) ∧ RG w' A' n' F' m' (sqC n cl) (sqEl a n (3 * n)) ∧ n' ≤ 64 ∧ m' ≤ 512 ∧ Below w.heap.size w w') := by
  have hla := Lib.hid ha.len
  have HSq := Lib.hid hS
  have n1 : 1 ≤ n := by rw [← ha.len]; exact hS.1
  obtain ⟨nn0, nn1⟩ := sq_mul hn
  have hb1 := below_alloc w (.cells #[.slice none 0 0, .slice none 0 0] 46)
  have Y := Blk.new w 46 #[.slice none 0 0, .slice none 0 0]
  have hv := validSquare_any A n c a _ (ha.keep hb1) (by omega) hr
  rw [tB_yes hS] at hv
  have HND := Lib.hid (sqIx_nodup hS ha.len)
  have HMM := Lib.hid (sqIx_mm hS ha.len)
  have HSE := Lib.hid (sq_edges hS ha.len)
  clear hS
  have hs1 : (w.alloc (.cells #[.slice none 0 0, .slice none 0 0] 46)).heap.size = w.heap.size + 1 := by simp
  go_enter Tryz.func125, Tryz.ntmps125
  go_wp2_with (first | (go_at_call 124; refine hv.mono ?_; rintro e w2 ⟨rfl, hb2⟩; have hw2 := hb1.trans (hb2.mono (by simp)); have Y2 := Y.after (by simpa using hb2)) | (go_at_call 96; refine (sizeR_any _ _ _ _ (by omega)).mono ?_; rintro e w' ⟨rfl, rfl⟩))
  clear hb1 hb2 Y hv hs1
  go_loopw [7, 29] (fun v i wr => ∃ (k : Nat) (A2 : Option Addr) (c2 : Nat), k ≤ 3 * n + n * n ∧ i = .int .i64 k ∧ v = .slice A2 k c2 ∧ OI wr w.heap.size 2 A2 k c2 ((sqC n cl).take k) ∧ Below w.heap.size w wr ∧ Blk wr w.heap.size 46 #[.slice none 0 0, .slice none 0 0]) (fun _ i _ => 3 * n + n * n - (intOf i).toNat)
  case atStart => exact ⟨0, _, _, Nat.zero_le _, rfl, rfl, OI.nil_ _ _ _, hw2, Y2⟩
  case round =>
    clear hw2 Y2
    obtain ⟨k, A2, c2, hk, rfl, rfl, ho, hb, Y⟩ := hrel
    by_cases hlt : k < 3 * n + n * n
    · have hst := Lib.hid (sqC_step (n := n) (cl := cl) (k := k) hlt)
      have hq := div_cast k n
      have hq2 := Nat.div_le_self k n
      have n0 : (n : Int) ≠ 0 := by omega
      have hcol := Lib.hid (sqcol_min n1 k)
      have hcolT := Lib.hid (fun h => sqcol_true (n := n) (k := k) h)
      have hcolB := Lib.hid (fun h => sqcol_behind (n := n) (k := k) h cl)
      generalize k / n = u at *
      by_cases h3 : k < 3 * n
      · cases cl with
        | true =>
          have hz := Lib.hid (hcolT.out h3)
          go_wp2_with (at_builtin; refine app_int _ rfl _ _ rfl w.heap.size A2 k c2 _ rfl ho 0 _ rfl (by simp) ⟨by omega, by omega⟩ (by omega) hb.size ?_; intro A' c' w3 ho3 hg3 hn3)
          have hw3 := below_own hb hg3 hb.size (fun b hb => (ho.os.lt hb).1)
          have Y3 := Y.grown hg3 (OS.typed' ho.os Y (by decide))
          rw [← hz.out, hst.out] at ho3
          clear ho hg3
          go_roundw
          case rel => exact ⟨k + 1, A', c', by omega, by go_num, rfl, ho3, hw3, Y3⟩
          case measure => simp [intOf]; omega
        | false =>
          have hz := hcol
          go_wp2_with (at_builtin; refine app_int _ rfl _ _ rfl w.heap.size A2 k c2 _ rfl ho (min (u : Int) 3) _ rfl (by simp) ⟨by omega, by omega⟩ (by omega) hb.size ?_; intro A' c' w3 ho3 hg3 hn3)
          have hw3 := below_own hb hg3 hb.size (fun b hb => (ho.os.lt hb).1)
          have Y3 := Y.grown hg3 (OS.typed' ho.os Y (by decide))
          rw [← hz.out, hst.out] at ho3
          clear ho hg3
          go_roundw
          case rel => exact ⟨k + 1, A', c', by omega, by go_num, rfl, ho3, hw3, Y3⟩
          case measure => simp [intOf]; omega
      · have hz := Lib.hid ((hcolB.out h3).trans hcol.out)
        cases cl with
        | true =>
          go_wp2_with (at_builtin; refine app_int _ rfl _ _ rfl w.heap.size A2 k c2 _ rfl ho (min (u : Int) 3) _ rfl (by simp) ⟨by omega, by omega⟩ (by omega) hb.size ?_; intro A' c' w3 ho3 hg3 hn3)
          have hw3 := below_own hb hg3 hb.size (fun b hb => (ho.os.lt hb).1)
          have Y3 := Y.grown hg3 (OS.typed' ho.os Y (by decide))
          rw [← hz.out, hst.out] at ho3
          clear ho hg3
          go_roundw
          case rel => exact ⟨k + 1, A', c', by omega, by go_num, rfl, ho3, hw3, Y3⟩
          case measure => simp [intOf]; omega
        | false =>
          go_wp2_with (at_builtin; refine app_int _ rfl _ _ rfl w.heap.size A2 k c2 _ rfl ho (min (u : Int) 3) _ rfl (by simp) ⟨by omega, by omega⟩ (by omega) hb.size ?_; intro A' c' w3 ho3 hg3 hn3)
          have hw3 := below_own hb hg3 hb.size (fun b hb => (ho.os.lt hb).1)
          have Y3 := Y.grown hg3 (OS.typed' ho.os Y (by decide))
          rw [← hz.out, hst.out] at ho3
          clear ho hg3
          go_roundw
          case rel => exact ⟨k + 1, A', c', by omega, by go_num, rfl, ho3, hw3, Y3⟩
          case measure => simp [intOf]; omega
    · have hk3 : k = 3 * n + n * n := by omega
      rw [List.take_of_length_le (by rw [sqC_len]; omega)] at ho
      have hq0 : k ≤ 64 := by omega
      go_wp2
      clear hlt hk hk3
      go_loopw [10, 49] (fun v i wr => ∃ (x : Nat) (F : Option Addr) (m d : Nat), x ≤ n ∧ i = .int .i64 x ∧ v = .slice F m d ∧ m ≤ x * 18 ∧ OE wr w.heap.size 113 F m d (sqIx a n x) ∧ OI wr w.heap.size 2 A2 k c2 (sqC n cl) ∧ Below w.heap.size w wr ∧ Blk wr w.heap.size 46 #[.slice none 0 0, .slice none 0 0]) (fun _ i _ => n - (intOf i).toNat)
      case atStart => exact ⟨0, _, _, _, Nat.zero_le _, rfl, rfl, Nat.le_refl _, OE.nil_ _ _ _, ho, hb, Y⟩
      case round =>
        clear ho hb Y
        obtain ⟨x, F, m, d, hx, rfl, rfl, hm, hf, ho, hb, Y⟩ := hrel
        by_cases hltx : x < n
        · have hstx := Lib.hid (sqIx_step a n x)
          obtain ⟨mx0, mx1⟩ := sq_mul2 (x := x) hn (by omega)
          have hf' : OE wr w.heap.size 113 F m d (sqIx a n x ++ sqIy a n x 0) := by rw [sqIy_zero, List.append_nil]; exact hf
          clear hf
          go_wp2
          go_loopw [10, 53] (fun v i wr => ∃ (y : Nat) (F : Option Addr) (m d : Nat), y ≤ n ∧ i = .int .i64 y ∧ v = .slice F m d ∧ m ≤ x * 18 + y * 3 ∧ OE wr w.heap.size 113 F m d (sqIx a n x ++ sqIy a n x y) ∧ OI wr w.heap.size 2 A2 k c2 (sqC n cl) ∧ Below w.heap.size w wr ∧ Blk wr w.heap.size 46 #[.slice none 0 0, .slice none 0 0]) (fun _ i _ => n - (intOf i).toNat)
          case atStart => exact ⟨0, _, _, _, Nat.zero_le _, rfl, rfl, by omega, hf', ho, hb, Y⟩
          case round =>
            clear hf' ho hb Y hm
            obtain ⟨y, F, m, d, hy, rfl, rfl, hm, hf, ho, hb, Y⟩ := hrel
            by_cases hlty : y < n
            · obtain ⟨ad, A1, m1, c1, rfl, hca, hn1, hc1, ha1⟩ := (ha.keep hb).get hltx
              have hbd := sqg_bd HSq.out hla.out hltx hlty
              obtain rfl : m1 = n := by rw [← ha1.len, (HSq.out.2.2.1 x (by rw [hla.out]; exact hltx)).1, hla.out]
              obtain ⟨bd, rfl, hcb, hib⟩ := ha1.get hlty
              have hcast : 3 * (m1 : Int) + (m1 : Int) * (x : Int) + (y : Int) = ((3 * m1 + m1 * x + y : Nat) : Int) := by simp
              have hcast2 : (m1 : Int) + (y : Int) = ((m1 + y : Nat) : Int) := by simp
              have hstep := Lib.hid (show sqIx a m1 x ++ sqIy a m1 x (y + 1) = (sqIx a m1 x ++ sqIy a m1 x y) ++ [((x : Int), 3 * (m1 : Int) + (m1 : Int) * (x : Int) + (y : Int)), ((m1 : Int) + (y : Int), 3 * (m1 : Int) + (m1 : Int) * (x : Int) + (y : Int)), (2 * (m1 : Int) + nth (row a x) y, 3 * (m1 : Int) + (m1 : Int) * (x : Int) + (y : Int))] by rw [sqIy_step, ← List.append_assoc, hcast, hcast2]; rfl)
              clear hcast hcast2
              generalize nth (row a x) y = z at *
              have i1 : I64 (x : Int) := ⟨by omega, by omega⟩
              have i2 : I64 (3 * (m1 : Int) + (m1 : Int) * (x : Int) + (y : Int)) := ⟨by omega, by omega⟩
              have i3 : I64 ((m1 : Int) + (y : Int)) := ⟨by omega, by omega⟩
              have i4 : I64 (2 * (m1 : Int) + z) := ⟨by omega, by omega⟩
              have L := RE.lit3 wr 113 (x : Int) (3 * (m1 : Int) + (m1 : Int) * (x : Int) + (y : Int)) ((m1 : Int) + (y : Int)) (3 * (m1 : Int) + (m1 : Int) * (x : Int) + (y : Int)) (2 * (m1 : Int) + z) (3 * (m1 : Int) + (m1 : Int) * (x : Int) + (y : Int)) i1 i2 i3 i2 i4 i2
              have bb := below_alloc wr (.cells #[.int .i64 (x : Int), .int .i64 (3 * (m1 : Int) + (m1 : Int) * (x : Int) + (y : Int)), .int .i64 ((m1 : Int) + (y : Int)), .int .i64 (3 * (m1 : Int) + (m1 : Int) * (x : Int) + (y : Int)), .int .i64 (2 * (m1 : Int) + z), .int .i64 (3 * (m1 : Int) + (m1 : Int) * (x : Int) + (y : Int))] 113)
              have hf1 := hf.below bb
              have ho1 := ho.below bb
              have Y1 := Y.after bb
              have hw1 := hb.trans (bb.mono hb.size)
              clear hf ho Y hb bb
              go_wp2_with (at_builtin; refine app_edges _ rfl _ _ rfl w.heap.size F m d _ rfl hf1 (some ⟨wr.heap.size, 0, none⟩) 3 3 [((x : Int), 3 * (m1 : Int) + (m1 : Int) * (x : Int) + (y : Int)), ((m1 : Int) + (y : Int), 3 * (m1 : Int) + (m1 : Int) * (x : Int) + (y : Int)), (2 * (m1 : Int) + z, 3 * (m1 : Int) + (m1 : Int) * (x : Int) + (y : Int))] rfl L (fun e he => by simp only [List.mem_cons, List.not_mem_nil, or_false] at he; rcases he with rfl | rfl | rfl; exact ⟨i1, i2⟩; exact ⟨i3, i2⟩; exact ⟨i4, i2⟩) (by omega) hw1.size ?_; intro F' d' w3 ho3 hg3 hn3)
              have hw3 := below_own hw1 hg3 hw1.size (fun b hb => (hf1.os.lt hb).1)
              have oc := ho1.kept hg3 (OS.typed ho1.os hf1.os (by decide))
              have Y3 := Y1.grown hg3 (OS.typed' hf1.os Y1 (by decide))
              rw [← hstep.out] at ho3
              go_roundw
              case rel => exact ⟨y + 1, F', m + 3, d', by omega, by go_num, rfl, by omega, ho3, oc, hw3, Y3⟩
              case measure => simp [intOf]; omega
            · obtain rfl : y = n := by omega
              rw [← hstx.out] at hf
              go_wp2
              go_roundw
              case rel => exact ⟨x + 1, F, m, d, by omega, by go_num, rfl, by omega, hf, ho, hb, Y⟩
              case measure => simp [intOf]; omega
        · obtain rfl : x = n := by omega
          have hgo := graphOf_any w.heap.size A2 k c2 F m d (sqC x cl) (sqIx a x x) wr hb.size ho hf.reads hq0 (by omega) (by rw [HMM.out]; exact HND.out)
          rw [HMM.out, HSE.out] at hgo
          go_wp2_with fail
          refine hgo.mono ?_
          rintro e w5 ⟨F', d', rfl, o1, o2, hb5⟩
          have Y5 := Y.after hb5
          obtain ⟨y0, y1⟩ := Y5.cells2
          have f0 := Y5.frozen 0
          have f1 := Y5.frozen 1
          have YF := (Y5.set_ 0 (.slice A2 k c2)).set_ 1 (.slice F' m d')
          obtain ⟨z0, z1⟩ : (((w5.setCell ⟨w.heap.size, 0, none⟩ (.slice A2 k c2)).setCell ⟨w.heap.size, 1, none⟩ (.slice F' m d')).cell? ⟨w.heap.size, 0, none⟩ = some (.slice A2 k c2)) ∧ (((w5.setCell ⟨w.heap.size, 0, none⟩ (.slice A2 k c2)).setCell ⟨w.heap.size, 1, none⟩ (.slice F' m d')).cell? ⟨w.heap.size, 1, none⟩ = some (.slice F' m d')) := ⟨YF.cell 0, YF.cell 1⟩
          clear hgo
          go_wp2
          have hw5 := hb.trans (hb5.mono hb.size)
          have e1 : some w.heap.size ≠ blk A2 := OS.typed' o1.os Y5 (by decide)
          have e2 : some w.heap.size ≠ blk F' := OS.typed' o2.os Y5 (by decide)
          have o1 := (o1.kept (grown_set (g := w.heap.size) (p := 0) (u := .slice A2 k c2)) (.inr fun e => e1 e.symm)).kept (grown_set (g := w.heap.size) (p := 1) (u := .slice F' m d')) (.inr fun e => e1 e.symm)
          have o2 := (o2.kept (grown_set (g := w.heap.size) (p := 0) (u := .slice A2 k c2)) (.inr fun e => e2 e.symm)).kept (grown_set (g := w.heap.size) (p := 1) (u := .slice F' m d')) (.inr fun e => e2 e.symm)
          refine bodyPost_ret (v := .tuple #[.agg #[.slice A2 k c2, .slice F' m d'], .int .i64 0]) (by simp [results, Tryz.results125, go_sem, z0, z1]) rfl ?_
          exact ⟨A2, k, c2, F', m, d', rfl, ⟨o1.reads, o2.reads⟩, hq0, by omega, (hw5.setCell (p := ⟨w.heap.size, 0, none⟩) (Nat.le_refl _) _).setCell (p := ⟨w.heap.size, 1, none⟩) (Nat.le_refl _) _⟩
end Go.Proofs.YtdkbcjdimhgmnaaGreat
