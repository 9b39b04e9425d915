/- The graph of a code: the program's own function. No condition beyond those stated. -/
import Derived.Test.YtdkbcjdimhgmnaaGreatQKQ
set_option linter.unusedVariables false
set_option linter.unusedSimpArgs false
namespace Go.Proofs.YtdkbcjdimhgmnaaGreat
open Go.RowKit
def supTo (z : List Int) (k : Nat) : List Int := ((List.range k).filter fun i => nth z i != 0).map fun (i : Nat) => (i : Int)
theorem supTo_all (z : List Int) : supTo z z.length = supW z := rfl
theorem supTo_step (z : List Int) (k : Nat) : supTo z (k + 1) = supTo z k ++ (if nth z k = 0 then [] else [(k : Int)]) := by
  unfold supTo
  rw [List.range_succ, List.filter_append, List.map_append]
  by_cases h : nth z k = 0 <;> simp [h]
theorem row_drop1 {L : List (List Int)} {j : Nat} (h : j + 1 < L.length) : row (L.drop 1) j = row L (j + 1) := by
  rw [row_get (by simpa using (by omega : j < L.length - 1)), row_get h, List.getElem_drop]
  congr 1
  exact Nat.add_comm 1 j
set_option maxRecDepth 100000 in
set_option maxHeartbeats 1000000 in
theorem supportOf_any (A : Option Addr) (n c : Nat) (z : List Int) (w : World) (ha : RI w A n z) (hn : n ≤ 1048576) :
    Calls Tryz.prog 55 #[.slice A n c] w (RetI w 2 (supW z)) := by
  have HL := Lib.hid ha.len
  go_enter Tryz.func55, Tryz.ntmps55
  go_wp2
  go_loopw [3, 4, 5, 8] (fun s _ _ i wr => ∃ (k : Nat) (A2 : Option Addr) (m c2 : Nat), k ≤ n ∧ m ≤ k ∧ i = .int .i64 k ∧ s = .slice A2 m c2 ∧ OI wr w.heap.size 2 A2 m c2 (supTo z k) ∧ Below w.heap.size w wr) (fun _ _ _ i _ => n - (intOf i).toNat)
  case atStart => exact ⟨0, none, 0, 0, Nat.zero_le _, Nat.le_refl _, rfl, rfl, OI.nil_ _ _ _, Below.refl _ _⟩
  case round =>
    obtain ⟨k, A2, m, c2, hk, hm, rfl, rfl, ho, hb⟩ := hrel
    by_cases hlt : k < n
    · obtain ⟨ad, hA, hck, hik⟩ := (ha.keep hb).get hlt
      obtain rfl := hA
      have hst := Lib.hid (supTo_step z k)
      by_cases h0 : nth z k = 0
      · have HS := Lib.hid (show supTo z (k + 1) = supTo z k by rw [hst.out, if_pos h0, List.append_nil])
        rw [h0] at hck
        clear h0
        go_wp2
        go_roundw
        case rel => exact ⟨k + 1, A2, m, c2, by omega, by omega, by go_num, rfl, by rw [HS.out]; exact ho, hb⟩
        case measure => simp [intOf]; omega
      · have HS := Lib.hid (show supTo z (k + 1) = supTo z k ++ [(k : Int)] by rw [hst.out, if_neg h0])
        generalize nth z k = x at *
        have hkw : IntKind.i64.wrap (k : Int) = (k : Int) := by unfold IntKind.wrap IntKind.bits IntKind.signed; simp; omega
        go_wp2_with (at_builtin; refine app_int _ rfl _ _ rfl w.heap.size A2 m c2 _ rfl ho k _ rfl (by simp) ⟨by omega, by omega⟩ (by omega) hb.size ?_; intro A' c' w3 ho3 hg3 hn3)
        have hb3 := below_own hb hg3 hb.size (fun b hb => (ho.os.lt hb).1)
        rw [← HS.out] at ho3
        go_roundw
        case rel => exact ⟨k + 1, A', m + 1, c', by omega, by omega, by go_num, rfl, ho3, hb3⟩
        case measure => simp [intOf]; omega
    · obtain rfl : k = n := by omega
      rw [← HL.out, supTo_all] at ho
      go_wp2
      go_ret
      exact ⟨_, _, _, rfl, ho, hb⟩
theorem lengthOf_any (P D : Int) (A : Option Addr) (n c : Nat) (M : Option Addr) (r rc : Nat) (rows : List (List Int)) (w : World) (hr : RR w M r rows) (hr1 : 1 ≤ r) :
    Calls Tryz.prog 57 #[.agg #[.int .i64 P, .int .i64 D, .slice A n c, .slice M r rc]] w (fun e w' => e = .returned (.int .i64 (row rows 0).length) ∧ Below w.heap.size w w') := by
  have hb1 := below_alloc w (.cells #[.int .i64 P, .int .i64 D, .slice A n c, .slice M r rc] 33)
  have X := Blk.new w 33 #[.int .i64 P, .int .i64 D, .slice A n c, .slice M r rc]
  have x3 := X.cell 3
  obtain ⟨ad, Z, m, cz, rfl, hc0, hz1, hz2, hrz⟩ := (hr.keep hb1).get (k := 0) (by omega)
  have hc0 : (w.alloc (.cells #[.int .i64 P, .int .i64 D, .slice A n c, .slice (some ad) r rc] 33)).cell? ad = some (.slice Z m cz) := hc0
  rw [hrz.len]
  go_enter Tryz.func57, Tryz.ntmps57
  go_wp2_with (go_at_call 70; refine (sizeI_any Z m cz _ (by omega)).mono ?_; rintro e w' ⟨rfl, rfl⟩)
  go_ret
  exact ⟨rfl, hb1⟩
set_option maxRecDepth 100000 in
set_option maxHeartbeats 4000000 in
theorem codeGraph_any (P D : Int) (A : Option Addr) (n c : Nat) (f : List Int) (M : Option Addr) (r rc : Nat) (rows : List (List Int)) (w : World) (hA : RI w A n f) (hr : RR w M r rows) (hn : n ≤ 1099511627776) (hC : CodeOk P D f rows) :
    Calls Tryz.prog 17 #[.agg #[.int .i64 P, .int .i64 D, .slice A n c, .slice M r rc]] w (RetCg w (cgK P D f rows) (cgC P D f rows) (cgE P D f rows)) := by
  have hCC := hC
  obtain ⟨k, q, rfl, hf, hq, hm, r1, r8, m1, m32, hw⟩ := hCC.nums
  obtain ⟨p2, p61, k1, k6, hq64, hq2⟩ := hf.nums
  have HL := Lib.hid hr.len
  rw [HL.out] at r1 r8 hw
  have hb1 := below_then (below_alloc w (.cells #[.int .i64 P, .int .i64 k, .slice A n c, .slice M r rc] 33)) (below_alloc _ (.cells #[.slice none 0 0, .slice none 0 0] 46))
  have X := (Blk.new w 33 #[.int .i64 P, .int .i64 k, .slice A n c, .slice M r rc]).alloc (.cells #[.slice none 0 0, .slice none 0 0] 46)
  have Y : Blk ((w.alloc (.cells #[.int .i64 P, .int .i64 k, .slice A n c, .slice M r rc] 33)).alloc (.cells #[.slice none 0 0, .slice none 0 0] 46)) (w.heap.size + 1) 46 #[.slice none 0 0, .slice none 0 0] := by
    have := Blk.new (w.alloc (.cells #[.int .i64 P, .int .i64 k, .slice A n c, .slice M r rc] 33)) 46 #[.slice none 0 0, .slice none 0 0]
    simpa using this
  have hv := validCode_any P k A n c f M r rc rows _ (hA.keep hb1) ⟨by omega, by omega⟩ ⟨by omega, by omega⟩ (by omega) (hr.keep hb1) (by omega)
  rw [tB_yes hC] at hv
  have HA := Lib.hid hA
  have HR := Lib.hid hr
  have HF := Lib.hid hf
  have HM := Lib.hid hm
  have HQ := Lib.hid hq
  have HFS := Lib.hid (fun (w' : World) => fieldSize_any P k A n c w' p2 (by omega) hq64 k6)
  have HLen := Lib.hid (fun (w' : World) (h : RR w' M r rows) => lengthOf_any P k A n c M r rc rows w' h r1)
  generalize hW1 : (w.alloc (.cells #[.int .i64 P, .int .i64 k, .slice A n c, .slice M r rc] 33)).alloc (.cells #[.slice none 0 0, .slice none 0 0] 46) = W1 at *
  have x0 := X.cell 0
  have x1 := X.cell 1
  have x2 := X.cell 2
  have x3 := X.cell 3
  by_cases hq0 : q = 2
  · obtain rfl := hq0
    have hq' : P ^ k = 2 := by rw [hq]; rfl
    have HE := Lib.hid (cd_yes (f := f) (m := (row rows 0).length) (rows := rows) hq')
    have HQ2 := Lib.hid hq'
    have HWO := Lib.hid (fun (w' : World) (h1 : RI w' A n f) (h2 : RR w' M r rows) => wordsOf_any P k A n c f M r rc (row rows 0).length rows 2 w' h1 h2 hf hq hm r1 r8 m32 hw)
    have HWR := Lib.hid (fun i hi => wordsTo_row (p := P) (by omega) k f 2 (row rows 0).length rows r i hi)
    have HWL := Lib.hid (wordsTo_len P k f 2 (row rows 0).length rows r)
    have HB := Lib.hid (show cdB P k f (row rows 0).length rows = supsW (wordsTo P k f 2 (row rows 0).length rows r) by unfold cdB; rw [HL.out])
    have hr2 : 2 ^ r ≤ 256 := Nat.le_trans (Nat.pow_le_pow_right (by omega) r8) (by decide)
    have hr3 : 2 ≤ 2 ^ r := Nat.le_trans (by decide) (Nat.pow_le_pow_right (by omega) r1 : 2 ^ 1 ≤ 2 ^ r)
    have HSet := Lib.hid (supsW_sets (L := wordsTo P k f 2 (row rows 0).length rows r) (n := (row rows 0).length) (fun i hi => (HWR.out i (by rw [← HWL.out]; exact hi)).1) m32 (by rw [HWL.out]; omega))
    rw [HB.out] at HE
    clear hf hq hm hq' hC hCC hw hq64 hq2
    go_enter Tryz.func17, Tryz.ntmps17
    go_wp2_with fail
    clear x0 x1 x2 x3
    refine hv.mono ?_
    rintro e w2 ⟨rfl, hb2⟩
    have hw2 := hb1.trans (hb2.mono hb1.size)
    have X2 := X.after hb2
    have Y2 := Y.after hb2
    have x0 := X2.cell 0
    have x1 := X2.cell 1
    have x2 := X2.cell 2
    clear hv hb1 hb2 X Y
    go_wp2_with fail
    clear x0 x1 x2
    refine (HFS.out w2).mono ?_
    rintro e w3 ⟨rfl, hb3⟩
    rw [HQ2.out]
    have hw3 := hw2.trans (hb3.mono hw2.size)
    have X3 := X2.after hb3
    have Y3 := Y2.after hb3
    have x0 := X3.cell 0
    have x1 := X3.cell 1
    have x2 := X3.cell 2
    have x3 := X3.cell 3
    clear hw2 hb3 X2 Y2
    go_wp2_with fail
    clear x0 x1 x2 x3
    refine (HWO.out w3 (HA.out.keep hw3) (HR.out.keep hw3)).mono ?_
    rintro e w4 ⟨A4, n4, c4, rfl, hA4, hnc, hcx, hRW, hb4⟩
    have hw4 := hw3.trans (hb4.mono hw3.size)
    have X4 := X3.after hb4
    have Y4 := Y3.after hb4
    clear hw3 hb4 X3 Y3
    have HN4 := Lib.hid (show n4 = 2 ^ r by rw [← hRW.len]; exact HWL.out)
    have h41 : n4 ≤ 256 := by rw [HN4.out]; exact hr2
    have h42 : 2 ≤ n4 := by rw [HN4.out]; exact hr3
    have hc41 : ¬ c4 = 1 := by omega
    obtain ⟨g4, hA4⟩ : ∃ g, A4 = some ⟨g, 0, none⟩ := by
      rcases hA4 with h | h
      · omega
      · exact h
    obtain rfl := hA4
    have hd := hRW.drop_ (k := 1) (by omega)
    rw [Addr.add_lit, Nat.zero_add] at hd
    clear hr2 hr3
    go_wp2
    obtain ⟨nb, hnb⟩ : ∃ nb, nb = n4 - 1 := ⟨_, rfl⟩
    have hn1 : nb + 1 ≤ n4 := by omega
    have hn2 : n4 ≤ nb + 1 := by omega
    rw [← hnb] at hd
    try rw [← hnb]
    clear hnb
    have HD := Lib.hid hd
    have HSL := Lib.hid (show (supsW (wordsTo P k f 2 (row rows 0).length rows r)).length = nb by rw [supsW_len, HWL.out, ← HN4.out]; omega)
    obtain ⟨vs0, hov0⟩ := OR.nil_ w4 w4.heap.size (e2 := 22) (e1 := 2) (by decide)
    go_loopw [4, 6, 20] (fun ws _ i wr => ∃ (t : Nat) (A5 : Option Addr) (c5 : Nat) (vs : List Sl), t ≤ nb ∧ i = .int .i64 t ∧ ws = .slice A5 t c5 ∧ ORv wr w4.heap.size 22 2 A5 t c5 vs ((supsW (wordsTo P k f 2 (row rows 0).length rows r)).take t) ∧ Below w4.heap.size w4 wr) (fun _ _ i _ => nb - (intOf i).toNat)
    case atStart => exact ⟨0, none, 0, vs0, Nat.zero_le _, rfl, rfl, hov0, Below.refl _ _⟩
    case round =>
      clear hov0 vs0 hd
      obtain ⟨t, A5, c5, vs, ht, rfl, rfl, hov, hwi⟩ := hrel
      by_cases htq : t < nb
      · obtain ⟨a1, A6, n6, c6, hA6, hca, hn6, hc6, ha6⟩ := (HD.out.keep hwi).get htq
        injection hA6 with hA6
        subst hA6
        rw [Addr.add_lit] at hca
        have hlt2 : t + 1 < (wordsTo P k f 2 (row rows 0).length rows r).length := by rw [HWL.out, ← HN4.out]; omega
        obtain ⟨hl6, -⟩ := HWR.out (t + 1) (by rw [← HN4.out]; omega)
        rw [row_drop1 hlt2] at ha6
        have h6n : n6 ≤ 32 := by rw [← ha6.len, hl6]; exact m32
        have hst := take_rowW (L := supsW (wordsTo P k f 2 (row rows 0).length rows r)) (x := t) (by rw [HSL.out]; exact htq)
        rw [supsW_row hlt2] at hst
        have hst := Lib.hid hst
        clear hl6 hlt2
        generalize row (wordsTo P k f 2 (row rows 0).length rows r) (t + 1) = z at *
        go_wp2_with fail
        refine (supportOf_any A6 n6 c6 z wr ha6 (by omega)).mono ?_
        rintro e w5 ⟨A7, n7, c7, rfl, ho7, hb5⟩
        have ho5 := hov.below hb5
        have hw5 := hwi.trans (hb5.mono hwi.size)
        have hap := hov.apart_new (v := (A7, n7, c7)) (fun b hb => (ho7.os.lt hb).1)
        have ho7' := ho7.more hwi.size
        clear hca ha6 hov ho7
        go_wp2_with (at_builtin; refine app_row _ rfl (.tmp 24) (.tmp 27) rfl w4.heap.size A5 t c5 vs _ rfl ho5 (A7, n7, c7) (supW z) ho7' hap _ rfl (by simp) (by omega) hw5.size ?_; intro A' c' w8 ho8 hg8 hn8)
        have hw8 := below_own hw5 hg8 hw5.size (fun b hb => (ho5.os.lt hb).1)
        rw [hst.out] at ho8
        go_roundw
        case rel => exact ⟨t + 1, A', c', _, by omega, by go_num, rfl, ho8, hw8⟩
        case measure => simp [intOf]; omega
      · obtain rfl : t = nb := by omega
        have hRS : RR wr A5 t (supsW (wordsTo P k f 2 (row rows 0).length rows r)) := by
          have := OR.reads ⟨_, hov⟩
          rwa [List.take_of_length_le (by rw [HSL.out]; exact Nat.le_refl _)] at this
        have hwe := hw4.trans (hwi.mono hw4.size)
        have X5 := X4.after hwi
        have Y5 := Y4.after hwi
        have x0 := X5.cell 0
        have x1 := X5.cell 1
        have x2 := X5.cell 2
        have x3 := X5.cell 3
        have hlen := HLen.out wr (HR.out.keep hwe)
        clear hov X4 Y4
        go_wp2_with fail
        clear x0 x1 x2 x3
        refine hlen.mono ?_
        rintro e w6 ⟨rfl, hb6⟩
        have hw6 := hwe.trans (hb6.mono hwe.size)
        have Y6 := Y5.after hb6
        have hset := setGraph_any (row rows 0).length A5 t c5 _ w6 (hRS.keep hb6) HSet.out
        clear hlen X5 Y5
        go_wp2_with fail
        refine hset.mono ?_
        rintro e w7 ⟨A7, n7, c7, F7, m7, d7, rfl, o1, o2, q1, q2, hb7⟩
        have hw7 := hw6.trans (hb7.mono hw6.size)
        have o1 := o1.more hw6.size
        have o2 := o2.more hw6.size
        have Y7 := Y6.after hb7
        obtain ⟨y0, y1⟩ := Y7.cells2
        have f0 := Y7.frozen 0
        have f1 := Y7.frozen 1
        have YF := (Y7.set_ 0 (.slice A7 n7 c7)).set_ 1 (.slice F7 m7 d7)
        obtain ⟨z0, z1⟩ : (((w7.setCell ⟨w.heap.size + 1, 0, none⟩ (.slice A7 n7 c7)).setCell ⟨w.heap.size + 1, 1, none⟩ (.slice F7 m7 d7)).cell? ⟨w.heap.size + 1, 0, none⟩ = some (.slice A7 n7 c7)) ∧ (((w7.setCell ⟨w.heap.size + 1, 0, none⟩ (.slice A7 n7 c7)).setCell ⟨w.heap.size + 1, 1, none⟩ (.slice F7 m7 d7)).cell? ⟨w.heap.size + 1, 1, none⟩ = some (.slice F7 m7 d7)) := ⟨YF.cell 0, YF.cell 1⟩
        rw [← HE.out.2.2]
        generalize hqq : cdK P k f (row rows 0).length rows = qq at *
        have e1 : some (w.heap.size + 1) ≠ blk A7 := OS.typed' o1.os Y7 (by decide)
        have e2 : some (w.heap.size + 1) ≠ blk F7 := OS.typed' o2.os Y7 (by decide)
        clear hset Y6
        go_wp2
        have o1 := (o1.kept (grown_set (g := w.heap.size + 1) (p := 0) (u := .slice A7 n7 c7)) (.inr fun e => e1 e.symm)).kept (grown_set (g := w.heap.size + 1) (p := 1) (u := .slice F7 m7 d7)) (.inr fun e => e1 e.symm)
        have o2 := (o2.kept (grown_set (g := w.heap.size + 1) (p := 0) (u := .slice A7 n7 c7)) (.inr fun e => e2 e.symm)).kept (grown_set (g := w.heap.size + 1) (p := 1) (u := .slice F7 m7 d7)) (.inr fun e => e2 e.symm)
        subst hqq
        refine bodyPost_ret (v := .tuple #[.agg #[.slice A7 n7 c7, .slice F7 m7 d7], .int .i64 (cdK P k f (row rows 0).length rows)]) (by simp [results, Tryz.results17, go_sem, z0, z1]) rfl ?_
        simp only [RetCg, cgK, cgC, cgE, Int.toNat_natCast]
        rw [HE.out.1, HE.out.2.1]
        exact ⟨A7, n7, c7, F7, m7, d7, rfl, o1, o2, q1, q2, (hw7.setCell (p := ⟨w.heap.size + 1, 0, none⟩) (by simp) _).setCell (p := ⟨w.heap.size + 1, 1, none⟩) (by simp) _⟩
  · have HE := Lib.hid (cd_no (f := f) (m := (row rows 0).length) (rows := rows) (show ¬ P ^ k = 2 by rw [hq]; omega))
    have hqn : ¬ ((q : Int) = 2) := by omega
    clear hf hm hC hCC hw
    rw [hq] at hq64 hq2
    clear hq
    go_enter Tryz.func17, Tryz.ntmps17
    go_wp2_with fail
    clear x0 x1 x2 x3
    refine hv.mono ?_
    rintro e w2 ⟨rfl, hb2⟩
    have hw2 := hb1.trans (hb2.mono hb1.size)
    have X2 := X.after hb2
    have Y2 := Y.after hb2
    have x0 := X2.cell 0
    have x1 := X2.cell 1
    have x2 := X2.cell 2
    clear hv hb1 hb2 X Y
    go_wp2_with fail
    clear x0 x1 x2
    refine (HFS.out w2).mono ?_
    rintro e w3 ⟨rfl, hb3⟩
    rw [HQ.out]
    have hb0 := hw2.trans (hb3.mono hw2.size)
    have Y3 := Y2.after hb3
    clear hw2 hb3 X2 Y2
    have hD0 := (Y3.set_ 0 (.slice none 0 0)).set_ 1 (.slice none 0 0)
    obtain ⟨y0, y1⟩ := Y3.cells2
    have f0 := Y3.frozen 0
    have f1 := Y3.frozen 1
    go_wp2
    clear y0 y1 f0 f1
    obtain ⟨x0, x1⟩ : ((w3.setCell ⟨w.heap.size + 1, 0, none⟩ (.slice none 0 0)).setCell ⟨w.heap.size + 1, 1, none⟩ (.slice none 0 0)).cell? ⟨w.heap.size + 1, 0, none⟩ = some (.slice none 0 0) ∧ ((w3.setCell ⟨w.heap.size + 1, 0, none⟩ (.slice none 0 0)).setCell ⟨w.heap.size + 1, 1, none⟩ (.slice none 0 0)).cell? ⟨w.heap.size + 1, 1, none⟩ = some (.slice none 0 0) := ⟨hD0.cell 0, hD0.cell 1⟩
    refine bodyPost_ret (v := .tuple #[.agg #[.slice none 0 0, .slice none 0 0], .int .i64 6]) (by simp [results, Tryz.results17, go_sem, x0, x1]) rfl ?_
    simp only [RetCg, cgK, cgC, cgE, Int.toNat_natCast]
    rw [HE.out.1, HE.out.2.1, HE.out.2.2]
    exact ⟨none, 0, 0, none, 0, 0, rfl, OI.nil_ _ _ _, OE.nil_ _ _ _, by omega, by omega, (hb0.setCell (p := ⟨w.heap.size + 1, 0, none⟩) (by simp) _).setCell (p := ⟨w.heap.size + 1, 1, none⟩) (by simp) _⟩
theorem blk4 {w : World} {g : Nat} {t : TypeId} {a b c d : Value} (h : Blk w g t #[a, b, c, d]) : w.cell? ⟨g, 0, none⟩ = some a ∧ w.cell? ⟨g, 1, none⟩ = some b ∧ w.cell? ⟨g, 2, none⟩ = some c ∧ w.cell? ⟨g, 3, none⟩ = some d := ⟨h.cell 0, h.cell 1, h.cell 2, h.cell 3⟩
set_option maxRecDepth 100000 in
set_option maxHeartbeats 4000000 in
theorem impl_EquivalentCodes (P D : Int) (A : Option Addr) (n c : Nat) (f : List Int) (M : Option Addr) (r rc : Nat) (xs : List (List Int)) (P' D' : Int) (A' : Option Addr) (n' c' : Nat) (f' : List Int) (M' : Option Addr) (r' rc' : Nat) (ys : List (List Int)) (b : Int) (w : World)
    (hP : I64 P) (hD : I64 D) (hn : n ≤ 1099511627776) (hf : RI w A n f) (hr : RR w M r xs) (h1 : r ≤ 1099511627776)
    (hP' : I64 P') (hD' : I64 D') (hn' : n' ≤ 1099511627776) (hf' : RI w A' n' f') (hr' : RR w M' r' ys) (h1' : r' ≤ 1099511627776) :
    Calls Tryz.prog 10 #[.agg #[.int .i64 P, .int .i64 D, .slice A n c, .slice M r rc], .agg #[.int .i64 P', .int .i64 D', .slice A' n' c', .slice M' r' rc'], .int .i64 b] w (fun e w' => e = .returned (.tuple #[.bool (eqcR P D f xs P' D' f' ys b), .int .i64 (eqcK P D f xs P' D' f' ys b)]) ∧ Below w.heap.size w w') := by
  have hb1 := below_then (below_alloc w (.cells #[.int .i64 P, .int .i64 D, .slice A n c, .slice M r rc] 33)) (below_alloc _ (.cells #[.int .i64 P', .int .i64 D', .slice A' n' c', .slice M' r' rc'] 33))
  have X := (Blk.new w 33 #[.int .i64 P, .int .i64 D, .slice A n c, .slice M r rc]).alloc (.cells #[.int .i64 P', .int .i64 D', .slice A' n' c', .slice M' r' rc'] 33)
  have Y : Blk ((w.alloc (.cells #[.int .i64 P, .int .i64 D, .slice A n c, .slice M r rc] 33)).alloc (.cells #[.int .i64 P', .int .i64 D', .slice A' n' c', .slice M' r' rc'] 33)) (w.heap.size + 1) 33 #[.int .i64 P', .int .i64 D', .slice A' n' c', .slice M' r' rc'] := by
    have := Blk.new (w.alloc (.cells #[.int .i64 P, .int .i64 D, .slice A n c, .slice M r rc] 33)) 33 #[.int .i64 P', .int .i64 D', .slice A' n' c', .slice M' r' rc']
    simpa using this
  have hv1 := validCode_any P D A n c f M r rc xs _ (hf.keep hb1) hP hD (by omega) (hr.keep hb1) (by omega)
  have HV2 := Lib.hid (fun (w' : World) (h : Below w.heap.size w w') => validCode_any P' D' A' n' c' f' M' r' rc' ys w' (hf'.keep h) hP' hD' (by omega) (hr'.keep h) (by omega))
  generalize hW1 : (w.alloc (.cells #[.int .i64 P, .int .i64 D, .slice A n c, .slice M r rc] 33)).alloc (.cells #[.int .i64 P', .int .i64 D', .slice A' n' c', .slice M' r' rc'] 33) = W1 at *
  obtain ⟨x0, x1, x2, x3⟩ := blk4 X
  by_cases c1 : CodeOk P D f xs
  · rw [tB_yes c1] at hv1
    by_cases c2 : CodeOk P' D' f' ys
    · have HY := Lib.hid (tB_yes c2)
      have HK := Lib.hid (show eqcK P D f xs P' D' f' ys b = samC (inB b 1 20000) (cgK P D f xs) (cgK P' D' f' ys) (code2P (cgC P D f xs) (cgE P D f xs) (cgC P' D' f' ys) (cgE P' D' f' ys) b) by rw [eqcK, tB_yes c1, tB_yes c2]; rfl)
      have HR := Lib.hid (show eqcR P D f xs P' D' f' ys b = samB (inB b 1 20000) (cgK P D f xs) (cgK P' D' f' ys) (isoP (cgC P D f xs) (cgE P D f xs) (cgC P' D' f' ys) (cgE P' D' f' ys) b) by rw [eqcR, tB_yes c1, tB_yes c2]; rfl)
      have HG1 := Lib.hid (fun (w' : World) (h : Below w.heap.size w w') => codeGraph_any P D A n c f M r rc xs w' (hf.keep h) (hr.keep h) hn c1)
      have HG2 := Lib.hid (fun (w' : World) (h : Below w.heap.size w w') => codeGraph_any P' D' A' n' c' f' M' r' rc' ys w' (hf'.keep h) (hr'.keep h) hn' c2)
      clear c1 c2
      go_enter Tryz.func10, Tryz.ntmps10
      go_wp2_with fail
      clear x0 x1 x2 x3
      refine hv1.mono ?_
      rintro e w1 ⟨rfl, hb2⟩
      have hw1 := hb1.trans (hb2.mono hb1.size)
      have X1 := X.after hb2
      have Y1 := Y.after hb2
      obtain ⟨y0, y1, y2, y3⟩ := blk4 Y1
      clear hv1 hb1 hb2 X Y
      go_wp2_with fail
      clear y0 y1 y2 y3
      refine (HV2.out w1 hw1).mono ?_
      rintro e w2 ⟨rfl, hb2⟩
      rw [HY.out]
      have hw2 := hw1.trans (hb2.mono hw1.size)
      have X2 := X1.after hb2
      have Y2 := Y1.after hb2
      obtain ⟨x0, x1, x2, x3⟩ := blk4 X2
      clear hw1 hb2 X1 Y1
      go_wp2_with fail
      clear x0 x1 x2 x3
      refine (HG1.out w2 hw2).mono ?_
      rintro e w3 ⟨A1, n1, c1, F1, m1, d1, rfl, o1, o2, q1, q2, hb3⟩
      have hG1 := RG.mk o1.reads o2.reads
      have hw3 := hw2.trans (hb3.mono hw2.size)
      have Y3 := Y2.after hb3
      have hal := below_alloc w3 (.cells #[.slice A1 n1 c1, .slice F1 m1 d1] 46)
      have hX := Blk.new w3 46 #[.slice A1 n1 c1, .slice F1 m1 d1]
      obtain ⟨y0, y1, y2, y3⟩ := blk4 (Y3.after hal)
      clear hw2 hb3 X2 Y2 o1 o2
      go_wp2_with fail
      clear y0 y1 y2 y3
      refine (HG2.out _ (hw3.trans (hal.mono hw3.size))).mono ?_
      rintro e w4 ⟨A2, n2, c2, F2, m2, d2, rfl, o1, o2, q3, q4, hb4⟩
      have hG2 := RG.mk o1.reads o2.reads
      have hX4 := hX.after hb4
      have hb34 := hal.trans (hb4.mono (by simp))
      have hG1' := hG1.keep hb34
      have hw4 := hw3.trans (hb34.mono hw3.size)
      have hal4 := below_alloc w4 (.cells #[.slice A2 n2 c2, .slice F2 m2 d2] 46)
      have hY := Blk.new w4 46 #[.slice A2 n2 c2, .slice F2 m2 d2]
      have hX5 := hX4.after hal4
      obtain ⟨x0, x1⟩ := hX5.cells2
      obtain ⟨y0, y1⟩ := hY.cells2
      have hsf := sameForms_any (w4.alloc (.cells #[.slice A2 n2 c2, .slice F2 m2 d2] 46)) A1 n1 c1 F1 m1 d1 (cgC P D f xs) (cgE P D f xs) A2 n2 c2 F2 m2 d2 (cgC P' D' f' ys) (cgE P' D' f' ys) (cgK P D f xs) (cgK P' D' f' ys) b (hG1'.keep hal4) (hG2.keep hal4) (by omega) (by omega) (by omega) (by omega)
      rw [← HK.out, ← HR.out] at hsf
      have hw5 := hw4.trans (hal4.mono hw4.size)
      clear hX hX4 hX5 hY hG1 hG1' hG2 hal hal4 hb34 hb4 hw3 hw4 o1 o2
      go_wp2_with fail
      refine hsf.mono ?_
      rintro e w6 ⟨rfl, hb6⟩
      go_wp2
      go_ret2
      exact ⟨rfl, hw5.trans (hb6.mono hw5.size)⟩
    · have HY := Lib.hid (tB_no c2)
      have HK := Lib.hid (show eqcK P D f xs P' D' f' ys b = 1 by rw [eqcK, tB_no c2]; simp)
      have HR := Lib.hid (show eqcR P D f xs P' D' f' ys b = false by rw [eqcR, tB_no c2]; simp)
      clear c1 c2
      go_enter Tryz.func10, Tryz.ntmps10
      go_wp2_with fail
      clear x0 x1 x2 x3
      refine hv1.mono ?_
      rintro e w1 ⟨rfl, hb2⟩
      have hw1 := hb1.trans (hb2.mono hb1.size)
      have Y1 := Y.after hb2
      obtain ⟨y0, y1, y2, y3⟩ := blk4 Y1
      clear hv1
      go_wp2_with fail
      clear y0 y1 y2 y3
      refine (HV2.out w1 hw1).mono ?_
      rintro e w2 ⟨rfl, hb2⟩
      rw [HY.out]
      go_wp2
      go_ret2
      exact ⟨by rw [HK.out, HR.out]; rfl, hw1.trans (hb2.mono hw1.size)⟩
  · rw [tB_no c1] at hv1
    have HK := Lib.hid (show eqcK P D f xs P' D' f' ys b = 1 by rw [eqcK, tB_no c1]; simp)
    have HR := Lib.hid (show eqcR P D f xs P' D' f' ys b = false by rw [eqcR, tB_no c1]; simp)
    clear c1
    go_enter Tryz.func10, Tryz.ntmps10
    go_wp2_with fail
    clear x0 x1 x2 x3
    refine hv1.mono ?_
    rintro e w1 ⟨rfl, hb2⟩
    go_wp2
    go_ret2
    exact ⟨by rw [HK.out, HR.out]; rfl, hb1.trans (hb2.mono hb1.size)⟩
end Go.Proofs.YtdkbcjdimhgmnaaGreat
