/- Whether two squares' graphs are isomorphic, both sides. No condition beyond those stated. -/
import Derived.Test.YtdkbcjdimhgmnaaGreatRHH
import Derived.Test.YtdkbcjdimhgmnaaGreatRGX
set_option linter.unusedVariables false
set_option linter.unusedSimpArgs false
namespace Go.Proofs.YtdkbcjdimhgmnaaGreat
open Go.RowKit
def samC (i : Bool) (p q c : Int) : Int := if i then (if p ≠ 0 then p else if q ≠ 0 then q else c) else 2
def samB (i : Bool) (p q : Int) (r : Bool) : Bool := if i then (if p ≠ 0 then false else if q ≠ 0 then false else r) else false
theorem sam_no (p q c : Int) (r : Bool) : samC false p q c = 2 ∧ samB false p q r = false := ⟨rfl, rfl⟩
theorem sam_p {p : Int} (h : p ≠ 0) (q c : Int) (r : Bool) : samC true p q c = p ∧ samB true p q r = false := by simp [samC, samB, h]
theorem sam_q {q : Int} (h : q ≠ 0) (c : Int) (r : Bool) : samC true 0 q c = q ∧ samB true 0 q r = false := by simp [samC, samB, h]
theorem sam_ok (c : Int) (r : Bool) : samC true 0 0 c = c ∧ samB true 0 0 r = r := by simp [samC, samB]
set_option maxRecDepth 100000 in
set_option maxHeartbeats 2000000 in
theorem sameForms_any (w : World) (A : Option Addr) (n c : Nat) (F : Option Addr) (m d : Nat) (cs : List Int) (es : List Ed) (A' : Option Addr) (n' c' : Nat) (F' : Option Addr) (m' d' : Nat) (ds : List Int) (fs : List Ed) (p q b : Int) (hG : RG w A n F m cs es) (hH : RG w A' n' F' m' ds fs) (hn : n ≤ 9223372036854775807) (hm : m ≤ 9223372036854775807) (hn' : n' ≤ 9223372036854775807) (hm' : m' ≤ 9223372036854775807) :
    Calls Tryz.prog 43 #[.agg #[.slice A n c, .slice F m d], .agg #[.slice A' n' c', .slice F' m' d'], .int .i64 p, .int .i64 q, .int .i64 b] w (fun e w' => e = .returned (.tuple #[.bool (samB (inB b 1 20000) p q (isoP cs es ds fs b)), .int .i64 (samC (inB b 1 20000) p q (code2P cs es ds fs b))]) ∧ Below w.heap.size w w') := by
  have hb1 := below_then (below_alloc w (.cells #[.slice A n c, .slice F m d] 46)) (below_alloc _ (.cells #[.slice A' n' c', .slice F' m' d'] 46))
  have X := (Blk.new w 46 #[.slice A n c, .slice F m d]).alloc (.cells #[.slice A' n' c', .slice F' m' d'] 46)
  have Y : Blk ((w.alloc (.cells #[.slice A n c, .slice F m d] 46)).alloc (.cells #[.slice A' n' c', .slice F' m' d'] 46)) (w.heap.size + 1) 46 #[.slice A' n' c', .slice F' m' d'] := by
    have := Blk.new (w.alloc (.cells #[.slice A n c, .slice F m d] 46)) 46 #[.slice A' n' c', .slice F' m' d']
    simpa using this
  have hG1 := hG.keep hb1
  have hH1 := hH.keep hb1
  generalize hW1 : (w.alloc (.cells #[.slice A n c, .slice F m d] 46)).alloc (.cells #[.slice A' n' c', .slice F' m' d'] 46) = W1 at *
  have hcall := impl_IsomorphicGraphs A n c F m d cs es A' n' c' F' m' d' ds fs b W1 hG1 hH1 hn hm hn' hm'
  obtain ⟨x0, x1⟩ := X.cells2
  obtain ⟨y0, y1⟩ := Y.cells2
  cases hi : inB b 1 20000 with
  | false =>
    have HR := Lib.hid (sam_no p q (code2P cs es ds fs b) (isoP cs es ds fs b))
    go_enter Tryz.func43, Tryz.ntmps43
    go_wp2_with (go_at_call 100; refine (isBudget_any _ _).mono ?_; rintro e w' ⟨rfl, rfl⟩; rw [hi])
    go_ret2
    exact ⟨by rw [HR.out.1, HR.out.2]; rfl, hb1⟩
  | true =>
    by_cases hp : p = 0
    · subst hp
      by_cases hq : q = 0
      · subst hq
        have HR := Lib.hid (sam_ok (code2P cs es ds fs b) (isoP cs es ds fs b))
        go_enter Tryz.func43, Tryz.ntmps43
        go_wp2_with (first | (go_at_call 100; refine (isBudget_any _ _).mono ?_; rintro e w' ⟨rfl, rfl⟩; rw [hi]) | (go_at_call 101; refine hcall.mono ?_; rintro e w2 ⟨rfl, hb2⟩))
        go_ret2
        exact ⟨by rw [HR.out.1, HR.out.2]; rfl, hb1.trans (hb2.mono hb1.size)⟩
      · have HR := Lib.hid (sam_q hq (code2P cs es ds fs b) (isoP cs es ds fs b))
        have hq' : (q != 0) = true := by simp [hq]
        clear hq
        go_enter Tryz.func43, Tryz.ntmps43
        go_wp2_with (go_at_call 100; refine (isBudget_any _ _).mono ?_; rintro e w' ⟨rfl, rfl⟩; rw [hi])
        go_ret2
        exact ⟨by rw [HR.out.1, HR.out.2]; rfl, hb1⟩
    · have HR := Lib.hid (sam_p hp q (code2P cs es ds fs b) (isoP cs es ds fs b))
      have hp' : (p != 0) = true := by simp [hp]
      clear hp
      go_enter Tryz.func43, Tryz.ntmps43
      go_wp2_with (go_at_call 100; refine (isBudget_any _ _).mono ?_; rintro e w' ⟨rfl, rfl⟩; rw [hi])
      go_ret2
      exact ⟨by rw [HR.out.1, HR.out.2]; rfl, hb1⟩
def gqC (n : Nat) (cl : Bool) : List Int := if n ≤ 6 then sqC n cl else []
def gqE (a : List (List Int)) (n : Nat) : List Ed := if n ≤ 6 then sqEl a n (3 * n) else []
def gqK (n : Nat) : Int := if n ≤ 6 then 0 else 5
set_option maxRecDepth 100000 in
set_option maxHeartbeats 2000000 in
theorem squareGraph_all (A : Option Addr) (n c : Nat) (a : List (List Int)) (cl : Bool) (w : World) (ha : RR w A n a) (hS : Square a) (hr : cells a ≤ 1099511627776) :
    Calls Tryz.prog 125 #[.slice A n c, .bool cl] w (fun e w' => ∃ A' n' c' F' m' d', e = .returned (.tuple #[.agg #[.slice A' n' c', .slice F' m' d'], .int .i64 (gqK n)]) ∧ RG w' A' n' F' m' (gqC n cl) (gqE a n) ∧ n' ≤ 64 ∧ m' ≤ 512 ∧ Below w.heap.size w w') := by
  by_cases hn : n ≤ 6
  · have h := squareGraph_any A n c a cl w ha hS hn hr
    have e1 : gqK n = 0 := by simp [gqK, hn]
    have e2 : gqC n cl = sqC n cl := by simp [gqC, hn]
    have e3 : gqE a n = sqEl a n (3 * n) := by simp [gqE, hn]
    rw [e1, e2, e3]
    exact h
  · have e1 := Lib.hid (show gqK n = 5 by simp [gqK, hn])
    have e2 := Lib.hid (show gqC n cl = [] by simp [gqC, hn])
    have e3 := Lib.hid (show gqE a n = [] by simp [gqE, hn])
    have hn10 : n ≤ 10 := by rw [← ha.len]; exact hS.2.1
    have hb1 := below_alloc w (.cells #[.slice none 0 0, .slice none 0 0] 46)
    have Y := Blk.new w 46 #[.slice none 0 0, .slice none 0 0]
    have hv := validSquare_any A n c a _ (ha.keep hb1) (by omega) hr
    rw [tB_yes hS] at hv
    clear hS
    go_enter Tryz.func125, Tryz.ntmps125
    go_wp2_with fail
    refine hv.mono ?_
    rintro e w2 ⟨rfl, hb2⟩
    have hw2 := hb1.trans (hb2.mono (by simp))
    have Y2 := Y.after (by simpa using hb2)
    obtain ⟨y0, y1⟩ := Y2.cells2
    have f0 := Y2.frozen 0
    have f1 := Y2.frozen 1
    have YF := (Y2.set_ 0 (.slice none 0 0)).set_ 1 (.slice none 0 0)
    obtain ⟨z0, z1⟩ : (((w2.setCell ⟨w.heap.size, 0, none⟩ (.slice none 0 0)).setCell ⟨w.heap.size, 1, none⟩ (.slice none 0 0)).cell? ⟨w.heap.size, 0, none⟩ = some (.slice none 0 0)) ∧ (((w2.setCell ⟨w.heap.size, 0, none⟩ (.slice none 0 0)).setCell ⟨w.heap.size, 1, none⟩ (.slice none 0 0)).cell? ⟨w.heap.size, 1, none⟩ = some (.slice none 0 0)) := ⟨YF.cell 0, YF.cell 1⟩
    clear hv hb1 hb2
    go_wp2_with (go_at_call 96; refine (sizeR_any _ _ _ _ (by omega)).mono ?_; rintro e w' ⟨rfl, rfl⟩)
    refine bodyPost_ret (v := .tuple #[.agg #[.slice none 0 0, .slice none 0 0], .int .i64 5]) (by simp [results, Tryz.results125, go_sem, z0, z1]) rfl ?_
    rw [e1.out, e2.out, e3.out]
    exact ⟨none, 0, 0, none, 0, 0, rfl, ⟨(OI.nil_ _ 0 2).reads, RE.nil_ _ _⟩, by omega, by omega, (hw2.setCell (p := ⟨w.heap.size, 0, none⟩) (Nat.le_refl _) _).setCell (p := ⟨w.heap.size, 1, none⟩) (Nat.le_refl _) _⟩
noncomputable def sqK (xs ys : List (List Int)) (cl : Bool) (b : Int) : Int := if tB (Square xs) && tB (Square ys) then samC (inB b 1 20000) (gqK xs.length) (gqK ys.length) (code2P (gqC xs.length cl) (gqE xs xs.length) (gqC ys.length cl) (gqE ys ys.length) b) else 1
noncomputable def sqR (xs ys : List (List Int)) (cl : Bool) (b : Int) : Bool := if tB (Square xs) && tB (Square ys) then samB (inB b 1 20000) (gqK xs.length) (gqK ys.length) (isoP (gqC xs.length cl) (gqE xs xs.length) (gqC ys.length cl) (gqE ys ys.length) b) else false
set_option maxRecDepth 100000 in
set_option maxHeartbeats 2000000 in
theorem sameSquares_any (A : Option Addr) (n c : Nat) (B : Option Addr) (m d : Nat) (xs ys : List (List Int)) (cl : Bool) (b : Int) (w : World) (ha : RR w A n xs) (hb : RR w B m ys) (hn : n ≤ 1048576) (hm : m ≤ 1048576) (hc : cells xs ≤ 1099511627776) (hd : cells ys ≤ 1099511627776) :
    Calls Tryz.prog 65 #[.slice A n c, .slice B m d, .bool cl, .int .i64 b] w (fun e w' => e = .returned (.tuple #[.bool (sqR xs ys cl b), .int .i64 (sqK xs ys cl b)]) ∧ Below w.heap.size w w') := by
  have hv1 := validSquare_any A n c xs w ha (by omega) hc
  have HV2 := Lib.hid (fun (w' : World) (h : Below w.heap.size w w') => validSquare_any B m d ys w' (hb.keep h) (by omega) hd)
  by_cases h1 : Square xs
  · rw [tB_yes h1] at hv1
    by_cases h2 : Square ys
    · have HY := Lib.hid (tB_yes h2)
      have HG1 := Lib.hid (fun (w' : World) (h : Below w.heap.size w w') => squareGraph_all A n c xs cl w' (ha.keep h) h1 hc)
      have HG2 := Lib.hid (fun (w' : World) (h : Below w.heap.size w w') => squareGraph_all B m d ys cl w' (hb.keep h) h2 hd)
      have HK := Lib.hid (show sqK xs ys cl b = samC (inB b 1 20000) (gqK n) (gqK m) (code2P (gqC n cl) (gqE xs n) (gqC m cl) (gqE ys m) b) by rw [sqK, tB_yes h1, tB_yes h2, ha.len, hb.len]; rfl)
      have HR := Lib.hid (show sqR xs ys cl b = samB (inB b 1 20000) (gqK n) (gqK m) (isoP (gqC n cl) (gqE xs n) (gqC m cl) (gqE ys m) b) by rw [sqR, tB_yes h1, tB_yes h2, ha.len, hb.len]; rfl)
      clear h1 h2
      go_enter Tryz.func65, Tryz.ntmps65
      go_wp2_with fail
      refine hv1.mono ?_
      rintro e w1 ⟨rfl, hb1⟩
      go_wp2_with fail
      refine (HV2.out w1 hb1).mono ?_
      rintro e w2 ⟨rfl, hb2⟩
      rw [HY.out]
      have hb2 := hb1.trans (hb2.mono hb1.size)
      clear hv1 hb1
      go_wp2_with fail
      refine (HG1.out w2 hb2).mono ?_
      rintro e w3 ⟨A1, n1, c1, F1, m1, d1, rfl, hG1, q1, q2, hb3⟩
      have hb3 := hb2.trans (hb3.mono hb2.size)
      have hal := below_alloc w3 (.cells #[.slice A1 n1 c1, .slice F1 m1 d1] 46)
      have hX := Blk.new w3 46 #[.slice A1 n1 c1, .slice F1 m1 d1]
      go_wp2_with fail
      refine (HG2.out _ (hb3.trans (hal.mono hb3.size))).mono ?_
      rintro e w4 ⟨A2, n2, c2, F2, m2, d2, rfl, hG2, q3, q4, hb4⟩
      have hX4 := hX.after hb4
      have hb34 := hal.trans (hb4.mono (by simp))
      have hG1' := hG1.keep hb34
      have hw4 := hb3.trans (hb34.mono hb3.size)
      have hal4 := below_alloc w4 (.cells #[.slice A2 n2 c2, .slice F2 m2 d2] 46)
      have hY := Blk.new w4 46 #[.slice A2 n2 c2, .slice F2 m2 d2]
      have hX5 := hX4.after hal4
      obtain ⟨x0, x1⟩ := hX5.cells2
      obtain ⟨y0, y1⟩ := hY.cells2
      have hsf := sameForms_any (w4.alloc (.cells #[.slice A2 n2 c2, .slice F2 m2 d2] 46)) A1 n1 c1 F1 m1 d1 (gqC n cl) (gqE xs n) A2 n2 c2 F2 m2 d2 (gqC m cl) (gqE ys m) (gqK n) (gqK m) b (hG1'.keep hal4) (hG2.keep hal4) (by omega) (by omega) (by omega) (by omega)
      rw [← HK.out, ← HR.out] at hsf
      have hw5 := hw4.trans (hal4.mono hw4.size)
      clear hX hX4 hX5 hY hG1 hG1' hG2 hal hal4 hb34 hb4 hb3 hb2
      go_wp2_with fail
      refine hsf.mono ?_
      rintro e w6 ⟨rfl, hb6⟩
      go_wp2
      go_ret2
      exact ⟨rfl, hw5.trans (hb6.mono hw5.size)⟩
    · have HY := Lib.hid (tB_no h2)
      have HK := Lib.hid (show sqK xs ys cl b = 1 by rw [sqK, tB_no h2]; simp)
      have HR := Lib.hid (show sqR xs ys cl b = false by rw [sqR, tB_no h2]; simp)
      clear h1 h2
      go_enter Tryz.func65, Tryz.ntmps65
      go_wp2_with fail
      refine hv1.mono ?_
      rintro e w1 ⟨rfl, hb1⟩
      go_wp2_with fail
      refine (HV2.out w1 hb1).mono ?_
      rintro e w2 ⟨rfl, hb2⟩
      rw [HY.out]
      go_wp2
      go_ret2
      exact ⟨by rw [HK.out, HR.out]; rfl, hb1.trans (hb2.mono hb1.size)⟩
  · rw [tB_no h1] at hv1
    have HK := Lib.hid (show sqK xs ys cl b = 1 by rw [sqK, tB_no h1]; simp)
    have HR := Lib.hid (show sqR xs ys cl b = false by rw [sqR, tB_no h1]; simp)
    clear h1
    go_enter Tryz.func65, Tryz.ntmps65
    go_wp2_with fail
    refine hv1.mono ?_
    rintro e w1 ⟨rfl, hb1⟩
    go_wp2
    go_ret2
    exact ⟨by rw [HK.out, HR.out]; rfl, hb1⟩
end Go.Proofs.YtdkbcjdimhgmnaaGreat
