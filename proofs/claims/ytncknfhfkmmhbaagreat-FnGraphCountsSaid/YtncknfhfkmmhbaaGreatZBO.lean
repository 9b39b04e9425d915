/- (*impl.counter).node. No condition beyond those stated. -/
import Derived.Test.YtncknfhfkmmhbaaGreatZBL
import Derived.Test.YtncknfhfkmmhbaaGreatZBK
set_option linter.unusedVariables false
set_option linter.unusedSimpArgs false
namespace Go.Proofs.YtncknfhfkmmhbaaGreat
open Go.RowKit

set_option maxHeartbeats 1000000 in
theorem node_any (w : World) (pb : Nat) (l : Nat) (b : Bool) (h0 : w.cell? ⟨pb, 0, none⟩ = some (.int .i64 (l : Int))) (h1 : w.cell? ⟨pb, 1, none⟩ = some (.bool b)) (f0 : w.frozen? ⟨pb, 0, none⟩ = false) (f1 : w.frozen? ⟨pb, 1, none⟩ = false) (hl : l ≤ 100000) :
    Calls Tryz.prog 87 #[.pointer (some ⟨pb, 0, none⟩)] w (fun e w' => e = .returned (.bool (decide (l ≠ 0))) ∧ w' = if l = 0 then w.setCell ⟨pb, 1, none⟩ (.bool true) else w.setCell ⟨pb, 0, none⟩ (.int .i64 ((l : Int) - 1))) := by
  by_cases h : l = 0
  · subst h
    go_enter Tryz.func87, Tryz.ntmps87
    go_wp2
    go_ret
    exact ⟨rfl, rfl⟩
  · have h' : ((l : Int) == 0) = false := by simp; omega
    have hd : decide (l ≠ 0) = true := by simp [h]
    rw [hd, if_neg h]
    clear h hd
    go_enter Tryz.func87, Tryz.ntmps87
    go_wp2
    go_ret
    exact ⟨rfl, rfl⟩
end Go.Proofs.YtncknfhfkmmhbaaGreat
/- (*impl.explorer).search. No condition beyond those stated. -/
namespace Go.Proofs.YtncknfhfkmmhbaaGreat
open Go.RowKit

theorem vertsP_nth {cells : List Int} {t : Int} {k : Nat} (h : k < (vertsP cells t).length) : ∃ q : Nat, nth (vertsP cells t) k = q ∧ q < cells.length := by
  have hm : nth (vertsP cells t) k ∈ vertsP cells t := by rw [nth_get h]; exact List.getElem_mem h
  generalize nth (vertsP cells t) k = x at *
  unfold vertsP vF at hm
  simp at hm
  obtain ⟨a, ⟨ha, _⟩, rfl⟩ := hm
  exact ⟨a, rfl, ha⟩
theorem drop_nth {vs : List Int} {k : Nat} (h : k < vs.length) : vs.drop k = nth vs k :: vs.drop (k + 1) := by rw [List.drop_eq_getElem_cons h, nth_get h]
def dblTo (cells : List Int) (k : Nat) : List Int := (cells.take k).map (fun c => 2 * c + 1) ++ List.replicate (cells.length - k) 0
theorem dblTo_zero (cells : List Int) : dblTo cells 0 = List.replicate cells.length 0 := by simp [dblTo]
theorem dblTo_all (cells : List Int) : dblTo cells cells.length = cells.map fun c => 2 * c + 1 := by simp [dblTo]
theorem dblTo_step {cells : List Int} {k : Nat} (h : k < cells.length) : (dblTo cells k).set k (2 * nth cells k + 1) = dblTo cells (k + 1) := by
  unfold dblTo
  have hl : ((cells.take k).map fun c => 2 * c + 1).length = k := by simp; omega
  rw [List.set_append_right _ _ (by omega), hl, Nat.sub_self, show cells.length - k = (cells.length - (k + 1)) + 1 by omega, List.replicate_succ, List.set_cons_zero, List.take_succ_eq_append_getElem h, nth_get h, List.map_append, List.append_assoc]
  rfl
theorem splitP_set {cells : List Int} {v : Nat} : (cells.map fun c => 2 * c + 1).set v (2 * nth cells v + 1 - 1) = splitP cells v := by
  unfold splitP
  congr 1
  omega
/-- what a search asks for -/
structure Ask (w0 w : World) (A : Option Addr) (n c : Nat) (F : Option Addr) (m d : Nat) (N : Option Addr) (cN : Nat) (BA : Option Addr) (P : Option Addr) (cP : Nat) (s : St) (cells : List Int) : Prop where
  x : ∃ bn bc FA fn fk FF fm fd, XS w0 w A n c F m d N n cN BA bn bc FA fn fk FF fm fd s ∧ (blk P = none ∨ blk P ≠ blk FA)
  p : OI w (w0.heap.size + 1) 2 P n cP cells
  cl : Cells n cells
  leaves : s.leaves + s.left ≤ 50000
  nodes : s.nodes + s.left ≤ 50000
  best : s.best.length ≤ s.leaves
set_option maxRecDepth 100000 in
set_option maxHeartbeats 4000000 in
theorem search_step (w0 w : World) (A : Option Addr) (n c : Nat) (F : Option Addr) (m d : Nat) (cs : List Int) (es : List Ed) (N : Option Addr) (cN : Nat) (BA P : Option Addr) (cP : Nat) (s : St) (cells : List Int) (sub : St → List Int → St)
    (hG : RG w0 A n F m cs es) (hN : RR w0 N n (nearP n es)) (hn : n ≤ 4096) (hm : m ≤ 1048576) (he : EdgesOk n es) (hA : Ask w0 w A n c F m d N cN BA P cP s cells)
    (hsub : ∀ (w' : World) (BA' P' : Option Addr) (cP' : Nat) (s' : St) (cells' : List Int), s'.left < s.left → Ask w0 w' A n c F m d N cN BA' P' cP' s' cells' → Calls Tryz.prog 55 #[.pointer (some ⟨w0.heap.size, 0, none⟩), .slice P' n cP'] w' (RetX w0 w' A n c F m d N n cN BA' (sub s' cells')))
    (hk : ∀ (s' : St) (cells' : List Int), s'.left < s.left → Cells n cells' → Kept1 n s' (sub s' cells')) :
    Calls Tryz.prog 55 #[.pointer (some ⟨w0.heap.size, 0, none⟩), .slice P n cP] w (RetX w0 w A n c F m d N n cN BA (if tgtP cells < 0 then leafP cs es s cells else loopP (nearP n es) sub cells (vertsP cells (tgtP cells)) s)) := by
  obtain ⟨⟨bn, bc, FA, fn, fk, FF, fm, fd, hX, hPF⟩, hP, hC, b1, b2, b3⟩ := hA
  have htg := target_any P n cP cells w hP.reads (by omega)
  have hlp := hP.len
  by_cases ht : tgtP cells < 0
  · rw [if_pos ht]
    have hv : vL cells = [] := by rw [vL, if_pos ht]
    rw [hv] at htg
    have HL := Lib.hid (fun (w1 : World) (hb : Below w.heap.size w w1) => leaf_any w0 w1 A n c F m d cs es N n cN BA bn bc FA fn fk FF fm fd s P cP cells hG (hX.step hb) (hP.below hb) (tgtP_perm hC ht) hn hm he (by omega) (by omega) hPF)
    clear hPF hX hP hG hN hsub hk he hC
    go_enter Tryz.func55, Tryz.ntmps55
    go_wp2_with (first | (go_at_call 85; refine htg.mono ?_; rintro e w1 ⟨T, tn, tc, rfl, hT, hb1⟩; obtain rfl : tn = 0 := by (have := hT.len; simp at this; exact this.symm)) | (go_at_call 86; refine (HL.out _ hb1).mono ?_; rintro e w2 ⟨rfl, BA', bn', bc', FA', fn', fk', FF', fm', fd', hX2, hK2, hF2⟩))
    refine bodyPost_ret (results_none rfl _ _ _) rfl ?_
    refine ⟨rfl, _, _, _, _, _, _, _, _, _, hX2, (Kp.of_below (r := blk BA) hb1).trans' hK2 (Fresh.refl _ _), ?_⟩
    rcases hF2 with h | h | ⟨k, h, h1⟩
    · exact .inl h
    · exact .inr (.inl h)
    · exact .inr (.inr ⟨k, h, Nat.le_trans hb1.size h1⟩)
  · rw [if_neg ht]
    have hv : vL cells = vertsP cells (tgtP cells) := by rw [vL, if_neg ht]
    rw [hv] at htg
    have hne : 0 < (vertsP cells (tgtP cells)).length := by
      obtain ⟨c, e, h1, h2, _⟩ := tgtP_nonneg ht
      refine List.length_pos_iff.2 fun e' => ?_
      have := vertsP_count cells (c : Int)
      rw [← e, e'] at this
      simp at this
      rw [e] at this
      omega
    have htn : (vertsP cells (tgtP cells)).length ≤ cells.length := by
      unfold vertsP vF
      rw [List.length_map]
      exact Nat.le_trans (List.length_filter_le _ _) (by simp)
    have hvn := fun (k : Nat) (h : k < (vertsP cells (tgtP cells)).length) => vertsP_nth (cells := cells) (t := tgtP cells) h
    generalize vertsP cells (tgtP cells) = vs at *
    have HVN := Lib.hid hvn
    have HC := Lib.hid hC
    have HS := Lib.hid hsub
    have HK := Lib.hid hk
    have HNr := Lib.hid hN
    clear hvn hsub hk hv ht he hG hC hN hPF
    go_enter Tryz.func55, Tryz.ntmps55
    go_wp2_with (go_at_call 85; refine htg.mono ?_; rintro e w1 ⟨T, tn, tc, rfl, hT, hb1⟩; have htl := hT.len; have hne' : ((tn : Int) == 0) = false := by (simp; omega))
    have hX1 := hX.step hb1
    have hP1 := hP.below hb1
    have hT1 := hT.more (B' := w0.heap.size + 1) hX.sb.lt
    have hK1 := Kp.of_below (pb := w0.heap.size) (r := blk BA) hb1
    clear hX hP hT htg hb1
    have hl0 : loopP (nearP n es) sub cells (vs.drop 0) s = loopP (nearP n es) sub cells vs s := by rw [List.drop_zero]
    go_loopw [20] (fun i wr => ∃ (k : Nat) (s' : St) (BA' : Option Addr) (bn bc : Nat) (FA : Option Addr) (fn fk : Nat) (FF : Option Addr) (fm fd : Nat), k ≤ tn ∧ i = .int .i64 k ∧ XS w0 wr A n c F m d N n cN BA' bn bc FA fn fk FF fm fd s' ∧ Kp w0.heap.size (blk BA) w wr ∧ Fresh BA' BA w.heap.size ∧ OI wr (w0.heap.size + 1) 2 P n cP cells ∧ OI wr (w0.heap.size + 1) 2 T tn tc vs ∧ loopP (nearP n es) sub cells (vs.drop k) s' = loopP (nearP n es) sub cells vs s ∧ s'.left ≤ s.left ∧ s'.leaves + s'.left ≤ 50000 ∧ s'.nodes + s'.left ≤ 50000 ∧ s'.best.length ≤ s'.leaves) (fun i _ => tn - (intOf i).toNat)
    case atStart => exact ⟨0, s, BA, _, _, _, _, _, _, _, _, Nat.zero_le _, rfl, hX1, hK1, Fresh.refl _ _, hP1, hT1, hl0, Nat.le_refl _, b1, b2, b3⟩
    case round =>
      clear hX1 hK1 hP1 hT1 hl0 b1 b2 b3
      clear bn bc FA fn fk FF fm fd
      obtain ⟨k, s', BA', bn, bc, FA, fn, fk, FF, fm, fd, hk, rfl, hX, hK, hF, hP, hT, hl, b0, b1, b2, b3⟩ := hrel
      by_cases hlt : k < tn
      · rw [drop_nth (by omega), loopP] at hl
        obtain ⟨q, hq, hqn⟩ := HVN.out k (by omega)
        obtain ⟨gT, rfl, cT, -, -⟩ := hT.cell hlt
        rw [hq] at cT hl
        rw [Int.toNat_natCast] at hl
        rw [hlp] at hqn
        have x0 := hX.cells.1.1
        have x1 := hX.cells.1.2.1
        cases hsp : s'.spent with
        | true =>
          rw [hsp] at x1
          rw [if_pos hsp] at hl
          go_wp2
          refine bodyPost_ret (results_none rfl _ _ _) rfl ?_
          exact ⟨rfl, _, _, _, _, _, _, _, _, _, hl ▸ hX, hK, hF⟩
        | false =>
          rw [hsp] at x1
          rw [if_neg (by rw [hsp]; simp)] at hl
          have hnd := node_any wr w0.heap.size s'.left false x0 x1 (hX.frozen 0) (hX.frozen 1) (by omega)
          by_cases hl0 : s'.left = 0
          · rw [if_pos hl0] at hl
            rw [if_pos hl0, hl0] at hnd
            go_wp2_with (go_at_call 87; refine hnd.mono ?_; rintro e w2 ⟨rfl, rfl⟩)
            refine bodyPost_ret (results_none rfl _ _ _) rfl ?_
            exact ⟨rfl, _, _, _, _, _, _, _, _, _, hl ▸ hX.spent_ true, hK.trans' (Kp.of_set (pb := w0.heap.size) (r := blk BA) 1 (.bool true)) (Fresh.refl _ _), hF⟩
          · rw [if_neg hl0] at hl
            rw [if_neg hl0, show decide (s'.left ≠ 0) = true by simp [hl0]] at hnd
            have x5 := hX.cells.2.1
            have z5 := hX.frozen 5
            have X2 := (hX.left_ (u := (s'.left : Int) - 1) (s'.left - 1) (by omega)).nodes (u := (s'.nodes : Int) + 1) (s'.nodes + 1) (by omega)
            have K2 := (Kp.of_set (pb := w0.heap.size) (r := blk BA') (w := wr) 0 (.int .i64 ((s'.left : Int) - 1))).trans' (Kp.of_set (pb := w0.heap.size) (r := blk BA') 5 (.int .i64 ((s'.nodes : Int) + 1))) (Fresh.refl _ _)
            have P2 := (hP.setLow (p := ⟨w0.heap.size, 0, none⟩) (Nat.lt_succ_self _) (.int .i64 ((s'.left : Int) - 1))).setLow (p := ⟨w0.heap.size, 5, none⟩) (Nat.lt_succ_self _) (.int .i64 ((s'.nodes : Int) + 1))
            have T2 := (hT.setLow (p := ⟨w0.heap.size, 0, none⟩) (Nat.lt_succ_self _) (.int .i64 ((s'.left : Int) - 1))).setLow (p := ⟨w0.heap.size, 5, none⟩) (Nat.lt_succ_self _) (.int .i64 ((s'.nodes : Int) + 1))
            obtain ⟨W3, hW3⟩ : ∃ W3, (wr.setCell ⟨w0.heap.size, 0, none⟩ (.int .i64 ((s'.left : Int) - 1))).setCell ⟨w0.heap.size, 5, none⟩ (.int .i64 ((s'.nodes : Int) + 1)) = W3 := ⟨_, rfl⟩
            rw [hW3] at X2 K2 P2 T2
            have K3 := hK.trans' K2 hF
            have hsz3 := hK.size
            have hmk := run_make_row' (P := Tryz.prog) 33 2 (.int .i64 0) 8 Tryz.underlying33 int_info rfl .i64 .i64 n (by omega) (by omega)
            have C4 := OI.made W3 W3.heap.size 2 n (Nat.le_refl _) (by omega)
            rw [show List.replicate n (0 : Int) = dblTo cells 0 by rw [dblTo_zero, hlp]] at C4
            have hb4 := below_alloc W3 (.cells (madeCells #[.int .i64 0] n) 2)
            have HX2 := Lib.hid X2
            have HK3 := Lib.hid K3
            have HT2 := Lib.hid T2
            clear hX hK hT hP X2 K2 K3 T2
            go_wp2_with (go_at_call 87; refine hnd.mono ?_; rintro e w2 ⟨rfl, rfl⟩)
            clear hnd hmk x0 x1 x5 z5 cT
            go_loopw [48] (fun i wi => ∃ (j : Nat), j ≤ n ∧ i = .int .i64 j ∧ OI wi W3.heap.size 2 (some ⟨W3.heap.size, 0, none⟩) n n (dblTo cells j) ∧ Below W3.heap.size W3 wi) (fun i _ => n - (intOf i).toNat)
            case atStart => exact ⟨0, Nat.zero_le _, rfl, C4, hb4⟩
            case round =>
              clear C4 hb4
              obtain ⟨j, hj, rfl, hCh, hbw⟩ := hrel
              by_cases hjn : j < n
              · obtain ⟨gP, rfl, cPj, -, -⟩ := (P2.below hbw).cell hjn
                have hbd := HC.out.bd j hjn
                have hst := Lib.hid (dblTo_step (cells := cells) (k := j) (by omega))
                obtain ⟨g', hg', cc, cf, -⟩ := hCh.cell hjn
                cases hg'
                have hC2 := hCh.set j (u := 2 * nth cells j + 1) ⟨by omega, by omega⟩
                have hbw2 := Below.setCell hbw (p := ⟨W3.heap.size, j, none⟩) (Nat.le_refl _) (.int .i64 (2 * nth cells j + 1))
                rw [hst.out] at hC2
                generalize nth cells j = z at *
                clear hCh hbw
                go_wp2
                go_roundw
                case rel => exact ⟨j + 1, by omega, by go_num, hC2, hbw2⟩
                case measure => simp [intOf]; omega
              · obtain rfl : j = n := by omega
                rw [show dblTo cells j = cells.map fun c => 2 * c + 1 by rw [← hlp]; exact dblTo_all cells] at hCh
                have hbd := HC.out.bd q hqn
                obtain ⟨g', hg', cc, cf, -⟩ := hCh.cell hqn
                cases hg'
                rw [show nth (cells.map fun c => 2 * c + 1) q = 2 * nth cells q + 1 by rw [nth_get (by simp; omega), nth_get (by omega)]; simp] at cc
                have C5 := hCh.set q (u := 2 * nth cells q) ⟨by omega, by omega⟩
                rw [show (cells.map fun c => 2 * c + 1).set q (2 * nth cells q) = splitP cells q from rfl] at C5
                have hb5 := Below.setCell hbw (p := ⟨W3.heap.size, q, none⟩) (Nat.le_refl _) (.int .i64 (2 * nth cells q))
                obtain ⟨W5, hW5⟩ : ∃ W5, World.setCell wr ⟨W3.heap.size, q, none⟩ (.int .i64 (2 * nth cells q)) = W5 := ⟨_, rfl⟩
                rw [hW5] at C5 hb5
                have X5 := HX2.out.step hb5
                have P5 := P2.below hb5
                have T5 := HT2.out.below hb5
                have K5 := HK3.out.trans' (Kp.of_below (pb := w0.heap.size) (r := blk BA) hb5) (Fresh.refl _ _)
                have x4 := X5.cells.1.2.2.2.2
                have hrf := refine_any N j cN (nearP j es) (some ⟨W3.heap.size, 0, none⟩) j (splitP cells q) W5 (HNr.out.keep X5.sb.b) C5.reads hn (nearP_nears j es)
                have hcl : Cells j (refP (nearP j es) (splitP cells q)) := by have := refP_cells (nearP j es) (splitP cells q); rwa [splitP_len, hlp] at this
                have hsb5 := X5.sb.lt
                have HX5 := Lib.hid X5
                have HP5 := Lib.hid P5
                have HT5 := Lib.hid T5
                have HK5 := Lib.hid K5
                generalize nth cells q = z at *
                clear hCh hbw C5 hb5 X5 P5 T5 K5 P2
                have hcall := fun (w6 : World) (A6 : Option Addr) (c6 : Nat) (hb6 : Below W5.heap.size W5 w6) (ho6 : OI w6 W5.heap.size 2 A6 j c6 (refP (nearP j es) (splitP cells q))) => HS.out w6 BA' A6 c6 { s' with left := s'.left - 1, nodes := s'.nodes + 1 } (refP (nearP j es) (splitP cells q)) (by show s'.left - 1 < s.left; omega) ⟨⟨_, _, _, _, _, _, _, _, HX5.out.step hb6, far_of_old ho6 HX5.out.sb.fc (Nat.le_refl _)⟩, ho6.more hsb5, hcl, by show s'.leaves + (s'.left - 1) ≤ 50000; omega, by show s'.nodes + 1 + (s'.left - 1) ≤ 50000; omega, b3⟩
                have HCa := Lib.hid hcall
                clear hcall
                go_wp2_with (first | (go_at_call 56; refine hrf.mono ?_; rintro e w6 ⟨A6, n6, c6, rfl, ho6, hb6⟩; obtain rfl : n6 = j := by (rw [← ho6.len, hcl.len])) | (go_at_call 55; refine (HCa.out _ _ _ hb6 ho6).mono ?_; rintro e w7 ⟨rfl, BA7, bn7, bc7, FA7, fn7, fk7, FF7, fm7, fd7, hX7, hK7, hF7⟩))
                have X6 := HX5.out.step hb6
                have P6 := HP5.out.below hb6
                have T6 := HT5.out.below hb6
                obtain ⟨vs6, hv6, -⟩ := X6.sb.best
                have P7 := P6.kp hK7 (OS.typed' P6.os X6.x (by decide)) (OS.typed P6.os hv6.os (by decide))
                have T7 := T6.kp hK7 (OS.typed' T6.os X6.x (by decide)) (OS.typed T6.os hv6.os (by decide))
                have K6 := HK5.out.trans' (Kp.of_below (pb := w0.heap.size) (r := blk BA) hb6) (Fresh.refl _ _)
                have K7 := K6.trans' hK7 hF
                have F7 := hF.trans hF7 K6.size
                have kk := HK.out { s' with left := s'.left - 1, nodes := s'.nodes + 1 } _ (by show s'.left - 1 < s.left; omega) hcl
                have k1 := kk.left
                have k2 := kk.cnt
                have k3 := kk.nodes
                have k4 := kk.best
                dsimp only at k1 k2 k3 k4
                clear kk X6 P6 T6 hv6 K6 hK7 hF7
                go_roundw
                case rel => exact ⟨k + 1, _, BA7, _, _, _, _, _, _, _, _, by omega, by go_num, hX7, K7, F7, P7, T7, hl, by omega, by omega, by omega, by omega⟩
                case measure => simp [intOf]; omega
      · obtain rfl : k = tn := by omega
        rw [List.drop_eq_nil_of_le (by omega), loopP] at hl
        go_wp2
        refine bodyPost_ret (results_none rfl _ _ _) rfl ?_
        exact ⟨rfl, _, _, _, _, _, _, _, _, _, hl ▸ hX, hK, hF⟩
end Go.Proofs.YtncknfhfkmmhbaaGreat
