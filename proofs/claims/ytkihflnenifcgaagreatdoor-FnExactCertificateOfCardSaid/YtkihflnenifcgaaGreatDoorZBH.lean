/- (*spec.l22Find).run, one step of the search. No condition beyond those stated. -/
import Derived.Test.YtkihflnenifcgaaGreatDoorZBF
import Derived.Test.YtkihflnenifcgaaGreatDoorZBG
import Derived.Test.YtkihflnenifcgaaGreatDoorZAH
import Derived.Test.YtkihflnenifcgaaGreatDoorZAC
import Derived.Test.YtkihflnenifcgaaGreatDoorZAT
import Derived.Test.YtkihflnenifcgaaGreatDoorZAK
set_option linter.unusedVariables false
set_option linter.unusedSimpArgs false
namespace Go.Proofs.YtkihflnenifcgaaGreatDoor
open Go.RowKit

/-- what the reference's search asks for -/
structure AskF (w0 w : World) (A : Option Addr) (n c : Nat) (F : Option Addr) (m d : Nat) (N : Option Addr) (cN : Nat) (BA : Option Addr) (P : Option Addr) (cP : Nat) (s : St) (cells : List Int) : Prop where
  x : ∃ bn bc FA fn fk FF fm fd, RFd w0 w A n c F m d N n cN BA bn bc FA fn fk FF fm fd s
  p : OI w (w0.heap.size + 1) 2 P n cP cells
  cl : Cells n cells
  leaves : s.leaves + s.left ≤ 50000
  nodes : s.nodes + s.left ≤ 50000
  best : s.best.length ≤ s.leaves
theorem spent_eta {s : St} (h : s.spent = true) : { s with spent := true } = s := by
  cases s
  simp only at h
  subst h
  rfl
theorem split_take {cells : List Int} {k j : Nat} (hj : j < cells.length) {x : Int} (hx : (if j = k then 2 * nth cells k else 2 * nth cells j + 1) = x) : (splitP cells k).take j ++ [x] = (splitP cells k).take (j + 1) := by
  rw [List.take_succ_eq_append_getElem (by rw [splitP_len]; exact hj), ← nth_get, splitP_nth hj, hx]
set_option maxRecDepth 100000 in
set_option maxHeartbeats 4000000 in
theorem run_step (w0 w : World) (A : Option Addr) (n c : Nat) (F : Option Addr) (m d : Nat) (cs : List Int) (es : List Ed) (N : Option Addr) (cN : Nat) (BA P : Option Addr) (cP : Nat) (s : St) (cells : List Int) (sub : St → List Int → St)
    (hG : RG w0 A n F m cs es) (hN : RR w0 N n (nearP n es)) (hn : n ≤ 4096) (hm : m ≤ 1048576) (he : EdgesOk n es) (hA : AskF w0 w A n c F m d N cN BA P cP s cells)
    (hsub : ∀ (w' : World) (BA' P' : Option Addr) (cP' : Nat) (s' : St) (cells' : List Int), s'.left < s.left → AskF w0 w' A n c F m d N cN BA' P' cP' s' cells' → Calls Tryz.prog 92 #[.pointer (some ⟨w0.heap.size, 0, none⟩), .slice P' n cP'] w' (RetRF w0 w' A n c F m d N n cN BA' (sub s' cells')))
    (hk : ∀ (s' : St) (cells' : List Int), s'.left < s.left → Cells n cells' → Kept1 n s' (sub s' cells')) :
    Calls Tryz.prog 92 #[.pointer (some ⟨w0.heap.size, 0, none⟩), .slice P n cP] w (RetRF w0 w A n c F m d N n cN BA (if tgtP cells < 0 then leafP cs es s cells else loopP (nearP n es) sub cells (vertsP cells (tgtP cells)) s)) := by
  obtain ⟨⟨bn, bc, FA, fn, fk, FF, fm, fd, hX⟩, hP, hC, b1, b2, b3⟩ := hA
  have hlp := hP.len
  by_cases ht : tgtP cells < 0
  · rw [if_pos ht]
    exact runLeaf_any w0 w A n c F m d cs es N n cN BA bn bc FA fn fk FF fm fd s P cP cells hG hX hP hC ht hn hm he (by omega) (by omega)
  · rw [if_neg ht]
    have htg := l22Target_any P n cP cells w hP.reads (by omega) hC
    have ht' : decide (tgtP cells < 0) = false := by simpa using ht
    have HC := Lib.hid hC
    have HS := Lib.hid hsub
    have HK := Lib.hid hk
    have HNr := Lib.hid hN
    have HPs := Lib.hid hP
    have HXs := Lib.hid hX
    generalize tgtP cells = tg at *
    clear hsub hk he hG hC hN hP hX ht
    go_enter Tryz.func92, Tryz.ntmps92
    go_wp2_with fail
    refine htg.mono ?_
    rintro e w1 ⟨rfl, hd1⟩
    have hX1 := HXs.out.step hd1.below
    have hP1 := HPs.out.below hd1.below
    have hK1 := Kp.of_below (pb := w0.heap.size) (r := blk BA) hd1.below
    clear htg hd1
    have hl0 : loopP (nearP n es) sub cells (vF cells tg 0) s = loopP (nearP n es) sub cells (vertsP cells tg) s := rfl
    go_wp2
    go_loopw [7] (fun i wr => ∃ (k : Nat) (s' : St) (BA' : Option Addr) (bn bc : Nat) (FA : Option Addr) (fn fk : Nat) (FF : Option Addr) (fm fd : Nat), k ≤ n ∧ i = .int .i64 k ∧ RFd w0 wr A n c F m d N n cN BA' bn bc FA fn fk FF fm fd s' ∧ Kp w0.heap.size (blk BA) w wr ∧ Fresh BA' BA w.heap.size ∧ OI wr (w0.heap.size + 1) 2 P n cP cells ∧ loopP (nearP n es) sub cells (vF cells tg k) s' = loopP (nearP n es) sub cells (vertsP cells tg) s ∧ s'.left ≤ s.left ∧ s'.leaves + s'.left ≤ 50000 ∧ s'.nodes + s'.left ≤ 50000 ∧ s'.best.length ≤ s'.leaves) (fun i _ => n - (intOf i).toNat)
    case atStart => exact ⟨0, s, BA, _, _, _, _, _, _, _, _, Nat.zero_le _, rfl, hX1, hK1, Fresh.refl _ _, hP1, hl0, Nat.le_refl _, b1, b2, b3⟩
    case round =>
      clear hX1 hK1 hP1 hl0 b1 b2 b3 HXs HPs
      clear bn bc FA fn fk FF fm fd
      obtain ⟨k, s', BA', bn, bc, FA, fn, fk, FF, fm, fd, hk, rfl, hX, hK, hF, hP, hl, b0, b1, b2, b3⟩ := hrel
      by_cases hlt : k < n
      · rw [vF_step cells tg (by omega)] at hl
        obtain ⟨gP, rfl, cP0, -, -⟩ := hP.cell hlt
        by_cases heq : nth cells k = tg
        · rw [if_pos heq, loopP] at hl
          have heq' : (nth cells k != tg) = false := by simp [heq]
          have x4 := hX.cells.2.2.1
          have x6 := hX.cells.2.2.2.2.1
          have x7 := hX.cells.2.2.2.2.2
          have z7 := hX.frozen 9
          rw [heq] at cP0
          have heq2 : (tg != tg) = false := by simp
          clear heq heq'
          by_cases hl0 : s'.left = 0
          · have hfin : { s' with spent := true } = loopP (nearP n es) sub cells (vertsP cells tg) s := by
              rw [← hl]
              split
              · rename_i h; exact spent_eta h
              · first | rfl | rw [if_pos hl0]
            have hXf := hX.spent_ true
            rw [hfin] at hXf
            rw [hl0, Nat.add_zero] at x6
            have HXf := Lib.hid hXf
            have HKf := Lib.hid (hK.trans' (Kp.of_set (pb := w0.heap.size) (r := blk BA) 9 (.bool true)) (Fresh.refl _ _))
            have heqn : ((s'.nodes : Int) == (s'.nodes : Int)) = true := by simp
            clear hXf hfin hl
            go_wp2
            go_quiet (fail)
            go_wp2
            refine bodyPost_ret (results_none rfl _ _ _) rfl ?_
            exact ⟨rfl, _, _, _, _, _, _, _, _, _, HXf.out.step (below_drewn _ _), HKf.out.trans' (Kp.of_below (r := blk BA) (below_drewn _ _)) (Fresh.refl _ _), hF⟩
          · have hneq : ((s'.nodes : Int) == ((s'.nodes + s'.left : Nat) : Int)) = false := by simp; omega
            cases hsp : s'.spent with
            | true =>
              rw [hsp] at x7
              rw [if_pos hsp] at hl
              generalize s'.nodes + s'.left = bg at *
              have HX := Lib.hid hX
              have HKf := Lib.hid hK
              have HL2 := Lib.hid hl
              clear hX hK hl
              go_wp2
              go_quiet (fail)
              go_wp2
              refine bodyPost_ret (results_none rfl _ _ _) rfl ?_
              exact ⟨rfl, _, _, _, _, _, _, _, _, _, (HL2.out ▸ HX.out).step (below_drewn _ _), HKf.out.trans' (Kp.of_below (r := blk BA) (below_drewn _ _)) (Fresh.refl _ _), hF⟩
            | false =>
              rw [hsp] at x7
              rw [if_neg (by rw [hsp]; simp), if_neg hl0] at hl
              have HXr := Lib.hid hX
              have HKr := Lib.hid hK
              have HPr := Lib.hid hP
              have HLr := Lib.hid hl
              have hnn : s'.nodes ≤ 50000 := by omega
              clear hX hK hP hl
              generalize hbg : s'.nodes + s'.left = bg at *
              have HBG := Lib.hid hbg
              clear hbg
              go_wp2
              go_quiet (fail)
              have HXq := Lib.hid (HXr.out.step (below_drewn wr nq))
              have HKq := Lib.hid (HKr.out.trans' (Kp.of_below (r := blk BA) (below_drewn wr nq)) (Fresh.refl _ _))
              have HPq := Lib.hid (HPr.out.below (below_drewn wr nq))
              clear HXr HKr HPr x4 x6 x7 z7 cP0
              generalize wr.drewN nq = wq at *
              have x4 := HXq.out.cells.2.2.1
              have x7 := HXq.out.cells.2.2.2.2.2
              rw [hsp] at x7
              have z4 := HXq.out.frozen 6
              have X2 := HXq.out.nodes (u := (s'.nodes : Int) + 1) (by simp) hl0
              have K2 := HKq.out.trans' (Kp.of_set (pb := w0.heap.size) (r := blk BA') 6 (.int .i64 ((s'.nodes : Int) + 1))) hF
              have P2 := HPq.out.setLow (p := ⟨w0.heap.size, 6, none⟩) (Nat.lt_succ_self _) (.int .i64 ((s'.nodes : Int) + 1))
              obtain ⟨W3, hW3⟩ : ∃ W3, wq.setCell ⟨w0.heap.size, 6, none⟩ (.int .i64 ((s'.nodes : Int) + 1)) = W3 := ⟨_, rfl⟩
              rw [hW3] at X2 K2 P2
              have HX2 := Lib.hid X2
              have HK2 := Lib.hid K2
              have C4 : OI (W3.alloc (.cells #[] 2)) W3.heap.size 2 (some ⟨W3.heap.size, 0, none⟩) 0 0 ((splitP cells k).take 0) := OI.lit W3 W3.heap.size 2 [] (Nat.le_refl _) (by simp) All64.nil_
              have hb4 := below_alloc W3 (.cells #[] 2)
              clear X2 K2 HXq HKq HPq
              go_wp2
              clear x4 x7 z4 hW3 hneq heq2
              go_loopw [8, 9, 10] (fun v i _ wi => ∃ (j : Nat) (V : Option Addr) (e : Nat), j ≤ n ∧ i = .int .i64 j ∧ v = .slice V j e ∧ OI wi W3.heap.size 2 V j e ((splitP cells k).take j) ∧ Below W3.heap.size W3 wi) (fun _ i _ _ => n - (intOf i).toNat)
              case atStart => exact ⟨0, _, _, Nat.zero_le _, rfl, rfl, C4, hb4⟩
              case round =>
                clear C4 hb4
                obtain ⟨j, V, e, hj, rfl, rfl, hV, hbw⟩ := hrel
                by_cases hjn : j < n
                · obtain ⟨gP', hgP, cPj, -, -⟩ := (P2.below hbw).cell hjn
                  cases hgP
                  have hbd := HC.out.bd j hjn
                  by_cases hjk : j = k
                  · subst hjk
                    have hst := Lib.hid (split_take (cells := cells) (k := j) (j := j) (by omega) (x := 2 * nth cells j) (by rw [if_pos rfl]))
                    have hjj : ((j : Int) == (j : Int)) = true := by simp
                    generalize nth cells j = z at *
                    go_wp2_with (at_builtin; refine app_int _ rfl _ _ rfl W3.heap.size V j e _ rfl hV (2 * z) _ rfl (by simp) ⟨by omega, by omega⟩ (by omega) hbw.size ?_; intro A' c' w3 ho3 hg3 hn3)
                    have hb3 := below_own hbw hg3 hbw.size (fun b hb => (hV.os.lt hb).1)
                    rw [hst.out] at ho3
                    clear hV hbw hg3 hn3 cPj
                    go_roundw
                    case rel => exact ⟨j + 1, _, _, by omega, by go_num, rfl, ho3, hb3⟩
                    case measure => simp [intOf]; omega
                  · have hst := Lib.hid (split_take (cells := cells) (k := k) (j := j) (by omega) (x := 2 * nth cells j + 1) (by rw [if_neg hjk]))
                    have hjj : ((j : Int) == (k : Int)) = false := by simp; omega
                    generalize nth cells j = z at *
                    clear hjk
                    go_wp2_with (at_builtin; refine app_int _ rfl _ _ rfl W3.heap.size V j e _ rfl hV (2 * z + 1) _ rfl (by simp) ⟨by omega, by omega⟩ (by omega) hbw.size ?_; intro A' c' w3 ho3 hg3 hn3)
                    have hb3 := below_own hbw hg3 hbw.size (fun b hb => (hV.os.lt hb).1)
                    rw [hst.out] at ho3
                    clear hV hbw hg3 hn3 cPj
                    go_roundw
                    case rel => exact ⟨j + 1, _, _, by omega, by go_num, rfl, ho3, hb3⟩
                    case measure => simp [intOf]; omega
                · obtain rfl : j = n := by omega
                  rw [List.take_of_length_le (by rw [splitP_len, hlp]; exact Nat.le_refl _)] at hV
                  have X5 := HX2.out.step hbw
                  have P5 := P2.below hbw
                  have K5 := HK2.out.trans' (Kp.of_below (pb := w0.heap.size) (r := blk BA) hbw) (Fresh.refl _ _)
                  have x2 := X5.cells.1.2.2.1
                  have hcl : Cells j (refP (nearP j es) (splitP cells k)) := by have := refP_cells (nearP j es) (splitP cells k); rwa [splitP_len, hlp] at this
                  have hrf := fun (W' : World) (hb : Below wr.heap.size wr W') => l21Refine_any N j cN (nearP j es) V e (splitP cells k) W' ((HNr.out.keep X5.sb.b).keep hb) (hV.reads.keep hb) hn (nearP_nears j es)
                  have HRF := Lib.hid hrf
                  have hsb5 := X5.sb.lt
                  have HX5 := Lib.hid X5
                  have HP5 := Lib.hid P5
                  have HK5 := Lib.hid K5
                  have hcall := fun (w6 : World) (A6 : Option Addr) (c6 : Nat) (hb6 : Below wr.heap.size wr w6) (ho6 : OI w6 wr.heap.size 2 A6 j c6 (refP (nearP j es) (splitP cells k))) => HS.out w6 BA' A6 c6 { s' with left := s'.left - 1, nodes := s'.nodes + 1 } (refP (nearP j es) (splitP cells k)) (by show s'.left - 1 < s.left; omega) ⟨⟨_, _, _, _, _, _, _, _, HX5.out.step hb6⟩, ho6.more hsb5, hcl, by show s'.leaves + (s'.left - 1) ≤ 50000; omega, by show s'.nodes + 1 + (s'.left - 1) ≤ 50000; have := HBG.out; omega, b3⟩
                  have HCa := Lib.hid hcall
                  have HCL := Lib.hid hcl
                  clear hcall hrf X5 P5 K5 hcl hV hbw P2 HX2 HK2
                  go_wp2_with (first | (go_at_call 93; refine (HRF.out _ (Below.refl _ _)).mono ?_; rintro e w6 ⟨A6, n6, c6, rfl, ho6, hb6⟩; obtain rfl : n6 = j := by (rw [← ho6.len, HCL.out.len])) | (go_at_call 92; refine (HCa.out _ _ _ hb6 ho6).mono ?_; rintro e w7 ⟨rfl, BA7, bn7, bc7, FA7, fn7, fk7, FF7, fm7, fd7, hX7, hK7, hF7⟩))
                  have X6 := HX5.out.step hb6
                  have P6 := HP5.out.below hb6
                  obtain ⟨vs6, hv6, -⟩ := X6.sb.best
                  have P7 := P6.kp hK7 (OS.typed' P6.os X6.x (by decide)) (OS.typed P6.os hv6.os (by decide))
                  have K6 := HK5.out.trans' (Kp.of_below (pb := w0.heap.size) (r := blk BA) hb6) (Fresh.refl _ _)
                  have K7 := K6.trans' hK7 hF
                  have F7 := hF.trans hF7 K6.size
                  have kk := HK.out { s' with left := s'.left - 1, nodes := s'.nodes + 1 } _ (by show s'.left - 1 < s.left; omega) HCL.out
                  have k1 := kk.left
                  have k2 := kk.cnt
                  have k3 := kk.nodes
                  have k4 := kk.best
                  have k5 := HBG.out
                  dsimp only at k1 k2 k3 k4
                  clear kk X6 P6 hv6 K6 hK7 hF7
                  go_roundw
                  case rel => exact ⟨k + 1, _, BA7, _, _, _, _, _, _, _, _, by omega, by go_num, hX7, K7, F7, P7, HLr.out, by omega, by omega, by omega, by omega⟩
                  case measure => simp [intOf]; omega
        · have hne : (nth cells k != tg) = true := by simp [heq]
          rw [if_neg heq] at hl
          have HX := Lib.hid hX
          have HP := Lib.hid hP
          have HK2 := Lib.hid hK
          have HL2 := Lib.hid hl
          clear heq hX hP hK hl
          generalize nth cells k = z at *
          go_wp2
          go_roundw
          case rel => exact ⟨k + 1, s', BA', _, _, _, _, _, _, _, _, by omega, by go_num, HX.out, HK2.out, hF, HP.out, HL2.out, b0, b1, b2, b3⟩
          case measure => simp [intOf]; omega
      · obtain rfl : k = n := by omega
        rw [show vF cells tg k = [] by rw [← hlp]; exact vF_end cells tg, loopP] at hl
        go_wp2
        refine bodyPost_ret (results_none rfl _ _ _) rfl ?_
        exact ⟨rfl, _, _, _, _, _, _, _, _, _, hl ▸ hX, hK, hF⟩
theorem run_any (w0 : World) (A : Option Addr) (n c : Nat) (F : Option Addr) (m d : Nat) (cs : List Int) (es : List Ed) (N : Option Addr) (cN : Nat)
    (hG : RG w0 A n F m cs es) (hN : RR w0 N n (nearP n es)) (hn : n ≤ 4096) (hm : m ≤ 1048576) (he : EdgesOk n es) : ∀ (f : Nat) (w : World) (BA P : Option Addr) (cP : Nat) (s : St) (cells : List Int), s.left ≤ f → AskF w0 w A n c F m d N cN BA P cP s cells →
    Calls Tryz.prog 92 #[.pointer (some ⟨w0.heap.size, 0, none⟩), .slice P n cP] w (RetRF w0 w A n c F m d N n cN BA (searchP cs es (nearP n es) f s cells))
  | 0, w, BA, P, cP, s, cells, hl, hA => by
    rw [searchP]
    exact run_step w0 w A n c F m d cs es N cN BA P cP s cells (fun s _ => s) hG hN hn hm he hA (fun w' BA' P' cP' s' cells' h _ => absurd h (by omega)) (fun s' cells' h _ => absurd h (by omega))
  | f + 1, w, BA, P, cP, s, cells, hl, hA => by
    rw [searchP]
    exact run_step w0 w A n c F m d cs es N cN BA P cP s cells (searchP cs es (nearP n es) f) hG hN hn hm he hA (fun w' BA' P' cP' s' cells' h h' => run_any w0 A n c F m d cs es N cN hG hN hn hm he f w' BA' P' cP' s' cells' (by omega) h') (fun s' cells' h h' => searchP_kept cs es (nearP n es) f s' cells' (by omega) h')
end Go.Proofs.YtkihflnenifcgaaGreatDoor
/- Whether a budget is one, both sides. No condition beyond those stated. -/
namespace Go.Proofs.YtkihflnenifcgaaGreatDoor
open Go.RowKit

theorem isBudget_any (b : Int) (w : World) : Calls Tryz.prog 44 #[.int .i64 b] w (fun e w' => e = .returned (.bool (inB b 1 20000)) ∧ w = w') := by
  go_enter Tryz.func44, Tryz.ntmps44
  go_wp2_with (go_at_call 57; refine (within_any _ _ _ _).mono ?_; rintro e w' ⟨rfl, rfl⟩)
  go_ret
  exact ⟨rfl, rfl⟩
theorem l09Budget_any (b : Int) (w : World) : Calls Tryz.prog 62 #[.int .i64 b] w (fun e w' => e = .returned (.bool (inB b 1 20000)) ∧ w = w') := by
  go_enter Tryz.func62, Tryz.ntmps62
  go_wp2_with (go_at_call 89; refine (l00In_any _ _ _ _).mono ?_; rintro e w' ⟨rfl, rfl⟩)
  go_ret
  exact ⟨rfl, rfl⟩
end Go.Proofs.YtkihflnenifcgaaGreatDoor
/- spec.l22Search and spec.l22Start. No condition beyond those stated. -/
namespace Go.Proofs.YtkihflnenifcgaaGreatDoor
open Go.RowKit

/-- what the reference's search of a valid graph hands back -/
def RetQ (w : World) (A : Option Addr) (n c : Nat) (F : Option Addr) (m d : Nat) (s : St) (e : Ending) (w' : World) : Prop :=
  ∃ w0 : World, e = .returned (.pointer (some ⟨w0.heap.size, 0, none⟩)) ∧ Below w.heap.size w w0 ∧ ∃ N cN BA bn bc FA fn fk FF fm fd, RFd w0 w' A n c F m d N n cN BA bn bc FA fn fk FF fm fd s
set_option maxRecDepth 100000 in
set_option maxHeartbeats 4000000 in
theorem l22Search_any (w : World) (A : Option Addr) (n c : Nat) (F : Option Addr) (m d : Nat) (cs : List Int) (es : List Ed) (b0 : Nat) (hG : RG w A n F m cs es) (hn : n ≤ 4096) (hm : m ≤ 1048576) (hed : EdgesOk n es) (hb20 : b0 ≤ 20000) :
    Calls Tryz.prog 63 #[.agg #[.slice A n c, .slice F m d], .int .i64 (b0 : Int)] w (RetQ w A n c F m d (runP cs es b0)) := by
  have hb1 := below_alloc w (.cells #[.slice A n c, .slice F m d] 27)
  have X := Blk.new w 27 #[.slice A n c, .slice F m d]
  obtain ⟨ii, hi, hi0, hi1, hi2⟩ := info_parts graph_info
  have hG1 := hG.keep hb1
  have hcl := hG.ri.len
  generalize hW1 : w.alloc (.cells #[.slice A n c, .slice F m d] 27) = W1 at *
  obtain ⟨x0, x1⟩ := X.cells2
  have hnb := fun (W' : World) (hb : Below W1.heap.size W1 W') => l21Near_any A n c F m d cs es W' (hG1.keep hb) (by omega) (by omega) hed.inn
  have HNB := Lib.hid hnb
  have HED := Lib.hid hed
  have HCL := Lib.hid hcl
  clear hnb hed hcl
  go_enter Tryz.func63, Tryz.ntmps63
  go_wp2
  go_region_held_law (fun w' => Below W1.heap.size W1 w' ∧ w'.cell? ⟨w.heap.size, 0, none⟩ = some (.slice A n c) ∧ w'.cell? ⟨w.heap.size, 1, none⟩ = some (.slice F m d))
    (first | exact ⟨below_drewn _ 1, x0, x1⟩ | exact ⟨by assumption, below_cell (by assumption) x0, below_cell (by assumption) x1⟩ | exact ⟨hX3.trans ((below_alloc _ _).mono hX3.size), below_cell (hX3.trans ((below_alloc _ _).mono hX3.size)) x0, below_cell (hX3.trans ((below_alloc _ _).mono hX3.size)) x1⟩)
    (first | (go_at_call 91; (with_reducible refine (HNB.out _ ?_).mono ?_); (exact below_drewn _ 1); rintro e w3 ⟨N, nn, cN, rfl, hN, hb3⟩; have hX3 : Below W1.heap.size W1 w3 := (below_drewn _ 1).trans (hb3.mono (Nat.le_refl _))))
  obtain rfl : nn = n := by rw [← hN.len, nearP_len]
  have hw3 : Below w.heap.size w w3 := hb1.trans (hX3.mono hb1.size)
  have XB := Blk.new w3 76 #[.slice A nn c, .slice F m d, .slice N nn cN, .slice none 0 0, .slice none 0 0, .slice none 0 0, .int .i64 0, .int .i64 0, .int .i64 ((0 + b0 : Nat) : Int), .bool false]
  rw [Nat.zero_add] at XB
  have X0 : RFd w3 _ A nn c F m d N nn cN none 0 0 none 0 0 none 0 0 ⟨b0, false, 0, 0, [], [], []⟩ := ⟨by unfold fcells; rw [show (⟨b0, false, 0, 0, [], [], []⟩ : St).nodes + (⟨b0, false, 0, 0, [], [], []⟩ : St).left = b0 by simp]; exact XB, below_alloc w3 _, by simp, ⟨[], BV.nil_ _ _, Afar.nil_ _⟩, OI.nil_ _ _ _, OE.nil_ _ _ _, by simp, by simp⟩
  have hG3 := hG1.keep hX3
  have hN3 := hN.reads
  have HRF := Lib.hid (fun (W' : World) (hb : Below w3.heap.size w3 W') => l21Refine_any N nn cN (nearP nn es) A c cs W' (hN3.keep hb) (hG3.ri.keep hb) (by omega) (nearP_nears nn es))
  have y4 := X0.cells.1.2.2.1
  have bX := below_alloc w3 (.cells #[.slice A nn c, .slice F m d, .slice N nn cN, .slice none 0 0, .slice none 0 0, .slice none 0 0, .int .i64 0, .int .i64 0, .int .i64 (b0 : Int), .bool false] 76)
  have y0 := below_cell (hX3.trans (bX.mono hX3.size)) x0
  have HX0 := Lib.hid X0
  have hs3 := hw3.size
  clear X0 XB
  have HS := Lib.hid (run_any w3 A nn c F m d cs es N cN hG3 hN3 (by omega) (by omega) HED.out)
  go_wp2
  generalize hW4 : w3.alloc _ = W4 at *
  have hr4 : Below w3.heap.size w3 W4.drew := bX.trans (below_drewn' _ _ 1)
  have z0 := below_cell hX3 x0
  have hl4 : W4.heap.size = w3.heap.size + 1 := by rw [← hW4]; simp
  have hcall := fun (w5 : World) (A5 : Option Addr) (n5 c5 : Nat) (hX5 : Below W4.heap.size W4 w5) (hn5 : n5 = nn) (ho5 : OI w5 W4.drew.heap.size 2 A5 n5 c5 (refP (nearP nn es) cs)) => (show Calls Tryz.prog 92 #[.pointer (some ⟨w3.heap.size, 0, none⟩), .slice A5 n5 c5] w5 (RetRF w3 w5 A nn c F m d N nn cN none (runP cs es b0)) by
    subst hn5
    have h1 := HS.out b0 w5 none A5 c5 ⟨b0, false, 0, 0, [], [], []⟩ (refP (nearP n5 es) cs) (Nat.le_refl _) ⟨⟨_, _, _, _, _, _, _, _, HX0.out.step hX5⟩, ho5.more (by show w3.heap.size + 1 ≤ W4.heap.size; omega), by (have := refP_cells (nearP n5 es) cs; rwa [HCL.out] at this), by simp; omega, by simp; omega, by simp⟩
    rw [runP, HCL.out]
    exact h1)
  have HCa := Lib.hid hcall
  clear hcall
  go_region_held_law (fun w' => Below w3.heap.size w3 w' ∧ w'.cell? ⟨w3.heap.size, 2, none⟩ = some (.slice N nn cN) ∧ w'.cell? ⟨w.heap.size, 0, none⟩ = some (.slice A nn c))
    (first | exact ⟨hr4, y4, y0⟩ | exact ⟨bX.trans (hX5.mono bX.size), below_cell hX5 y4, below_cell hX5 y0⟩ | exact ⟨hX6.sb.b, hX6.cells.1.2.2.1, below_cell hX6.sb.b z0⟩)
    (first
      | (go_at_call 93; (with_reducible refine (HRF.out _ ?_).mono ?_); (exact hr4); rintro e w5 ⟨A5, n5, c5, rfl, ho5, hb5⟩; have hX5 : Below W4.heap.size W4 w5 := (below_drewn _ 1).trans (hb5.mono (Nat.le_refl _)))
      | (go_at_call 92; (with_reducible refine (HCa.out _ _ _ _ ?_ ?_ ?_).mono ?_); (exact hX5); (rw [← ho5.len, (refP_cells _ _).len]; exact HCL.out); (exact ho5); rintro e w6 ⟨rfl, BA6, bn6, bc6, FA6, fn6, fk6, FF6, fm6, fd6, hX6, hK6, hF6⟩))
  go_wp2
  go_ret
  exact ⟨w3, rfl, hw3, _, _, _, _, _, _, _, _, _, _, _, hX6⟩
/-- the code of a search -/
noncomputable def codeP (cs : List Int) (es : List Ed) (b : Int) : Int := if tB (GraphOk cs es) = false then 1 else if inB b 1 20000 = false then 2 else if (runP cs es b.toNat).spent then 5 else 0
/-- what the reference's start hands back -/
def RetT (w : World) (A : Option Addr) (n c : Nat) (F : Option Addr) (m d : Nat) (cs : List Int) (es : List Ed) (b : Int) (e : Ending) (w' : World) : Prop :=
  Below w.heap.size w w' ∧ ∃ v, e = .returned (.tuple #[.pointer v, .int .i64 (codeP cs es b)]) ∧ (codeP cs es b = 0 → ∃ w0 : World, v = some ⟨w0.heap.size, 0, none⟩ ∧ Below w.heap.size w w0 ∧ (runP cs es b.toNat).spent = false ∧ GraphOk cs es ∧ b.toNat ≤ 20000 ∧
    ∃ N cN BA bn bc FA fn fk FF fm fd, RFd w0 w' A n c F m d N n cN BA bn bc FA fn fk FF fm fd (runP cs es b.toNat))
set_option maxRecDepth 100000 in
set_option maxHeartbeats 4000000 in
theorem l22Start_any (w : World) (A : Option Addr) (n c : Nat) (F : Option Addr) (m d : Nat) (cs : List Int) (es : List Ed) (b : Int) (hG : RG w A n F m cs es) (hn : n ≤ 9223372036854775807) (hm : m ≤ 9223372036854775807) :
    Calls Tryz.prog 33 #[.agg #[.slice A n c, .slice F m d], .int .i64 b] w (RetT w A n c F m d cs es b) := by
  have hb1 := below_alloc w (.cells #[.slice A n c, .slice F m d] 27)
  have X := Blk.new w 27 #[.slice A n c, .slice F m d]
  obtain ⟨ii, hi, hi0, hi1, hi2⟩ := info_parts graph_info
  have hG1 := hG.keep hb1
  generalize hW1 : w.alloc (.cells #[.slice A n c, .slice F m d] 27) = W1 at *
  have hvg := l21Ok_any A n c F m d cs es W1 hG1 hn hm
  obtain ⟨x0, x1⟩ := X.cells2
  by_cases hg : GraphOk cs es
  · rw [tB_yes hg] at hvg
    cases hbd : inB b 1 20000 with
    | false =>
      have HC := Lib.hid (show codeP cs es b = 2 by rw [codeP, tB_yes hg, hbd]; simp)
      go_enter Tryz.func33, Tryz.ntmps33
      go_wp2_with (first | (go_at_call 61; refine hvg.mono ?_; rintro e w2 ⟨rfl, hb2⟩) | (go_at_call 62; refine (l09Budget_any _ _).mono ?_; rintro e w3 ⟨rfl, rfl⟩; rw [hbd]))
      go_ret2
      refine ⟨(hb1.trans (hb2.mono hb1.size)).alloc (by have := hb1.size; have := hb2.size; omega) _, _, by rw [HC.out]; rfl, fun h => ?_⟩
      rw [HC.out] at h
      cases h
    | true =>
      obtain ⟨b0, rfl⟩ : ∃ k : Nat, b = k := ⟨b.toNat, by unfold inB at hbd; simp at hbd; omega⟩
      have hb20 : b0 ≤ 20000 := by have := (inB_true hbd).2; omega
      have hcl := hG.ri.len
      have hel := hG.re.len
      have hc64 := hg.clen
      have he512 := hg.elen
      have hed := graph_edges hg
      rw [hcl] at hed
      have HED := Lib.hid hed
      have HG := Lib.hid hg
      have hsz : n ≤ 4096 ∧ m ≤ 1048576 := by omega
      cases hsp : (runP cs es b0).spent with
      | true =>
        have HC := Lib.hid (show codeP cs es (b0 : Int) = 5 by rw [codeP, tB_yes hg, hbd]; simp [hsp])
        have HS := Lib.hid hsp
        clear hsp hed hg hcl hel hc64 he512
        go_enter Tryz.func33, Tryz.ntmps33
        go_wp2_with (first | (go_at_call 61; refine hvg.mono ?_; rintro e w2 ⟨rfl, hb2⟩; have x0 := below_cell hb2 x0; have x1 := below_cell hb2 x1) | (go_at_call 62; refine (l09Budget_any _ _).mono ?_; rintro e w3 ⟨rfl, rfl⟩; rw [hbd]) | (go_at_call 63; refine (l22Search_any _ A n c F m d cs es b0 (hG1.keep hb2) hsz.1 hsz.2 HED.out hb20).mono ?_; rintro e w4 ⟨w0, rfl, hb4, N, cN, BA, bn, bc, FA, fn, fk, FF, fm, fd, hX⟩; have q9 := hX.cells.2.2.2.2.2; rw [HS.out] at q9))
        go_ret2
        have hw4 := (hb1.trans (hb2.mono hb1.size)).trans ((hb4.trans (hX.sb.b.mono hb4.size)).mono (Nat.le_trans hb1.size hb2.size))
        refine ⟨hw4.alloc hw4.size _, _, by rw [HC.out]; rfl, fun h => ?_⟩
        rw [HC.out] at h
        cases h
      | false =>
        have HC := Lib.hid (show codeP cs es (b0 : Int) = 0 by rw [codeP, tB_yes hg, hbd]; simp [hsp])
        have HS := Lib.hid hsp
        clear hsp hed hg hcl hel hc64 he512
        go_enter Tryz.func33, Tryz.ntmps33
        go_wp2_with (first | (go_at_call 61; refine hvg.mono ?_; rintro e w2 ⟨rfl, hb2⟩; have x0 := below_cell hb2 x0; have x1 := below_cell hb2 x1) | (go_at_call 62; refine (l09Budget_any _ _).mono ?_; rintro e w3 ⟨rfl, rfl⟩; rw [hbd]) | (go_at_call 63; refine (l22Search_any _ A n c F m d cs es b0 (hG1.keep hb2) hsz.1 hsz.2 HED.out hb20).mono ?_; rintro e w4 ⟨w0, rfl, hb4, N, cN, BA, bn, bc, FA, fn, fk, FF, fm, fd, hX⟩; have q9 := hX.cells.2.2.2.2.2; rw [HS.out] at q9))
        go_ret2
        have hw0 := (hb1.trans (hb2.mono hb1.size)).trans (hb4.mono (Nat.le_trans hb1.size hb2.size))
        exact ⟨hw0.trans (hX.sb.b.mono hw0.size), _, by rw [HC.out]; rfl, fun _ => ⟨w0, rfl, hw0, HS.out, HG.out, hb20, _, _, _, _, _, _, _, _, _, _, _, hX⟩⟩
  · rw [tB_no hg] at hvg
    have HC := Lib.hid (show codeP cs es b = 1 by rw [codeP, tB_no hg]; simp)
    go_enter Tryz.func33, Tryz.ntmps33
    go_wp2_with (go_at_call 61; refine hvg.mono ?_; rintro e w2 ⟨rfl, hb2⟩)
    go_ret2
    refine ⟨(hb1.trans (hb2.mono hb1.size)).alloc (by have := hb1.size; have := hb2.size; omega) _, _, by rw [HC.out]; rfl, fun h => ?_⟩
    rw [HC.out] at h
    cases h
end Go.Proofs.YtkihflnenifcgaaGreatDoor
/- (*impl.explorer).search, whole. No condition beyond those stated. -/
namespace Go.Proofs.YtkihflnenifcgaaGreatDoor
open Go.RowKit

theorem search_any (w0 : World) (A : Option Addr) (n c : Nat) (F : Option Addr) (m d : Nat) (cs : List Int) (es : List Ed) (N : Option Addr) (cN : Nat)
    (hG : RG w0 A n F m cs es) (hN : RR w0 N n (nearP n es)) (hn : n ≤ 4096) (hm : m ≤ 1048576) (he : EdgesOk n es) : ∀ (f : Nat) (w : World) (BA P : Option Addr) (cP : Nat) (s : St) (cells : List Int), s.left ≤ f → Ask w0 w A n c F m d N cN BA P cP s cells →
    Calls Tryz.prog 46 #[.pointer (some ⟨w0.heap.size, 0, none⟩), .slice P n cP] w (RetX w0 w A n c F m d N n cN BA (searchP cs es (nearP n es) f s cells))
  | 0, w, BA, P, cP, s, cells, hl, hA => by
    rw [searchP]
    exact search_step w0 w A n c F m d cs es N cN BA P cP s cells (fun s _ => s) hG hN hn hm he hA (fun w' BA' P' cP' s' cells' h _ => absurd h (by omega)) (fun s' cells' h _ => absurd h (by omega))
  | f + 1, w, BA, P, cP, s, cells, hl, hA => by
    rw [searchP]
    exact search_step w0 w A n c F m d cs es N cN BA P cP s cells (searchP cs es (nearP n es) f) hG hN hn hm he hA (fun w' BA' P' cP' s' cells' h h' => search_any w0 A n c F m d cs es N cN hG hN hn hm he f w' BA' P' cP' s' cells' (by omega) h') (fun s' cells' h h' => searchP_kept cs es (nearP n es) f s' cells' (by omega) h')
end Go.Proofs.YtkihflnenifcgaaGreatDoor
