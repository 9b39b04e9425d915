/- (*spec.l22Find).run: a leaf. No condition beyond those stated. -/
import Derived.Test.YtkihflnenifcgaaGreatDoorZBD
import Derived.Test.YtkihflnenifcgaaGreatDoorZBC
import Derived.Test.YtkihflnenifcgaaGreatDoorZBE
import Derived.Test.YtkihflnenifcgaaGreatDoorZAL
set_option linter.unusedVariables false
set_option linter.unusedSimpArgs false
namespace Go.Proofs.YtkihflnenifcgaaGreatDoor
open Go.RowKit

/-- what a search leaves behind, the reference's side -/
def RetRF (w0 w : World) (A : Option Addr) (n c : Nat) (F : Option Addr) (m d : Nat) (N : Option Addr) (nn cN : Nat) (BA : Option Addr) (s : St) (e : Ending) (w' : World) : Prop :=
  e = .returned (.tuple #[]) ∧ ∃ BA' bn bc FA fn fk FF fm fd, RFd w0 w' A n c F m d N nn cN BA' bn bc FA fn fk FF fm fd s ∧ Kp w0.heap.size (blk BA) w w' ∧ Fresh BA' BA w.heap.size
set_option maxRecDepth 100000 in
set_option maxHeartbeats 4000000 in
theorem runLeaf_none (w0 w : World) (A : Option Addr) (n c : Nat) (F : Option Addr) (m d : Nat) (cs : List Int) (es : List Ed) (N : Option Addr) (nn cN : Nat) (BA : Option Addr) (bn bc : Nat) (FA : Option Addr) (fn fk : Nat) (FF : Option Addr) (fm fd : Nat) (s : St) (P : Option Addr) (cP : Nat) (p : List Int)
    (hG : RG w0 A n F m cs es) (hX : RFd w0 w A n c F m d N nn cN BA bn bc FA fn fk FF fm fd s) (hP : OI w (w0.heap.size + 1) 2 P n cP p) (hc : Cells n p) (ht : tgtP p < 0) (hn : n ≤ 4096) (hm : m ≤ 1048576) (he : EdgesOk n es) (hl : s.leaves ≤ 100000) (hbl : s.best.length ≤ 100000) (hb0 : s.best = []) :
    Calls Tryz.prog 92 #[.pointer (some ⟨w0.heap.size, 0, none⟩), .slice P n cP] w (RetRF w0 w A n c F m d N nn cN BA (leafP cs es s p)) := by
  obtain ⟨vs0, hv0, -⟩ := hX.sb.best
  have hbn := hv0.slen
  have hp := tgtP_perm hc ht
  have htg := l22Target_any P n cP p w hP.reads (by omega) hc
  obtain rfl : bn = 0 := by rw [← hbn, hb0]; rfl
  have HL := Lib.hid (leafP_neg (cs := cs) (es := es) (p := p) (show leafC cs es s p < 0 by rw [leafC, if_pos hb0]; omega))
  clear hb0 hbn
  have HN := Lib.hid (show (relC cs p).length ≤ 4096 by rw [relC_len, hG.ri.len]; exact hn)
  have HM := Lib.hid (show (relE es p).length ≤ 1048576 by have := relE_len es p; rw [hG.re.len] at this; omega)
  have HX := Lib.hid hX
  have HP := Lib.hid hP
  have HG := Lib.hid hG
  have HE := Lib.hid he
  have HPp := Lib.hid hp
  generalize tgtP p = tg at *
  clear hX hP hG he hp hc hv0
  go_enter Tryz.func92, Tryz.ntmps92
  go_wp2_with fail
  refine htg.mono ?_
  rintro e w1 ⟨rfl, hd1⟩
  have X1 := HX.out.step hd1.below
  have P1 := HP.out.below hd1.below
  have K1 := Kp.of_below (pb := w0.heap.size) (r := blk BA) hd1.below
  have c7 := X1.cells.2.2.2.1
  have z7 := X1.frozen 7
  have q0 := X1.cells.1.1
  have q1 := X1.cells.1.2.1
  have X2 := X1.leaves (u := (s.leaves : Int) + 1) (s.leaves + 1) (by omega)
  have P2 := P1.setLow (p := ⟨w0.heap.size, 7, none⟩) (Nat.lt_succ_self _) (.int .i64 ((s.leaves : Int) + 1))
  have K2 := K1.trans' (Kp.of_set (pb := w0.heap.size) (r := blk BA) 7 (.int .i64 ((s.leaves : Int) + 1))) (Fresh.refl _ _)
  have HX2 := Lib.hid X2
  have HP2 := Lib.hid P2
  have HK2 := Lib.hid K2
  clear hd1 htg X1 P1 K1 X2 P2 K2
  go_wp2_with fail
  clear c7 z7 q0 q1
  generalize hW2 : w1.setCell ⟨w0.heap.size, 7, none⟩ (.int .i64 ((s.leaves : Int) + 1)) = W2 at *
  refine (l21Relabel_any A n c F m d cs es P cP p _ (HG.out.keep HX2.out.sb.b) HP2.out.reads HPp.out hn hm HE.out).mono ?_
  rintro e w3 ⟨A2, n2, c2, F2, m2, d2, rfl, hG2, hb2⟩
  obtain ⟨W3, hW3⟩ : ∃ W3, w3.alloc (.cells #[.slice A2 n2 c2, .slice F2 m2 d2] 27) = W3 := ⟨_, rfl⟩
  have hb3 : Below w3.heap.size w3 W3 := hW3 ▸ below_alloc w3 _
  have E : Blk W3 w3.heap.size 27 #[.slice A2 n2 c2, .slice F2 m2 d2] := hW3 ▸ Blk.new w3 _ _
  have X3 := (HX2.out.step hb2).step hb3
  have hk3 := ((HK2.out.trans' (Kp.of_below (r := blk BA) hb2) (Fresh.refl _ _)).trans' (Kp.of_below (r := blk BA) hb3) (Fresh.refl _ _)).size
  have hz3 := X3.sb.lt
  have z3 := X3.frozen 3
  have z4 := X3.frozen 4
  have z5 := X3.frozen 5
  have c5 := X3.cells.2.1
  have c3 := X3.cells.1.2.2.2.1
  have c4 := X3.cells.1.2.2.2.2
  have E1 := E.cells2.1
  have E2 := E.cells2.2
  have HX3 := Lib.hid X3
  have HP3 := Lib.hid ((HP2.out.below hb2).below hb3)
  have HK3 := Lib.hid ((HK2.out.trans' (Kp.of_below (r := blk BA) hb2) (Fresh.refl _ _)).trans' (Kp.of_below (r := blk BA) hb3) (Fresh.refl _ _))
  have HO := Lib.hid ((hG2.oi.below hb3).more (B' := w0.heap.size + 1) HX2.out.sb.lt)
  have HF := Lib.hid ((hG2.oe.below hb3).more (B' := w0.heap.size + 1) HX2.out.sb.lt)
  clear X3 E hb2 hb3 hG2 hW2
  have X4 := HX3.out.form HO.out HF.out HN.out HM.out (g := W3.heap.size) rfl
  have b4 := below_alloc ((W3.setCell ⟨w0.heap.size, 3, none⟩ (.slice A2 n2 c2)).setCell ⟨w0.heap.size, 4, none⟩ (.slice F2 m2 d2)) (.cells #[] 24)
  have P4 := (((HP3.out.setLow (p := ⟨w0.heap.size, 3, none⟩) (Nat.lt_succ_self _) (.slice A2 n2 c2)).setLow (p := ⟨w0.heap.size, 4, none⟩) (Nat.lt_succ_self _) (.slice F2 m2 d2)).below b4).setLow (p := ⟨w0.heap.size, 5, none⟩) (Nat.lt_succ_self _) (.slice (some ⟨W3.heap.size, 0, none⟩) 0 0)
  have K4 := (((HK3.out.trans' (Kp.of_set (pb := w0.heap.size) (r := blk BA) 3 (.slice A2 n2 c2)) (Fresh.refl _ _)).trans' (Kp.of_set (pb := w0.heap.size) (r := blk BA) 4 (.slice F2 m2 d2)) (Fresh.refl _ _)).trans' (Kp.of_below (r := blk BA) b4) (Fresh.refl _ _)).trans' (Kp.of_set (pb := w0.heap.size) (r := blk BA) 5 (.slice (some ⟨W3.heap.size, 0, none⟩) 0 0)) (Fresh.refl _ _)
  obtain ⟨WF, hWF⟩ : ∃ WF, (((W3.setCell ⟨w0.heap.size, 3, none⟩ (.slice A2 n2 c2)).setCell ⟨w0.heap.size, 4, none⟩ (.slice F2 m2 d2)).alloc (.cells #[] 24)).setCell ⟨w0.heap.size, 5, none⟩ (.slice (some ⟨W3.heap.size, 0, none⟩) 0 0) = WF := ⟨_, rfl⟩
  rw [hWF] at X4 P4 K4
  have HXf := Lib.hid X4
  have HPf := Lib.hid P4
  have HKf := Lib.hid K4
  have hkf : w.heap.size ≤ W3.heap.size := hk3
  clear X4 P4 K4 b4
  go_wp2
  clear z3 z4 z5 c3 c4 c5 E1 E2 hWF hz3 hk3 hW3
  have c5 := HXf.out.cells.2.1
  have hdr : Below WF.heap.size WF WF.drew := by have := below_drewn WF 1; rwa [← World.drew_is_drewN] at this
  refine region_lastC (P := Tryz.prog) (S := fun w' => w'.cell? ⟨w0.heap.size, 5, none⟩ = some (.slice (some ⟨W3.heap.size, 0, none⟩) 0 0)) (by kernel_rfl) (by simp only [List.getLast?_cons_cons, List.getLast?_singleton]; rfl) (by dsimp only [List.dropLast]) (by kernel_rfl) (by simpa using c5) ?_
  intro hS
  refine wpAnyH_take (i := 0) (v := ?_) rfl (by kernel_rfl) (by kernel_rfl) (by kernel_rfl) (fun _ _ _ h => h) (Or.inl ⟨by rfl, ?_⟩) (by assumption) ?_
  rotate_left
  · (intro w hSw; (try dsimp only at hSw); go_simp; (try with_reducible rfl))
  simp only [Act.put, List.setIfInBounds_toArray, List.set_cons_zero, List.set_cons_succ]
  refine wpAnyH_take (i := 1) (v := ?_) rfl (by kernel_rfl) (by kernel_rfl) (by kernel_rfl) (fun _ _ _ h => h) (Or.inl ⟨by rfl, ?_⟩) (by assumption) ?_
  rotate_left
  · (intro w hSw; (try dsimp only at hSw); go_simp; (try with_reducible rfl))
  simp only [Act.put, List.setIfInBounds_toArray, List.set_cons_zero, List.set_cons_succ]
  refine wpAnyH_take (i := 2) (v := ?_) rfl (by kernel_rfl) (by kernel_rfl) (by kernel_rfl) (fun _ _ _ h => h) (Or.inl ⟨by rfl, ?_⟩) (by assumption) ?_
  rotate_left
  · (intro w hSw; (try dsimp only at hSw); go_simp; (try with_reducible rfl))
  simp only [Act.put, List.setIfInBounds_toArray, List.set_cons_zero, List.set_cons_succ]
  refine wpAnyH_take (i := 3) (v := ?_) rfl (by kernel_rfl) (by kernel_rfl) (by kernel_rfl) (fun _ _ _ h => h) (Or.inl ⟨by rfl, ?_⟩) (by assumption) ?_
  rotate_left
  · (intro w hSw; (try dsimp only at hSw); go_simp; (try with_reducible rfl))
  simp only [Act.put, List.setIfInBounds_toArray, List.set_cons_zero, List.set_cons_succ]
  refine wpAnyH_take (i := 4) (v := ?_) rfl (by kernel_rfl) (by kernel_rfl) (by kernel_rfl) (fun _ _ _ h => h) (Or.inl ⟨by rfl, ?_⟩) (by assumption) ?_
  rotate_left
  · (intro w hSw; (try dsimp only at hSw); go_simp; (try with_reducible rfl))
  simp only [Act.put, List.setIfInBounds_toArray, List.set_cons_zero, List.set_cons_succ]
  refine wpAnyH_take (i := 5) (v := ?_) rfl (by kernel_rfl) (by kernel_rfl) (by kernel_rfl) (fun _ _ _ h => h) (Or.inl ⟨by rfl, ?_⟩) (by assumption) ?_
  rotate_left
  · (intro w hSw; (try dsimp only at hSw); go_simp; (try with_reducible rfl))
  simp only [Act.put, List.setIfInBounds_toArray, List.set_cons_zero, List.set_cons_succ]
  refine wpAnyH_ready (rs := [6]) (by kernel_rfl) (by simp) ?_
  refine AllReadyH.cons rfl (fun K hK => ?_) AllReadyH.nil
  go_simp
  refine (l00Own_any P n cP p _ (HPf.out.reads.keep hdr) (by omega)).mono ?_
  rintro e w5 ⟨A5, n5, k5, rfl, ho5, hb5⟩
  dsimp only
  have hb5' : Below WF.heap.size WF w5 := hdr.trans (hb5.mono (Nat.le_refl _))
  refine hK.out _ _ (below_cell hb5' c5) (fun hS1 => ?_)
  clear hK K hS
  refine wpAnyH_ready (rs := [7]) (by kernel_rfl) (by simp) ?_
  refine AllReadyH.cons rfl (fun K hK => ?_) AllReadyH.nil
  go_simp
  have hb6 := hb5'.trans ((below_alloc w5 (.cells #[.slice A5 n5 k5] 24)).mono hb5'.size)
  refine hK.out _ _ (below_cell hb6 c5) (fun hS2 => ?_)
  clear hK K hS1
  refine wpAnyH_ready (rs := [8]) (by kernel_rfl) (by simp) ?_
  refine AllReadyH.cons rfl (fun K hK => ?_) AllReadyH.nil
  have X5 := HXf.out.step hb5'
  have P5 : OI w5 (w0.heap.size + 1) 2 A5 n5 k5 p := ho5.more HXf.out.sb.lt
  have hfar : blk A5 = none ∨ blk A5 ≠ blk A2 := far_of_old ho5 HXf.out.sb.fc (Nat.le_refl _)
  have hk5 := (HKf.out.trans' (Kp.of_below (r := blk BA) hb5') (Fresh.refl _ _)).size
  refine step_of_list (by rfl) ?_
  obtain ⟨vs5, hv5, hva5⟩ := X5.sb.best
  refine app_best _ (by rfl) (.tmp 56) (.tmp 59) (by rfl) (w0.heap.size + 1) (some ⟨W3.heap.size, 0, none⟩) 0 0 vs5 (by rfl) hv5.os (A5, n5, k5) _ (by rfl) (by simp) (by omega) X5.sb.lt ?_
  intro A6 c6 w6 ho6 hg6 hf6
  have hx6 := X5.x.grown hg6 (OS.typed' hv5.os X5.x (by decide))
  have z6 := hx6.frozen 5
  have c6' := hx6.cell 5
  have X6 := X5.push P5 hv5 hva5 hfar hg6 ho6
  have K6 := ((HKf.out.trans' (Kp.of_below (r := blk BA) hb5') (Fresh.refl _ _)).trans (Kp.of_grown (pb := w0.heap.size) hg6) (.inr (.inr ⟨_, rfl, hkf⟩))).trans' (Kp.of_set (pb := w0.heap.size) (r := blk BA) 5 (.slice A6 (0 + 1) c6)) (Fresh.refl _ _)
  refine list_onlyK ?_
  refine hK.out _ _ c6' (fun hS3 => ?_)
  clear hK K hS2
  refine wpAnyH_take (i := 9) (v := ?_) rfl (by kernel_rfl) (by kernel_rfl) (by kernel_rfl) (fun _ _ _ h => h) (Or.inl ⟨by rfl, ?_⟩) (by assumption) ?_
  rotate_left
  · (intro w hSw; (try dsimp only at hSw); go_simp; (try with_reducible rfl))
  simp only [Act.put, List.setIfInBounds_toArray, List.set_cons_zero, List.set_cons_succ]
  refine wpAnyH_take (i := 10) (v := ?_) rfl (by kernel_rfl) (by kernel_rfl) (by kernel_rfl) (fun _ _ _ h => h) (Or.inl ⟨by rfl, ?_⟩) (by assumption) ?_
  rotate_left
  · (intro w hSw; (try dsimp only at hSw); go_simp; (try with_reducible rfl))
  simp only [Act.put, List.setIfInBounds_toArray, List.set_cons_zero, List.set_cons_succ]
  refine wpAnyH_done (by kernel_rfl) ?_ _
  dsimp only [atEnd]
  have HX6 := Lib.hid X6
  have HK6 := Lib.hid K6
  have HF6 := Lib.hid hf6
  clear hS3 X6 K6 hf6 hx6 hg6 ho6 hv5 hva5 X5 P5 ho5 hb5 hb6 hb5' hfar c5 hdr
  go_wp2
  refine bodyPost_ret (results_none rfl _ _ _) rfl ?_
  rw [HL.out]
  refine ⟨rfl, _, _, _, _, _, _, _, _, _, HX6.out, HK6.out, ?_⟩
  rcases HF6.out with h | h | ⟨k, h, h1⟩
  · exact .inr (.inr ⟨_, h, hkf⟩)
  · exact .inr (.inl h)
  · exact .inr (.inr ⟨k, h, Nat.le_trans hk5 h1⟩)

set_option maxRecDepth 100000 in
set_option maxHeartbeats 4000000 in
theorem runLeaf_neg (w0 w : World) (A : Option Addr) (n c : Nat) (F : Option Addr) (m d : Nat) (cs : List Int) (es : List Ed) (N : Option Addr) (nn cN : Nat) (BA : Option Addr) (bn bc : Nat) (FA : Option Addr) (fn fk : Nat) (FF : Option Addr) (fm fd : Nat) (s : St) (P : Option Addr) (cP : Nat) (p : List Int)
    (hG : RG w0 A n F m cs es) (hX : RFd w0 w A n c F m d N nn cN BA bn bc FA fn fk FF fm fd s) (hP : OI w (w0.heap.size + 1) 2 P n cP p) (hc : Cells n p) (ht : tgtP p < 0) (hn : n ≤ 4096) (hm : m ≤ 1048576) (he : EdgesOk n es) (hl : s.leaves ≤ 100000) (hbl : s.best.length ≤ 100000) (hb0 : s.best ≠ []) (h1 : cmpF (relC cs p) (relE es p) s.fc s.fe < 0) :
    Calls Tryz.prog 92 #[.pointer (some ⟨w0.heap.size, 0, none⟩), .slice P n cP] w (RetRF w0 w A n c F m d N nn cN BA (leafP cs es s p)) := by
  obtain ⟨vs0, hv0, -⟩ := hX.sb.best
  have hbn := hv0.slen
  have hp := tgtP_perm hc ht
  have htg := l22Target_any P n cP p w hP.reads (by omega) hc
  have hbn0 : 0 < bn := by
    rw [← hbn]
    exact List.length_pos_iff.2 hb0
  have hlf : leafC cs es s p = cmpF (relC cs p) (relE es p) s.fc s.fe := by rw [leafC, if_neg hb0]
  generalize hcc : cmpF (relC cs p) (relE es p) s.fc s.fe = cc at *
  have HL := Lib.hid (leafP_neg (cs := cs) (es := es) (p := p) (show leafC cs es s p < 0 by rw [hlf]; exact h1))
  have h1' : cc ≤ 0 := by omega
  clear hb0 hbn hlf
  have HN := Lib.hid (show (relC cs p).length ≤ 4096 by rw [relC_len, hG.ri.len]; exact hn)
  have HM := Lib.hid (show (relE es p).length ≤ 1048576 by have := relE_len es p; rw [hG.re.len] at this; omega)
  have HX := Lib.hid hX
  have HP := Lib.hid hP
  have HG := Lib.hid hG
  have HE := Lib.hid he
  have HPp := Lib.hid hp
  generalize tgtP p = tg at *
  clear hX hP hG he hp hc hv0
  go_enter Tryz.func92, Tryz.ntmps92
  go_wp2_with fail
  refine htg.mono ?_
  rintro e w1 ⟨rfl, hd1⟩
  have X1 := HX.out.step hd1.below
  have P1 := HP.out.below hd1.below
  have K1 := Kp.of_below (pb := w0.heap.size) (r := blk BA) hd1.below
  have c7 := X1.cells.2.2.2.1
  have z7 := X1.frozen 7
  have q0 := X1.cells.1.1
  have q1 := X1.cells.1.2.1
  have X2 := X1.leaves (u := (s.leaves : Int) + 1) (s.leaves + 1) (by omega)
  have P2 := P1.setLow (p := ⟨w0.heap.size, 7, none⟩) (Nat.lt_succ_self _) (.int .i64 ((s.leaves : Int) + 1))
  have K2 := K1.trans' (Kp.of_set (pb := w0.heap.size) (r := blk BA) 7 (.int .i64 ((s.leaves : Int) + 1))) (Fresh.refl _ _)
  have HX2 := Lib.hid X2
  have HP2 := Lib.hid P2
  have HK2 := Lib.hid K2
  clear hd1 htg X1 P1 K1 X2 P2 K2
  go_wp2_with fail
  clear c7 z7 q0 q1
  generalize hW2 : w1.setCell ⟨w0.heap.size, 7, none⟩ (.int .i64 ((s.leaves : Int) + 1)) = W2 at *
  refine (l21Relabel_any A n c F m d cs es P cP p _ (HG.out.keep HX2.out.sb.b) HP2.out.reads HPp.out hn hm HE.out).mono ?_
  rintro e w3 ⟨A2, n2, c2, F2, m2, d2, rfl, hG2, hb2⟩
  obtain ⟨W3, hW3⟩ : ∃ W3, w3.alloc (.cells #[.slice A2 n2 c2, .slice F2 m2 d2] 27) = W3 := ⟨_, rfl⟩
  have hb3 : Below w3.heap.size w3 W3 := hW3 ▸ below_alloc w3 _
  have E : Blk W3 w3.heap.size 27 #[.slice A2 n2 c2, .slice F2 m2 d2] := hW3 ▸ Blk.new w3 _ _
  have X3 := (HX2.out.step hb2).step hb3
  have hk3 := ((HK2.out.trans' (Kp.of_below (r := blk BA) hb2) (Fresh.refl _ _)).trans' (Kp.of_below (r := blk BA) hb3) (Fresh.refl _ _)).size
  have hz3 := X3.sb.lt
  have z3 := X3.frozen 3
  have z4 := X3.frozen 4
  have z5 := X3.frozen 5
  have c5 := X3.cells.2.1
  have c3 := X3.cells.1.2.2.2.1
  have c4 := X3.cells.1.2.2.2.2
  have E1 := E.cells2.1
  have E2 := E.cells2.2
  have HX3 := Lib.hid X3
  have HP3 := Lib.hid ((HP2.out.below hb2).below hb3)
  have HK3 := Lib.hid ((HK2.out.trans' (Kp.of_below (r := blk BA) hb2) (Fresh.refl _ _)).trans' (Kp.of_below (r := blk BA) hb3) (Fresh.refl _ _))
  have HO := Lib.hid ((hG2.oi.below hb3).more (B' := w0.heap.size + 1) HX2.out.sb.lt)
  have HF := Lib.hid ((hG2.oe.below hb3).more (B' := w0.heap.size + 1) HX2.out.sb.lt)
  clear X3 E hb2 hb3 hG2 hW2
  have hlo := HO.out.len
  have hle2 := HF.out.len
  have hlc := HX3.out.sb.lc
  have hle := HX3.out.sb.le_
  have hfn := HX3.out.sb.fc.len
  have hfm := HX3.out.sb.fe.len
  have hNN := HN.out
  have hMM := HM.out
  have hcf := fun (W' : World) (hb : Below W3.heap.size W3 W') => l22Compare_any A2 n2 c2 F2 m2 d2 (relC cs p) (relE es p) FA fn fk FF fm fd s.fc s.fe W' ((RG.mk HO.out.reads HF.out.reads).keep hb) ((RG.mk HX3.out.sb.fc.reads HX3.out.sb.fe.reads).keep hb) (by omega) (by omega) (by omega) (by omega)
  rw [hcc] at hcf
  have HCF := Lib.hid hcf
  clear hcf hlo hle2 hlc hle hfn hfm hNN hMM hcc
  go_wp2
  go_region_held_law (fun w' => Below W3.heap.size W3 w' ∧ w'.cell? ⟨w3.heap.size, 0, none⟩ = some (.slice A2 n2 c2) ∧ w'.cell? ⟨w3.heap.size, 1, none⟩ = some (.slice F2 m2 d2) ∧ w'.cell? ⟨w0.heap.size, 3, none⟩ = some (.slice FA fn fk) ∧ w'.cell? ⟨w0.heap.size, 4, none⟩ = some (.slice FF fm fd))
    (first | exact keep4 (below_drewn _ 1) E1 E2 c3 c4 | exact keep4 (by assumption) E1 E2 c3 c4)
    (first | (go_at_call 123; (with_reducible refine (HCF.out _ ?_).mono ?_); (exact below_drewn _ 1); rintro e w4 ⟨rfl, hb4⟩; have hX4 : Below W3.heap.size W3 w4 := (below_drewn _ 1).trans (hb4.mono (Nat.le_refl _))))
  have HX4 := Lib.hid (HX3.out.step hX4)
  have HP4 := Lib.hid (HP3.out.below hX4)
  have HK4 := Lib.hid (HK3.out.trans' (Kp.of_below (r := blk BA) hX4) (Fresh.refl _ _))
  have HO4 := Lib.hid (HO.out.below hX4)
  have HF4 := Lib.hid (HF.out.below hX4)
  have E1 := below_cell hX4 E1
  have E2 := below_cell hX4 E2
  have c5 := HX4.out.cells.2.1
  have c3 := HX4.out.cells.1.2.2.2.1
  have c4 := HX4.out.cells.1.2.2.2.2
  have z3 := HX4.out.frozen 3
  have z4 := HX4.out.frozen 4
  have z5 := HX4.out.frozen 5
  have hz4 := HX4.out.sb.lt
  have hk4 := HK4.out.size
  clear hX4 hb4 hz3 hk3 hW3
  have X4 := HX4.out.form HO4.out HF4.out HN.out HM.out (g := w4.heap.size) rfl
  have b4 := below_alloc ((w4.setCell ⟨w0.heap.size, 3, none⟩ (.slice A2 n2 c2)).setCell ⟨w0.heap.size, 4, none⟩ (.slice F2 m2 d2)) (.cells #[] 24)
  have P4 := (((HP4.out.setLow (p := ⟨w0.heap.size, 3, none⟩) (Nat.lt_succ_self _) (.slice A2 n2 c2)).setLow (p := ⟨w0.heap.size, 4, none⟩) (Nat.lt_succ_self _) (.slice F2 m2 d2)).below b4).setLow (p := ⟨w0.heap.size, 5, none⟩) (Nat.lt_succ_self _) (.slice (some ⟨w4.heap.size, 0, none⟩) 0 0)
  have K4 := (((HK4.out.trans' (Kp.of_set (pb := w0.heap.size) (r := blk BA) 3 (.slice A2 n2 c2)) (Fresh.refl _ _)).trans' (Kp.of_set (pb := w0.heap.size) (r := blk BA) 4 (.slice F2 m2 d2)) (Fresh.refl _ _)).trans' (Kp.of_below (r := blk BA) b4) (Fresh.refl _ _)).trans' (Kp.of_set (pb := w0.heap.size) (r := blk BA) 5 (.slice (some ⟨w4.heap.size, 0, none⟩) 0 0)) (Fresh.refl _ _)
  obtain ⟨WF, hWF⟩ : ∃ WF, (((w4.setCell ⟨w0.heap.size, 3, none⟩ (.slice A2 n2 c2)).setCell ⟨w0.heap.size, 4, none⟩ (.slice F2 m2 d2)).alloc (.cells #[] 24)).setCell ⟨w0.heap.size, 5, none⟩ (.slice (some ⟨w4.heap.size, 0, none⟩) 0 0) = WF := ⟨_, rfl⟩
  rw [hWF] at X4 P4 K4
  have HXf := Lib.hid X4
  have HPf := Lib.hid P4
  have HKf := Lib.hid K4
  have hkf : w.heap.size ≤ w4.heap.size := hk4
  clear X4 P4 K4 b4
  go_wp2
  clear z3 z4 z5 c3 c4 c5 E1 E2 hWF hz4 hk4
  have c5 := HXf.out.cells.2.1
  have hdr : Below WF.heap.size WF WF.drew := by have := below_drewn WF 1; rwa [← World.drew_is_drewN] at this
  refine region_lastC (P := Tryz.prog) (S := fun w' => w'.cell? ⟨w0.heap.size, 5, none⟩ = some (.slice (some ⟨w4.heap.size, 0, none⟩) 0 0)) (by kernel_rfl) (by simp only [List.getLast?_cons_cons, List.getLast?_singleton]; rfl) (by dsimp only [List.dropLast]) (by kernel_rfl) (by simpa using c5) ?_
  intro hS
  refine wpAnyH_take (i := 0) (v := ?_) rfl (by kernel_rfl) (by kernel_rfl) (by kernel_rfl) (fun _ _ _ h => h) (Or.inl ⟨by rfl, ?_⟩) (by assumption) ?_
  rotate_left
  · (intro w hSw; (try dsimp only at hSw); go_simp; (try with_reducible rfl))
  simp only [Act.put, List.setIfInBounds_toArray, List.set_cons_zero, List.set_cons_succ]
  refine wpAnyH_take (i := 1) (v := ?_) rfl (by kernel_rfl) (by kernel_rfl) (by kernel_rfl) (fun _ _ _ h => h) (Or.inl ⟨by rfl, ?_⟩) (by assumption) ?_
  rotate_left
  · (intro w hSw; (try dsimp only at hSw); go_simp; (try with_reducible rfl))
  simp only [Act.put, List.setIfInBounds_toArray, List.set_cons_zero, List.set_cons_succ]
  refine wpAnyH_take (i := 2) (v := ?_) rfl (by kernel_rfl) (by kernel_rfl) (by kernel_rfl) (fun _ _ _ h => h) (Or.inl ⟨by rfl, ?_⟩) (by assumption) ?_
  rotate_left
  · (intro w hSw; (try dsimp only at hSw); go_simp; (try with_reducible rfl))
  simp only [Act.put, List.setIfInBounds_toArray, List.set_cons_zero, List.set_cons_succ]
  refine wpAnyH_take (i := 3) (v := ?_) rfl (by kernel_rfl) (by kernel_rfl) (by kernel_rfl) (fun _ _ _ h => h) (Or.inl ⟨by rfl, ?_⟩) (by assumption) ?_
  rotate_left
  · (intro w hSw; (try dsimp only at hSw); go_simp; (try with_reducible rfl))
  simp only [Act.put, List.setIfInBounds_toArray, List.set_cons_zero, List.set_cons_succ]
  refine wpAnyH_take (i := 4) (v := ?_) rfl (by kernel_rfl) (by kernel_rfl) (by kernel_rfl) (fun _ _ _ h => h) (Or.inl ⟨by rfl, ?_⟩) (by assumption) ?_
  rotate_left
  · (intro w hSw; (try dsimp only at hSw); go_simp; (try with_reducible rfl))
  simp only [Act.put, List.setIfInBounds_toArray, List.set_cons_zero, List.set_cons_succ]
  refine wpAnyH_take (i := 5) (v := ?_) rfl (by kernel_rfl) (by kernel_rfl) (by kernel_rfl) (fun _ _ _ h => h) (Or.inl ⟨by rfl, ?_⟩) (by assumption) ?_
  rotate_left
  · (intro w hSw; (try dsimp only at hSw); go_simp; (try with_reducible rfl))
  simp only [Act.put, List.setIfInBounds_toArray, List.set_cons_zero, List.set_cons_succ]
  refine wpAnyH_ready (rs := [6]) (by kernel_rfl) (by simp) ?_
  refine AllReadyH.cons rfl (fun K hK => ?_) AllReadyH.nil
  go_simp
  refine (l00Own_any P n cP p _ (HPf.out.reads.keep hdr) (by omega)).mono ?_
  rintro e w5 ⟨A5, n5, k5, rfl, ho5, hb5⟩
  dsimp only
  have hb5' : Below WF.heap.size WF w5 := hdr.trans (hb5.mono (Nat.le_refl _))
  refine hK.out _ _ (below_cell hb5' c5) (fun hS1 => ?_)
  clear hK K hS
  refine wpAnyH_ready (rs := [7]) (by kernel_rfl) (by simp) ?_
  refine AllReadyH.cons rfl (fun K hK => ?_) AllReadyH.nil
  go_simp
  have hb6 := hb5'.trans ((below_alloc w5 (.cells #[.slice A5 n5 k5] 24)).mono hb5'.size)
  refine hK.out _ _ (below_cell hb6 c5) (fun hS2 => ?_)
  clear hK K hS1
  refine wpAnyH_ready (rs := [8]) (by kernel_rfl) (by simp) ?_
  refine AllReadyH.cons rfl (fun K hK => ?_) AllReadyH.nil
  have X5 := HXf.out.step hb5'
  have P5 : OI w5 (w0.heap.size + 1) 2 A5 n5 k5 p := ho5.more HXf.out.sb.lt
  have hfar : blk A5 = none ∨ blk A5 ≠ blk A2 := far_of_old ho5 HXf.out.sb.fc (Nat.le_refl _)
  have hk5 := (HKf.out.trans' (Kp.of_below (r := blk BA) hb5') (Fresh.refl _ _)).size
  refine step_of_list (by rfl) ?_
  obtain ⟨vs5, hv5, hva5⟩ := X5.sb.best
  refine app_best _ (by rfl) (.tmp 56) (.tmp 59) (by rfl) (w0.heap.size + 1) (some ⟨w4.heap.size, 0, none⟩) 0 0 vs5 (by rfl) hv5.os (A5, n5, k5) _ (by rfl) (by simp) (by omega) X5.sb.lt ?_
  intro A6 c6 w6 ho6 hg6 hf6
  have hx6 := X5.x.grown hg6 (OS.typed' hv5.os X5.x (by decide))
  have z6 := hx6.frozen 5
  have c6' := hx6.cell 5
  have X6 := X5.push P5 hv5 hva5 hfar hg6 ho6
  have K6 := ((HKf.out.trans' (Kp.of_below (r := blk BA) hb5') (Fresh.refl _ _)).trans (Kp.of_grown (pb := w0.heap.size) hg6) (.inr (.inr ⟨_, rfl, hkf⟩))).trans' (Kp.of_set (pb := w0.heap.size) (r := blk BA) 5 (.slice A6 (0 + 1) c6)) (Fresh.refl _ _)
  refine list_onlyK ?_
  refine hK.out _ _ c6' (fun hS3 => ?_)
  clear hK K hS2
  refine wpAnyH_take (i := 9) (v := ?_) rfl (by kernel_rfl) (by kernel_rfl) (by kernel_rfl) (fun _ _ _ h => h) (Or.inl ⟨by rfl, ?_⟩) (by assumption) ?_
  rotate_left
  · (intro w hSw; (try dsimp only at hSw); go_simp; (try with_reducible rfl))
  simp only [Act.put, List.setIfInBounds_toArray, List.set_cons_zero, List.set_cons_succ]
  refine wpAnyH_take (i := 10) (v := ?_) rfl (by kernel_rfl) (by kernel_rfl) (by kernel_rfl) (fun _ _ _ h => h) (Or.inl ⟨by rfl, ?_⟩) (by assumption) ?_
  rotate_left
  · (intro w hSw; (try dsimp only at hSw); go_simp; (try with_reducible rfl))
  simp only [Act.put, List.setIfInBounds_toArray, List.set_cons_zero, List.set_cons_succ]
  refine wpAnyH_done (by kernel_rfl) ?_ _
  dsimp only [atEnd]
  have HX6 := Lib.hid X6
  have HK6 := Lib.hid K6
  have HF6 := Lib.hid hf6
  clear hS3 X6 K6 hf6 hx6 hg6 ho6 hv5 hva5 X5 P5 ho5 hb5 hb6 hb5' hfar c5 hdr
  go_wp2
  refine bodyPost_ret (results_none rfl _ _ _) rfl ?_
  rw [HL.out]
  refine ⟨rfl, _, _, _, _, _, _, _, _, _, HX6.out, HK6.out, ?_⟩
  rcases HF6.out with h | h | ⟨k, h, h1⟩
  · exact .inr (.inr ⟨_, h, hkf⟩)
  · exact .inr (.inl h)
  · exact .inr (.inr ⟨k, h, Nat.le_trans hk5 h1⟩)

set_option maxRecDepth 100000 in
set_option maxHeartbeats 4000000 in
theorem runLeaf_same (w0 w : World) (A : Option Addr) (n c : Nat) (F : Option Addr) (m d : Nat) (cs : List Int) (es : List Ed) (N : Option Addr) (nn cN : Nat) (BA : Option Addr) (bn bc : Nat) (FA : Option Addr) (fn fk : Nat) (FF : Option Addr) (fm fd : Nat) (s : St) (P : Option Addr) (cP : Nat) (p : List Int)
    (hG : RG w0 A n F m cs es) (hX : RFd w0 w A n c F m d N nn cN BA bn bc FA fn fk FF fm fd s) (hP : OI w (w0.heap.size + 1) 2 P n cP p) (hc : Cells n p) (ht : tgtP p < 0) (hn : n ≤ 4096) (hm : m ≤ 1048576) (he : EdgesOk n es) (hl : s.leaves ≤ 100000) (hbl : s.best.length ≤ 100000) (hb0 : s.best ≠ []) (h2 : cmpF (relC cs p) (relE es p) s.fc s.fe = 0) :
    Calls Tryz.prog 92 #[.pointer (some ⟨w0.heap.size, 0, none⟩), .slice P n cP] w (RetRF w0 w A n c F m d N nn cN BA (leafP cs es s p)) := by
  obtain ⟨vs0, hv0, -⟩ := hX.sb.best
  have hbn := hv0.slen
  have hp := tgtP_perm hc ht
  have htg := l22Target_any P n cP p w hP.reads (by omega) hc
  have hbn0 : 0 < bn := by
    rw [← hbn]
    exact List.length_pos_iff.2 hb0
  have hlf : leafC cs es s p = cmpF (relC cs p) (relE es p) s.fc s.fe := by rw [leafC, if_neg hb0]
  generalize hcc : cmpF (relC cs p) (relE es p) s.fc s.fe = cc at *
  have HL := Lib.hid (leafP_same (cs := cs) (es := es) (p := p) (show leafC cs es s p = 0 by rw [hlf]; exact h2))
  have h1 : ¬ cc < 0 := by omega
  have h1' : cc ≤ 0 := by omega
  clear hb0 hlf h2
  have HN := Lib.hid (show (relC cs p).length ≤ 4096 by rw [relC_len, hG.ri.len]; exact hn)
  have HM := Lib.hid (show (relE es p).length ≤ 1048576 by have := relE_len es p; rw [hG.re.len] at this; omega)
  have HX := Lib.hid hX
  have HP := Lib.hid hP
  have HG := Lib.hid hG
  have HE := Lib.hid he
  have HPp := Lib.hid hp
  generalize tgtP p = tg at *
  clear hX hP hG he hp hc hv0
  go_enter Tryz.func92, Tryz.ntmps92
  go_wp2_with fail
  refine htg.mono ?_
  rintro e w1 ⟨rfl, hd1⟩
  have X1 := HX.out.step hd1.below
  have P1 := HP.out.below hd1.below
  have K1 := Kp.of_below (pb := w0.heap.size) (r := blk BA) hd1.below
  have c7 := X1.cells.2.2.2.1
  have z7 := X1.frozen 7
  have q0 := X1.cells.1.1
  have q1 := X1.cells.1.2.1
  have X2 := X1.leaves (u := (s.leaves : Int) + 1) (s.leaves + 1) (by omega)
  have P2 := P1.setLow (p := ⟨w0.heap.size, 7, none⟩) (Nat.lt_succ_self _) (.int .i64 ((s.leaves : Int) + 1))
  have K2 := K1.trans' (Kp.of_set (pb := w0.heap.size) (r := blk BA) 7 (.int .i64 ((s.leaves : Int) + 1))) (Fresh.refl _ _)
  have HX2 := Lib.hid X2
  have HP2 := Lib.hid P2
  have HK2 := Lib.hid K2
  clear hd1 htg X1 P1 K1 X2 P2 K2
  go_wp2_with fail
  clear c7 z7 q0 q1
  generalize hW2 : w1.setCell ⟨w0.heap.size, 7, none⟩ (.int .i64 ((s.leaves : Int) + 1)) = W2 at *
  refine (l21Relabel_any A n c F m d cs es P cP p _ (HG.out.keep HX2.out.sb.b) HP2.out.reads HPp.out hn hm HE.out).mono ?_
  rintro e w3 ⟨A2, n2, c2, F2, m2, d2, rfl, hG2, hb2⟩
  obtain ⟨W3, hW3⟩ : ∃ W3, w3.alloc (.cells #[.slice A2 n2 c2, .slice F2 m2 d2] 27) = W3 := ⟨_, rfl⟩
  have hb3 : Below w3.heap.size w3 W3 := hW3 ▸ below_alloc w3 _
  have E : Blk W3 w3.heap.size 27 #[.slice A2 n2 c2, .slice F2 m2 d2] := hW3 ▸ Blk.new w3 _ _
  have X3 := (HX2.out.step hb2).step hb3
  have hk3 := ((HK2.out.trans' (Kp.of_below (r := blk BA) hb2) (Fresh.refl _ _)).trans' (Kp.of_below (r := blk BA) hb3) (Fresh.refl _ _)).size
  have hz3 := X3.sb.lt
  have z3 := X3.frozen 3
  have z4 := X3.frozen 4
  have z5 := X3.frozen 5
  have c5 := X3.cells.2.1
  have c3 := X3.cells.1.2.2.2.1
  have c4 := X3.cells.1.2.2.2.2
  have E1 := E.cells2.1
  have E2 := E.cells2.2
  have HX3 := Lib.hid X3
  have HP3 := Lib.hid ((HP2.out.below hb2).below hb3)
  have HK3 := Lib.hid ((HK2.out.trans' (Kp.of_below (r := blk BA) hb2) (Fresh.refl _ _)).trans' (Kp.of_below (r := blk BA) hb3) (Fresh.refl _ _))
  have HO := Lib.hid ((hG2.oi.below hb3).more (B' := w0.heap.size + 1) HX2.out.sb.lt)
  have HF := Lib.hid ((hG2.oe.below hb3).more (B' := w0.heap.size + 1) HX2.out.sb.lt)
  clear X3 E hb2 hb3 hG2 hW2
  have hlo := HO.out.len
  have hle2 := HF.out.len
  have hlc := HX3.out.sb.lc
  have hle := HX3.out.sb.le_
  have hfn := HX3.out.sb.fc.len
  have hfm := HX3.out.sb.fe.len
  have hNN := HN.out
  have hMM := HM.out
  have hcf := fun (W' : World) (hb : Below W3.heap.size W3 W') => l22Compare_any A2 n2 c2 F2 m2 d2 (relC cs p) (relE es p) FA fn fk FF fm fd s.fc s.fe W' ((RG.mk HO.out.reads HF.out.reads).keep hb) ((RG.mk HX3.out.sb.fc.reads HX3.out.sb.fe.reads).keep hb) (by omega) (by omega) (by omega) (by omega)
  rw [hcc] at hcf
  have HCF := Lib.hid hcf
  clear hcf hlo hle2 hlc hle hfn hfm hNN hMM hcc
  go_wp2
  go_region_held_law (fun w' => Below W3.heap.size W3 w' ∧ w'.cell? ⟨w3.heap.size, 0, none⟩ = some (.slice A2 n2 c2) ∧ w'.cell? ⟨w3.heap.size, 1, none⟩ = some (.slice F2 m2 d2) ∧ w'.cell? ⟨w0.heap.size, 3, none⟩ = some (.slice FA fn fk) ∧ w'.cell? ⟨w0.heap.size, 4, none⟩ = some (.slice FF fm fd))
    (first | exact keep4 (below_drewn _ 1) E1 E2 c3 c4 | exact keep4 (by assumption) E1 E2 c3 c4)
    (first | (go_at_call 123; (with_reducible refine (HCF.out _ ?_).mono ?_); (exact below_drewn _ 1); rintro e w4 ⟨rfl, hb4⟩; have hX4 : Below W3.heap.size W3 w4 := (below_drewn _ 1).trans (hb4.mono (Nat.le_refl _))))
  have HX4 := Lib.hid (HX3.out.step hX4)
  have HP4 := Lib.hid (HP3.out.below hX4)
  have HK4 := Lib.hid (HK3.out.trans' (Kp.of_below (r := blk BA) hX4) (Fresh.refl _ _))
  have HO4 := Lib.hid (HO.out.below hX4)
  have HF4 := Lib.hid (HF.out.below hX4)
  have E1 := below_cell hX4 E1
  have E2 := below_cell hX4 E2
  have c5 := HX4.out.cells.2.1
  have c3 := HX4.out.cells.1.2.2.2.1
  have c4 := HX4.out.cells.1.2.2.2.2
  have z3 := HX4.out.frozen 3
  have z4 := HX4.out.frozen 4
  have z5 := HX4.out.frozen 5
  have hz4 := HX4.out.sb.lt
  have hk4 := HK4.out.size
  clear hX4 hb4 hz3 hk3 hW3
  go_wp2
  clear z3 z4 z5 c3 c4 c5 E1 E2 hz4 hk4
  have c5 := HX4.out.cells.2.1
  have hdr : Below w4.heap.size w4 w4.drew := by have := below_drewn w4 1; rwa [← World.drew_is_drewN] at this
  refine region_lastC (P := Tryz.prog) (S := fun w' => w'.cell? ⟨w0.heap.size, 5, none⟩ = some (.slice BA bn bc)) (by kernel_rfl) (by simp only [List.getLast?_cons_cons, List.getLast?_singleton]; rfl) (by dsimp only [List.dropLast]) (by kernel_rfl) (by simpa using c5) ?_
  intro hS
  refine wpAnyH_take (i := 0) (v := ?_) rfl (by kernel_rfl) (by kernel_rfl) (by kernel_rfl) (fun _ _ _ h => h) (Or.inl ⟨by rfl, ?_⟩) (by assumption) ?_
  rotate_left
  · (intro w hSw; (try dsimp only at hSw); go_simp; (try with_reducible rfl))
  simp only [Act.put, List.setIfInBounds_toArray, List.set_cons_zero, List.set_cons_succ]
  refine wpAnyH_take (i := 1) (v := ?_) rfl (by kernel_rfl) (by kernel_rfl) (by kernel_rfl) (fun _ _ _ h => h) (Or.inl ⟨by rfl, ?_⟩) (by assumption) ?_
  rotate_left
  · (intro w hSw; (try dsimp only at hSw); go_simp; (try with_reducible rfl))
  simp only [Act.put, List.setIfInBounds_toArray, List.set_cons_zero, List.set_cons_succ]
  refine wpAnyH_take (i := 2) (v := ?_) rfl (by kernel_rfl) (by kernel_rfl) (by kernel_rfl) (fun _ _ _ h => h) (Or.inl ⟨by rfl, ?_⟩) (by assumption) ?_
  rotate_left
  · (intro w hSw; (try dsimp only at hSw); go_simp; (try with_reducible rfl))
  simp only [Act.put, List.setIfInBounds_toArray, List.set_cons_zero, List.set_cons_succ]
  refine wpAnyH_take (i := 3) (v := ?_) rfl (by kernel_rfl) (by kernel_rfl) (by kernel_rfl) (fun _ _ _ h => h) (Or.inl ⟨by rfl, ?_⟩) (by assumption) ?_
  rotate_left
  · (intro w hSw; (try dsimp only at hSw); go_simp; (try with_reducible rfl))
  simp only [Act.put, List.setIfInBounds_toArray, List.set_cons_zero, List.set_cons_succ]
  refine wpAnyH_take (i := 4) (v := ?_) rfl (by kernel_rfl) (by kernel_rfl) (by kernel_rfl) (fun _ _ _ h => h) (Or.inl ⟨by rfl, ?_⟩) (by assumption) ?_
  rotate_left
  · (intro w hSw; (try dsimp only at hSw); go_simp; (try with_reducible rfl))
  simp only [Act.put, List.setIfInBounds_toArray, List.set_cons_zero, List.set_cons_succ]
  refine wpAnyH_take (i := 5) (v := ?_) rfl (by kernel_rfl) (by kernel_rfl) (by kernel_rfl) (fun _ _ _ h => h) (Or.inl ⟨by rfl, ?_⟩) (by assumption) ?_
  rotate_left
  · (intro w hSw; (try dsimp only at hSw); go_simp; (try with_reducible rfl))
  simp only [Act.put, List.setIfInBounds_toArray, List.set_cons_zero, List.set_cons_succ]
  refine wpAnyH_ready (rs := [6]) (by kernel_rfl) (by simp) ?_
  refine AllReadyH.cons rfl (fun K hK => ?_) AllReadyH.nil
  go_simp
  refine (l00Own_any P n cP p _ (HP4.out.reads.keep hdr) (by omega)).mono ?_
  rintro e w5 ⟨A5, n5, k5, rfl, ho5, hb5⟩
  dsimp only
  have hb5' : Below w4.heap.size w4 w5 := hdr.trans (hb5.mono (Nat.le_refl _))
  refine hK.out _ _ (below_cell hb5' c5) (fun hS1 => ?_)
  clear hK K hS
  refine wpAnyH_ready (rs := [7]) (by kernel_rfl) (by simp) ?_
  refine AllReadyH.cons rfl (fun K hK => ?_) AllReadyH.nil
  go_simp
  have hb6 := hb5'.trans ((below_alloc w5 (.cells #[.slice A5 n5 k5] 24)).mono hb5'.size)
  refine hK.out _ _ (below_cell hb6 c5) (fun hS2 => ?_)
  clear hK K hS1
  refine wpAnyH_ready (rs := [8]) (by kernel_rfl) (by simp) ?_
  refine AllReadyH.cons rfl (fun K hK => ?_) AllReadyH.nil
  have X5 := HX4.out.step hb5'
  have P5 : OI w5 (w0.heap.size + 1) 2 A5 n5 k5 p := ho5.more HX4.out.sb.lt
  have hfar : blk A5 = none ∨ blk A5 ≠ blk FA := far_of_old ho5 HX4.out.sb.fc (Nat.le_refl _)
  have hk5 := (HK4.out.trans' (Kp.of_below (r := blk BA) hb5') (Fresh.refl _ _)).size
  refine step_of_list (by rfl) ?_
  obtain ⟨vs5, hv5, hva5⟩ := X5.sb.best
  refine app_best _ (by rfl) (.tmp 56) (.tmp 59) (by rfl) (w0.heap.size + 1) BA bn bc vs5 (by rfl) hv5.os (A5, n5, k5) _ (by rfl) (by simp) (by omega) X5.sb.lt ?_
  intro A6 c6 w6 ho6 hg6 hf6
  have hx6 := X5.x.grown hg6 (OS.typed' hv5.os X5.x (by decide))
  have z6 := hx6.frozen 5
  have c6' := hx6.cell 5
  have X6 := X5.push P5 hv5 hva5 hfar hg6 ho6
  have K6 := ((HK4.out.trans' (Kp.of_below (r := blk BA) hb5') (Fresh.refl _ _)).trans (Kp.of_grown (pb := w0.heap.size) hg6) (.inl rfl)).trans' (Kp.of_set (pb := w0.heap.size) (r := blk BA) 5 (.slice A6 (bn + 1) c6)) (Fresh.refl _ _)
  refine list_onlyK ?_
  refine hK.out _ _ c6' (fun hS3 => ?_)
  clear hK K hS2
  refine wpAnyH_take (i := 9) (v := ?_) rfl (by kernel_rfl) (by kernel_rfl) (by kernel_rfl) (fun _ _ _ h => h) (Or.inl ⟨by rfl, ?_⟩) (by assumption) ?_
  rotate_left
  · (intro w hSw; (try dsimp only at hSw); go_simp; (try with_reducible rfl))
  simp only [Act.put, List.setIfInBounds_toArray, List.set_cons_zero, List.set_cons_succ]
  refine wpAnyH_take (i := 10) (v := ?_) rfl (by kernel_rfl) (by kernel_rfl) (by kernel_rfl) (fun _ _ _ h => h) (Or.inl ⟨by rfl, ?_⟩) (by assumption) ?_
  rotate_left
  · (intro w hSw; (try dsimp only at hSw); go_simp; (try with_reducible rfl))
  simp only [Act.put, List.setIfInBounds_toArray, List.set_cons_zero, List.set_cons_succ]
  refine wpAnyH_done (by kernel_rfl) ?_ _
  dsimp only [atEnd]
  have HX6 := Lib.hid X6
  have HK6 := Lib.hid K6
  have HF6 := Lib.hid hf6
  clear hS3 X6 K6 hf6 hx6 hg6 ho6 hv5 hva5 X5 P5 ho5 hb5 hb6 hb5' hfar c5 hdr
  go_wp2
  refine bodyPost_ret (results_none rfl _ _ _) rfl ?_
  rw [HL.out]
  refine ⟨rfl, _, _, _, _, _, _, _, _, _, HX6.out, HK6.out, ?_⟩
  rcases HF6.out with h | h | ⟨k, h, h1⟩
  · exact .inl h
  · exact .inr (.inl h)
  · exact .inr (.inr ⟨k, h, Nat.le_trans hk5 h1⟩)

set_option maxRecDepth 100000 in
set_option maxHeartbeats 4000000 in
theorem runLeaf_pos (w0 w : World) (A : Option Addr) (n c : Nat) (F : Option Addr) (m d : Nat) (cs : List Int) (es : List Ed) (N : Option Addr) (nn cN : Nat) (BA : Option Addr) (bn bc : Nat) (FA : Option Addr) (fn fk : Nat) (FF : Option Addr) (fm fd : Nat) (s : St) (P : Option Addr) (cP : Nat) (p : List Int)
    (hG : RG w0 A n F m cs es) (hX : RFd w0 w A n c F m d N nn cN BA bn bc FA fn fk FF fm fd s) (hP : OI w (w0.heap.size + 1) 2 P n cP p) (hc : Cells n p) (ht : tgtP p < 0) (hn : n ≤ 4096) (hm : m ≤ 1048576) (he : EdgesOk n es) (hl : s.leaves ≤ 100000) (hbl : s.best.length ≤ 100000) (hb0 : s.best ≠ []) (h2 : 0 < cmpF (relC cs p) (relE es p) s.fc s.fe) :
    Calls Tryz.prog 92 #[.pointer (some ⟨w0.heap.size, 0, none⟩), .slice P n cP] w (RetRF w0 w A n c F m d N nn cN BA (leafP cs es s p)) := by
  obtain ⟨vs0, hv0, -⟩ := hX.sb.best
  have hbn := hv0.slen
  have hp := tgtP_perm hc ht
  have htg := l22Target_any P n cP p w hP.reads (by omega) hc
  have hbn0 : 0 < bn := by
    rw [← hbn]
    exact List.length_pos_iff.2 hb0
  have hlf : leafC cs es s p = cmpF (relC cs p) (relE es p) s.fc s.fe := by rw [leafC, if_neg hb0]
  generalize hcc : cmpF (relC cs p) (relE es p) s.fc s.fe = cc at *
  have HL := Lib.hid (leafP_pos (cs := cs) (es := es) (p := p) (show ¬ leafC cs es s p < 0 by rw [hlf]; omega) (by rw [hlf]; omega))
  have h1 : ¬ cc < 0 := by omega
  have h1' : ¬ cc ≤ 0 := by omega
  clear hb0 hlf hbn
  have HN := Lib.hid (show (relC cs p).length ≤ 4096 by rw [relC_len, hG.ri.len]; exact hn)
  have HM := Lib.hid (show (relE es p).length ≤ 1048576 by have := relE_len es p; rw [hG.re.len] at this; omega)
  have HX := Lib.hid hX
  have HP := Lib.hid hP
  have HG := Lib.hid hG
  have HE := Lib.hid he
  have HPp := Lib.hid hp
  generalize tgtP p = tg at *
  clear hX hP hG he hp hc hv0
  go_enter Tryz.func92, Tryz.ntmps92
  go_wp2_with fail
  refine htg.mono ?_
  rintro e w1 ⟨rfl, hd1⟩
  have X1 := HX.out.step hd1.below
  have P1 := HP.out.below hd1.below
  have K1 := Kp.of_below (pb := w0.heap.size) (r := blk BA) hd1.below
  have c7 := X1.cells.2.2.2.1
  have z7 := X1.frozen 7
  have q0 := X1.cells.1.1
  have q1 := X1.cells.1.2.1
  have X2 := X1.leaves (u := (s.leaves : Int) + 1) (s.leaves + 1) (by omega)
  have P2 := P1.setLow (p := ⟨w0.heap.size, 7, none⟩) (Nat.lt_succ_self _) (.int .i64 ((s.leaves : Int) + 1))
  have K2 := K1.trans' (Kp.of_set (pb := w0.heap.size) (r := blk BA) 7 (.int .i64 ((s.leaves : Int) + 1))) (Fresh.refl _ _)
  have HX2 := Lib.hid X2
  have HP2 := Lib.hid P2
  have HK2 := Lib.hid K2
  clear hd1 htg X1 P1 K1 X2 P2 K2
  go_wp2_with fail
  clear c7 z7 q0 q1
  generalize hW2 : w1.setCell ⟨w0.heap.size, 7, none⟩ (.int .i64 ((s.leaves : Int) + 1)) = W2 at *
  refine (l21Relabel_any A n c F m d cs es P cP p _ (HG.out.keep HX2.out.sb.b) HP2.out.reads HPp.out hn hm HE.out).mono ?_
  rintro e w3 ⟨A2, n2, c2, F2, m2, d2, rfl, hG2, hb2⟩
  obtain ⟨W3, hW3⟩ : ∃ W3, w3.alloc (.cells #[.slice A2 n2 c2, .slice F2 m2 d2] 27) = W3 := ⟨_, rfl⟩
  have hb3 : Below w3.heap.size w3 W3 := hW3 ▸ below_alloc w3 _
  have E : Blk W3 w3.heap.size 27 #[.slice A2 n2 c2, .slice F2 m2 d2] := hW3 ▸ Blk.new w3 _ _
  have X3 := (HX2.out.step hb2).step hb3
  have hk3 := ((HK2.out.trans' (Kp.of_below (r := blk BA) hb2) (Fresh.refl _ _)).trans' (Kp.of_below (r := blk BA) hb3) (Fresh.refl _ _)).size
  have hz3 := X3.sb.lt
  have z3 := X3.frozen 3
  have z4 := X3.frozen 4
  have z5 := X3.frozen 5
  have c5 := X3.cells.2.1
  have c3 := X3.cells.1.2.2.2.1
  have c4 := X3.cells.1.2.2.2.2
  have E1 := E.cells2.1
  have E2 := E.cells2.2
  have HX3 := Lib.hid X3
  have HP3 := Lib.hid ((HP2.out.below hb2).below hb3)
  have HK3 := Lib.hid ((HK2.out.trans' (Kp.of_below (r := blk BA) hb2) (Fresh.refl _ _)).trans' (Kp.of_below (r := blk BA) hb3) (Fresh.refl _ _))
  have HO := Lib.hid ((hG2.oi.below hb3).more (B' := w0.heap.size + 1) HX2.out.sb.lt)
  have HF := Lib.hid ((hG2.oe.below hb3).more (B' := w0.heap.size + 1) HX2.out.sb.lt)
  clear X3 E hb2 hb3 hG2 hW2
  have hlo := HO.out.len
  have hle2 := HF.out.len
  have hlc := HX3.out.sb.lc
  have hle := HX3.out.sb.le_
  have hfn := HX3.out.sb.fc.len
  have hfm := HX3.out.sb.fe.len
  have hNN := HN.out
  have hMM := HM.out
  have hcf := fun (W' : World) (hb : Below W3.heap.size W3 W') => l22Compare_any A2 n2 c2 F2 m2 d2 (relC cs p) (relE es p) FA fn fk FF fm fd s.fc s.fe W' ((RG.mk HO.out.reads HF.out.reads).keep hb) ((RG.mk HX3.out.sb.fc.reads HX3.out.sb.fe.reads).keep hb) (by omega) (by omega) (by omega) (by omega)
  rw [hcc] at hcf
  have HCF := Lib.hid hcf
  clear hcf hlo hle2 hlc hle hfn hfm hNN hMM hcc
  go_wp2
  go_region_held_law (fun w' => Below W3.heap.size W3 w' ∧ w'.cell? ⟨w3.heap.size, 0, none⟩ = some (.slice A2 n2 c2) ∧ w'.cell? ⟨w3.heap.size, 1, none⟩ = some (.slice F2 m2 d2) ∧ w'.cell? ⟨w0.heap.size, 3, none⟩ = some (.slice FA fn fk) ∧ w'.cell? ⟨w0.heap.size, 4, none⟩ = some (.slice FF fm fd))
    (first | exact keep4 (below_drewn _ 1) E1 E2 c3 c4 | exact keep4 (by assumption) E1 E2 c3 c4)
    (first | (go_at_call 123; (with_reducible refine (HCF.out _ ?_).mono ?_); (exact below_drewn _ 1); rintro e w4 ⟨rfl, hb4⟩; have hX4 : Below W3.heap.size W3 w4 := (below_drewn _ 1).trans (hb4.mono (Nat.le_refl _))))
  have HX4 := Lib.hid (HX3.out.step hX4)
  have HP4 := Lib.hid (HP3.out.below hX4)
  have HK4 := Lib.hid (HK3.out.trans' (Kp.of_below (r := blk BA) hX4) (Fresh.refl _ _))
  have HO4 := Lib.hid (HO.out.below hX4)
  have HF4 := Lib.hid (HF.out.below hX4)
  have E1 := below_cell hX4 E1
  have E2 := below_cell hX4 E2
  have c5 := HX4.out.cells.2.1
  have c3 := HX4.out.cells.1.2.2.2.1
  have c4 := HX4.out.cells.1.2.2.2.2
  have z3 := HX4.out.frozen 3
  have z4 := HX4.out.frozen 4
  have z5 := HX4.out.frozen 5
  have hz4 := HX4.out.sb.lt
  have hk4 := HK4.out.size
  clear hX4 hb4 hz3 hk3 hW3
  go_wp2
  refine bodyPost_ret (results_none rfl _ _ _) rfl ?_
  rw [HL.out]
  exact ⟨rfl, _, _, _, _, _, _, _, _, _, HX4.out, HK4.out, Fresh.refl _ _⟩

theorem runLeaf_any (w0 w : World) (A : Option Addr) (n c : Nat) (F : Option Addr) (m d : Nat) (cs : List Int) (es : List Ed) (N : Option Addr) (nn cN : Nat) (BA : Option Addr) (bn bc : Nat) (FA : Option Addr) (fn fk : Nat) (FF : Option Addr) (fm fd : Nat) (s : St) (P : Option Addr) (cP : Nat) (p : List Int)
    (hG : RG w0 A n F m cs es) (hX : RFd w0 w A n c F m d N nn cN BA bn bc FA fn fk FF fm fd s) (hP : OI w (w0.heap.size + 1) 2 P n cP p) (hc : Cells n p) (ht : tgtP p < 0) (hn : n ≤ 4096) (hm : m ≤ 1048576) (he : EdgesOk n es) (hl : s.leaves ≤ 100000) (hbl : s.best.length ≤ 100000) :
    Calls Tryz.prog 92 #[.pointer (some ⟨w0.heap.size, 0, none⟩), .slice P n cP] w (RetRF w0 w A n c F m d N nn cN BA (leafP cs es s p)) := by
  by_cases hb0 : s.best = []
  · exact runLeaf_none w0 w A n c F m d cs es N nn cN BA bn bc FA fn fk FF fm fd s P cP p hG hX hP hc ht hn hm he hl hbl hb0
  · rcases Int.lt_trichotomy (cmpF (relC cs p) (relE es p) s.fc s.fe) 0 with h | h | h
    · exact runLeaf_neg w0 w A n c F m d cs es N nn cN BA bn bc FA fn fk FF fm fd s P cP p hG hX hP hc ht hn hm he hl hbl hb0 h
    · exact runLeaf_same w0 w A n c F m d cs es N nn cN BA bn bc FA fn fk FF fm fd s P cP p hG hX hP hc ht hn hm he hl hbl hb0 h
    · exact runLeaf_pos w0 w A n c F m d cs es N nn cN BA bn bc FA fn fk FF fm fd s P cP p hG hX hP hc ht hn hm he hl hbl hb0 h
end Go.Proofs.YtkihflnenifcgaaGreatDoor
