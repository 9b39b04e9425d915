/- DesignGroup, the program's side. No condition beyond those stated. -/
import Derived.Test.YtdkbcjdimhgmnaaGreatRHR
import Derived.Test.YtdkbcjdimhgmnaaGreatRHD
set_option linter.unusedVariables false
set_option linter.unusedSimpArgs false
namespace Go.Proofs.YtdkbcjdimhgmnaaGreat
open Go.RowKit
def RetGo (w : World) (v : Int) (bs : List (List Int)) (b : Int) (e : Ending) (w' : World) : Prop :=
  ∃ A n c, e = .returned (.tuple #[.agg #[.int .i64 (grV v bs b), .slice A n c], .int .i64 (grK v bs b)]) ∧ OR w' w.heap.size 22 2 A n c (grR v bs b) ∧ Below w.heap.size w w'
theorem ORv.subs {w w' : World} {B : Nat} {g n c m : Nat} {vs : List Sl} {zss : List (List Int)} (h : ORv w B 22 2 (some ⟨g, 0, none⟩) n c vs zss) {Y : List PL} (hm : ∀ p ∈ Y, p ∈ vs.zip zss) (ha : (Y.map (·.1)).Pairwise apart) (hv : PV w' B 22 g m c Y) (hg : w.grownBy w' (some g)) :
    ORv w' B 22 2 (some ⟨g, 0, none⟩) m c (Y.map (·.1)) (Y.map (·.2)) := by
  refine ⟨?_, by simp, fun j v z hv' hz => ?_, pairwise_apart ha, h.ne⟩
  · have := hv.os
    rw [List.map_map]
    exact this
  · rw [List.getElem?_map] at hv' hz
    cases hy : Y[j]? with
    | none => rw [hy] at hv'; cases hv'
    | some p =>
      rw [hy] at hv' hz
      simp only [Option.map_some, Option.some.injEq] at hv' hz
      subst hv'; subst hz
      obtain ⟨i, hi⟩ := List.getElem?_of_mem (hm p (List.mem_of_getElem? hy))
      rw [List.getElem?_zip_eq_some] at hi
      obtain ⟨h1, h2⟩ := hi
      refine (h.rows i _ _ h1 h2).kept hg ?_
      rcases h.outer_row h1 with h3 | h3
      · exact .inl h3
      · exact .inr (by simpa [blk] using h3)
theorem grownBy_far {w w' w'' : World} {r s : Option Nat} (h : w.grownBy w' r) (k : w'.grownBy w'' s) (hs : ∀ b, s = some b → w.heap.size ≤ b) : w.grownBy w'' r :=
  ⟨k.os.trans h.os, k.tape.trans h.tape, k.output.trans h.output, Nat.le_trans h.size k.size, fun i hi hr => (k.block i (Nat.lt_of_lt_of_le hi h.size) (fun e => by have := hs i e.symm; omega)).trans (h.block i hi hr)⟩
set_option maxRecDepth 100000 in
set_option maxHeartbeats 1000000 in
theorem impl_DesignGroup_err (v : Int) (A : Option Addr) (n c : Nat) (bs : List (List Int)) (b : Int) (w : World) (ha : RR w A n bs) (hn : n ≤ 1048576) (h0 : dK v bs b ≠ 0) :
    Calls Tryz.prog 32 #[.agg #[.int .i64 v, .slice A n c], .int .i64 b] w (RetGo w v bs b) := by
  have hb1 := below_then (below_alloc w (.cells #[.int .i64 v, .slice A n c] 56)) (below_alloc _ (.cells #[.int .i64 0, .slice none 0 0] 68))
  have X := (Blk.new w 56 #[.int .i64 v, .slice A n c]).alloc (.cells #[.int .i64 0, .slice none 0 0] 68)
  have Y : Blk ((w.alloc (.cells #[.int .i64 v, .slice A n c] 56)).alloc (.cells #[.int .i64 0, .slice none 0 0] 68)) (w.heap.size + 1) 68 #[.int .i64 0, .slice none 0 0] := by
    have := Blk.new (w.alloc (.cells #[.int .i64 v, .slice A n c] 56)) 68 #[.int .i64 0, .slice none 0 0]
    simpa using this
  have hf := exploredDesign_all v A n c bs b _ (ha.keep hb1) (by omega)
  have HR := Lib.hid (gr_err h0)
  have h0' : (dK v bs b != 0) = true := by simp [h0]
  clear h0
  generalize hW1 : (w.alloc (.cells #[.int .i64 v, .slice A n c] 56)).alloc (.cells #[.int .i64 0, .slice none 0 0] 68) = W1 at *
  obtain ⟨x0, x1⟩ := X.cells2
  go_enter Tryz.func32, Tryz.ntmps32
  go_wp2_with fail
  refine hf.mono ?_
  rintro e w2 ⟨hb2, p, rfl, -⟩
  have Y2 := Y.after hb2
  obtain ⟨y0, y1⟩ := Y2.cells2
  have f0 := Y2.frozen 0
  have f1 := Y2.frozen 1
  have YF := (Y2.set_ 0 (.int .i64 0)).set_ 1 (.slice none 0 0)
  obtain ⟨z0, z1⟩ : ((w2.setCell ⟨w.heap.size + 1, 0, none⟩ (.int .i64 0)).setCell ⟨w.heap.size + 1, 1, none⟩ (.slice none 0 0)).cell? ⟨w.heap.size + 1, 0, none⟩ = some (.int .i64 0) ∧ ((w2.setCell ⟨w.heap.size + 1, 0, none⟩ (.int .i64 0)).setCell ⟨w.heap.size + 1, 1, none⟩ (.slice none 0 0)).cell? ⟨w.heap.size + 1, 1, none⟩ = some (.slice none 0 0) := ⟨YF.cell 0, YF.cell 1⟩
  have hw2 := hb1.trans (hb2.mono hb1.size)
  clear hf x0 x1
  go_wp2
  refine bodyPost_ret (v := .tuple #[.agg #[.int .i64 0, .slice none 0 0], .int .i64 (dK v bs b)]) (by simp [results, Tryz.results32, go_sem, z0, z1]) rfl ?_
  exact ⟨none, 0, 0, by rw [HR.out.1, HR.out.2.1], by rw [HR.out.2.2]; exact OR.nil_ _ _ (by decide), (hw2.setCell (p := ⟨w.heap.size + 1, 0, none⟩) (by simp) _).setCell (p := ⟨w.heap.size + 1, 1, none⟩) (by simp) _⟩
theorem cut_step {V m : Nat} {best : List (List Int)} (h0 : 0 < best.length) (h : ∀ p ∈ best, UpL (dsC V m) p ∧ Perm p) {k : Nat} (hk : k < best.length) : (cutL V best).take k ++ [(row (autL best) k).take V] = (cutL V best).take (k + 1) := by
  rw [← cutL_aut h0 h, List.take_succ_eq_append_getElem (by rw [List.length_map, autL_len]; exact hk), List.getElem_map, row_get (by rw [autL_len]; exact hk)]
theorem comp_cut {Y : List (List Int)} {l : List (List Int)} (hs : SortedL cmpL Y) (hp : Y.Perm l) : comp Y = setG cmpL l := setG_comp cmpL_ord hs fun x => hp.mem_iff
set_option maxRecDepth 100000 in
set_option maxHeartbeats 4000000 in
theorem impl_DesignGroup_ok (V : Nat) (A : Option Addr) (n c : Nat) (bs : List (List Int)) (b : Int) (w : World) (ha : RR w A n bs) (hn : n ≤ 1048576) (h0 : dK (V : Int) bs b = 0) :
    Calls Tryz.prog 32 #[.agg #[.int .i64 V, .slice A n c], .int .i64 b] w (RetGo w (V : Int) bs b) := by
  have hb1 := below_then (below_alloc w (.cells #[.int .i64 V, .slice A n c] 56)) (below_alloc _ (.cells #[.int .i64 0, .slice none 0 0] 68))
  have X := (Blk.new w 56 #[.int .i64 V, .slice A n c]).alloc (.cells #[.int .i64 0, .slice none 0 0] 68)
  have Y : Blk ((w.alloc (.cells #[.int .i64 V, .slice A n c] 56)).alloc (.cells #[.int .i64 0, .slice none 0 0] 68)) (w.heap.size + 1) 68 #[.int .i64 0, .slice none 0 0] := by
    have := Blk.new (w.alloc (.cells #[.int .i64 V, .slice A n c] 56)) 68 #[.int .i64 0, .slice none 0 0]
    simpa using this
  have hf := exploredDesign_all V A n c bs b _ (ha.keep hb1) (by omega)
  have HC := Lib.hid h0
  clear h0
  generalize hW1 : (w.alloc (.cells #[.int .i64 V, .slice A n c] 56)).alloc (.cells #[.int .i64 0, .slice none 0 0] 68) = W1 at *
  obtain ⟨x0, x1⟩ := X.cells2
  go_enter Tryz.func32, Tryz.ntmps32
  go_wp2_with fail
  refine hf.mono ?_
  rintro e w2 ⟨hb2, p, rfl, hp⟩
  obtain ⟨GA, gn, gc, GF, gm, gd, w0, rfl, hb0, N, cN, BA, bn, bc, FA, fn, fk, FF, fm, fd, hX⟩ := hp HC.out
  rw [HC.out]
  have hw2 := hb1.trans (hb2.mono hb1.size)
  have X2 := X.after hb2
  have Y2 := Y.after hb2
  obtain ⟨vs, hbv, -⟩ := hX.sb.best
  have hbn := hbv.slen
  have c9 := hX.cells.2.2.2.2.2
  clear x0 x1
  obtain ⟨x0, x1⟩ := X2.cells2
  obtain ⟨VV, hVV, hD, hin, hg0, hcp⟩ := dK_zero HC.out
  obtain rfl : VV = V := by omega
  obtain ⟨s1, s2, s3⟩ := codeP_ok hcp
  have hbl := runP_len (dgC VV bs) (dgE VV bs) b.toNat
  have HB := Lib.hid (runP_best s1)
  have HP := Lib.hid (run_perms (dgC VV bs) (dgE VV bs) b.toNat)
  have hc64 := s2.clen
  have hbn0 : 0 < bn := by rw [← hbn]; exact List.length_pos_iff.2 HB.out
  have hdg : dgC VV bs = dsC VV bs.length := by
    by_cases h : dsF VV bs = true
    · rw [dgK, h] at hg0; cases hg0
    · rw [dgC, if_neg h]
  have hUp := run_cut (V := VV) (m := bs.length) (dgE VV bs) b.toNat
  rw [← hdg] at hUp
  simp only [Int.toNat_natCast] at hbn hbv
  generalize hbest : (runP (dgC VV bs) (dgE VV bs) b.toNat).best = best at *
  have hv32 := hD.v2
  have hVn : VV ≤ (dgC VV bs).length := by rw [hdg, dsC_len]; omega
  rw [hdg] at hUp
  generalize hnc : (dgC VV bs).length = nc at *
  have hgl : grL (VV : Int) bs b = setG cmpL (cutL VV best) := by rw [grL, Int.toNat_natCast, hbest]
  have HG := Lib.hid hgl
  have HU := Lib.hid hUp
  have HBN := Lib.hid hbn
  have hbl := hbl.1
  have hbl2 : best.length ≤ 20001 := by omega
  clear hgl hUp hbest hnc hdg hp hg0 hcp s1 s2 s3 hD hin hbl
  have hal := below_alloc w2 (.cells #[.int .i64 VV, .slice none 0 0] 68)
  have hau := automorphisms_any (w2.alloc (.cells #[.int .i64 VV, .slice none 0 0] 68)) w0.heap.size BA bn bc best nc (below_cell hal c9) (hbv.reads.keep hal) hbn0 (by omega) (by omega) HP.out
  have GG := Blk.new w2 68 #[.int .i64 VV, .slice none 0 0]
  have z2 : (w2.alloc (.cells #[.int .i64 VV, .slice none 0 0] 68)).heap.size = w2.heap.size + 1 := by simp
  have Z2 := Lib.hid z2
  clear z2
  go_wp2_with fail
  refine hau.mono ?_
  rintro e w3 ⟨A3, n3, c3, rfl, ho3, hb3⟩
  obtain rfl : n3 = bn := by rw [← ho3.len, autL_len, HBN.out]
  have G3 := GG.after hb3
  have X3 := (X2.after hal).after hb3
  have Y3 := (Y2.after hal).after hb3
  have hb23 := hal.trans (hb3.mono hal.size)
  have hw3 := hw2.trans (hb23.mono hw2.size)
  have hlG := G3.lt
  have hlX := X2.lt
  have hlY := Y2.lt
  obtain ⟨vs3, hv3⟩ := ho3
  have hfar0 : blk A3 = none ∨ blk A3 ≠ some w2.heap.size := by
    cases h : blk A3 with
    | none => exact .inl rfl
    | some k =>
      refine .inr fun e => ?_
      injection e with e
      have := (hv3.os.lt h).1
      have := Z2.out
      omega
  have hfarR : ∀ (j : Nat) (v : Sl), vs3[j]? = some v → blk v.1 = none ∨ blk v.1 ≠ some w2.heap.size := fun j v hv => by
    cases h : blk v.1 with
    | none => exact .inl rfl
    | some k =>
      refine .inr fun e => ?_
      injection e with e
      have hj : j < (autL best).length := by rw [← hv3.len]; exact (List.getElem?_eq_some_iff.1 hv).1
      have := ((hv3.rows j v _ hv (List.getElem?_eq_getElem hj)).os.lt h).1
      have := Z2.out
      omega
  have HF0 := Lib.hid hfar0
  have HFR := Lib.hid hfarR
  clear hfar0 hfarR hau hal hbv hX hb3 hf GG hb2 c9
  go_wp2
  go_loopw [10, 27] (fun _ i wr => ∃ (j : Nat) (GA : Option Addr) (gc : Nat), i = .int .i64 j ∧ j ≤ n3 ∧ Blk wr w2.heap.size 68 #[.int .i64 VV, .slice GA j gc] ∧ OR wr w3.heap.size 22 2 GA j gc ((cutL VV best).take j) ∧ w3.grownBy wr (some w2.heap.size)) (fun _ i _ => n3 - (intOf i).toNat)
  case atStart => exact ⟨0, none, 0, rfl, Nat.zero_le _, G3, OR.nil_ _ _ (by decide), World.grownBy.refl _ _⟩
  case round =>
    clear x0 x1 G3
    obtain ⟨j, GA, gc, rfl, hj, hG, ho, hk⟩ := hrel
    have Xr := X3.grown hk (by intro e; injection e with e; omega)
    have Yr := Y3.grown hk (by intro e; injection e with e; omega)
    obtain ⟨x0, x1⟩ := Xr.cells2
    obtain ⟨g0, g1⟩ := hG.cells2
    have hsz := hk.size
    by_cases hlt : j < n3
    · have hv3r := hv3.kept hk HF0.out HFR.out
      obtain ⟨ba, A2, n2, c2, rfl, hcs, hn2, hc2, hrs⟩ := (OR.reads ⟨vs3, hv3r⟩).get hlt
      have hrl : n2 = nc := by
        rw [← hrs.len, autL_at (by rw [HBN.out]; exact hlt), thenP_len]
        exact (HP.out j (by rw [HBN.out]; exact hlt)).1
      have hcut := hrs.take (k := VV) (by omega)
      have hst := Lib.hid (cut_step (m := bs.length) (by rw [HBN.out]; exact hbn0) HU.out (k := j) (by rw [HBN.out]; exact hlt))
      have hVn2 : VV ≤ n2 := by omega
      have hVc2 : VV ≤ c2 := by omega
      have hdr : Below wr.heap.size wr wr.drew := by have := below_drewn wr 1; rwa [← World.drew_is_drewN] at this
      clear hv3r hrs hrl
      go_wp2
      refine region_lastC (P := Tryz.prog) (S := fun w' => w'.cell? ⟨w2.heap.size, 1, none⟩ = some (.slice GA j gc) ∧ w'.cell? ⟨w.heap.size, 0, none⟩ = some (.int .i64 VV)) (by kernel_rfl) (by simp only [List.getLast?_cons_cons, List.getLast?_singleton]; rfl) (by dsimp only [List.dropLast]) (by kernel_rfl) (by simpa using ⟨g1, x0⟩) ?_
      intro hS
      refine wpAnyH_take (i := 0) (v := ?_) rfl (by kernel_rfl) (by kernel_rfl) (by kernel_rfl) (fun _ _ _ h => h) (Or.inl ⟨by rfl, ?_⟩) (by assumption) ?_
      rotate_left
      · (intro w hSw; (try dsimp only at hSw); go_simp; (try with_reducible rfl))
      simp only [Act.put, List.setIfInBounds_toArray, List.set_cons_zero, List.set_cons_succ]
      refine wpAnyH_take (i := 1) (v := ?_) rfl (by kernel_rfl) (by kernel_rfl) (by kernel_rfl) (fun _ _ _ h => h) (Or.inl ⟨by rfl, ?_⟩) (by assumption) ?_
      rotate_left
      · (intro w hSw; (try dsimp only at hSw); go_simp; (try with_reducible rfl))
      simp only [Act.put, List.setIfInBounds_toArray, List.set_cons_zero, List.set_cons_succ]
      refine wpAnyH_take (i := 2) (v := ?_) rfl (by kernel_rfl) (by kernel_rfl) (by kernel_rfl) (fun _ _ _ h => h) (Or.inl ⟨by rfl, ?_⟩) (by assumption) ?_
      rotate_left
      · (intro w hSw; (try dsimp only at hSw); go_simp; (try with_reducible rfl))
      simp only [Act.put, List.setIfInBounds_toArray, List.set_cons_zero, List.set_cons_succ]
      refine wpAnyH_take (i := 3) (v := ?_) rfl (by kernel_rfl) (by kernel_rfl) (by kernel_rfl) (fun _ _ _ h => h) (Or.inl ⟨by rfl, ?_⟩) (by assumption) ?_
      rotate_left
      · (intro w hSw; (try dsimp only at hSw); go_simp; (try with_reducible rfl))
      simp only [Act.put, List.setIfInBounds_toArray, List.set_cons_zero, List.set_cons_succ]
      refine wpAnyH_take (i := 4) (v := ?_) rfl (by kernel_rfl) (by kernel_rfl) (by kernel_rfl) (fun _ _ _ h => h) (Or.inl ⟨by rfl, ?_⟩) (by assumption) ?_
      rotate_left
      · (intro w hSw; (try dsimp only at hSw); go_simp; (try with_reducible rfl))
      simp only [Act.put, List.setIfInBounds_toArray, List.set_cons_zero, List.set_cons_succ]
      refine wpAnyH_take (i := 5) (v := ?_) rfl (by kernel_rfl) (by kernel_rfl) (by kernel_rfl) (fun _ _ _ h => h) (Or.inl ⟨by rfl, ?_⟩) (by assumption) ?_
      rotate_left
      · (intro w hSw; (try dsimp only at hSw); go_simp; (try with_reducible rfl))
      simp only [Act.put, List.setIfInBounds_toArray, List.set_cons_zero, List.set_cons_succ]
      refine wpAnyH_ready (rs := [6]) (by kernel_rfl) (by simp) ?_
      refine AllReadyH.cons rfl (fun K hK => ?_) AllReadyH.nil
      go_simp
      refine (clone_any A2 VV c2 _ _ (hcut.keep hdr) (by omega)).mono ?_
      rintro e w5 ⟨A5, n5, k5, rfl, ho5, hb5⟩
      dsimp only
      have hb5' := hdr.trans (hb5.mono hdr.size)
      refine hK.out _ _ ⟨below_cell hb5' g1, below_cell hb5' x0⟩ (fun hS1 => ?_)
      clear hK K hS
      refine wpAnyH_ready (rs := [7]) (by kernel_rfl) (by simp) ?_
      refine AllReadyH.cons rfl (fun K hK => ?_) AllReadyH.nil
      go_simp
      have hb6 := hb5'.trans ((below_alloc w5 (.cells #[.slice A5 n5 k5] 22)).mono hb5'.size)
      refine hK.out _ _ ⟨below_cell hb6 g1, below_cell hb6 x0⟩ (fun hS2 => ?_)
      clear hK K hS1
      refine wpAnyH_ready (rs := [8]) (by kernel_rfl) (by simp) ?_
      refine AllReadyH.cons rfl (fun K hK => ?_) AllReadyH.nil
      obtain ⟨vsj, hvj⟩ := ho
      have hap := hvj.apart_new (v := (A5, n5, k5)) (fun b hb => (ho5.os.lt hb).1)
      have hvj5 := hvj.below hb5'
      have ho5' := ho5.more (show w3.heap.size ≤ wr.drew.heap.size from hsz)
      refine step_of_list (by rfl) ?_
      refine app_best _ (by rfl) (.tmp 32) (.tmp 38) (by rfl) w3.heap.size GA j gc vsj (by rfl) hvj5.os (A5, n5, k5) _ (by rfl) (by simp) (by omega) (Nat.le_trans hsz hb5'.size) ?_
      intro A6 c6 w6 ho6 hg6 hf6
      have hGA : ∀ b, blk GA = some b → w3.heap.size ≤ b := fun b hb => (hvj.os.lt hb).1
      have hG6 := (hG.after hb5').grown hg6 (fun e => by have := hGA _ e.symm; omega)
      have hX6 := (Xr.after hb5').grown hg6 (fun e => by have := hGA _ e.symm; omega)
      have hi6 := hvj5.push (v := (A5, n5, k5)) ho5' hap hg6 ho6
      rw [hst.out] at hi6
      have hk6 := grownBy_far (grownBy_far hk (grownBy_of_below hb5' none) (fun b hb => by cases hb)) hg6 hGA
      refine list_onlyK ?_
      refine hK.out _ _ ⟨hG6.cells2.2, hX6.cells2.1⟩ (fun hS3 => ?_)
      clear hK K hS2
      refine wpAnyH_take (i := 9) (v := ?_) rfl (by kernel_rfl) (by kernel_rfl) (by kernel_rfl) (fun _ _ _ h => h) (Or.inl ⟨by rfl, ?_⟩) (by assumption) ?_
      rotate_left
      · (intro w hSw; (try dsimp only at hSw); go_simp; (try with_reducible rfl))
      simp only [Act.put, List.setIfInBounds_toArray, List.set_cons_zero, List.set_cons_succ]
      refine wpAnyH_done (by kernel_rfl) ?_ _
      dsimp only [atEnd]
      obtain ⟨q0, q1⟩ := hG6.cells2
      have qf := hG6.frozen 1
      have HG6 := Lib.hid (hG6.set_ 1 (.slice A6 (j + 1) c6))
      have HI6 := Lib.hid (hi6.setLow (p := ⟨w2.heap.size, 1, none⟩) hlG (.slice A6 (j + 1) c6))
      have HK6 := Lib.hid (hk6.trans (grown_set (w := w6) (g := w2.heap.size) (p := 1) (u := .slice A6 (j + 1) c6)))
      clear hS3 hk6 hi6 hX6 hG6 ho6 hg6 hf6 hvj hvj5 hap ho5 ho5' hb5 hb6 hb5' hdr hcut hcs g0 g1 x0 x1 hG hk Xr Yr
      go_wp2
      go_roundw
      case rel => exact ⟨j + 1, A6, c6, by go_num, by omega, HG6.out, HI6.out, HK6.out⟩
      case measure => simp [intOf]; omega
    · obtain rfl : j = n3 := by omega
      rw [List.take_of_length_le (by rw [cutL_len, HBN.out]; exact Nat.le_refl _)] at ho
      obtain ⟨vsj, hvj⟩ := ho
      obtain ⟨gg, rfl, hgB, hgl⟩ := hvj.os.form hbn0
      have hso := sortR_own w3.heap.size gg j gc _ wr hvj.pv (by omega) hgl
      go_wp2_with fail
      refine hso.mono ?_
      rintro e w5 ⟨Y', rfl, hpv, hperm, hsorted, hg5⟩
      have hgl5 := Nat.lt_of_lt_of_le hgl hg5.size
      have hG5 := hG.grown hg5 (by intro e; injection e with e; omega)
      have hco := compactR_sub w3.heap.size gg j gc Y' w5 hpv (by omega) hgl5
      clear g0 g1 hso
      obtain ⟨g0, g1⟩ := hG5.cells2
      go_wp2_with fail
      refine hco.mono ?_
      rintro e w6 ⟨m, Z, rfl, hpz, hcomp, hsub, hg6⟩
      have hg56 := hg5.trans hg6
      have hzs : (Y'.map (·.2)).Perm (cutL VV best) := by
        have := hperm.map (·.2)
        rwa [zip_snd _ _ hvj.len] at this
      have hZ : Z.map (·.2) = setG cmpL (cutL VV best) := by rw [hcomp]; exact comp_cut hsorted hzs
      have hapz : (Z.map (·.1)).Pairwise apart := by
        refine List.Pairwise.sublist (hsub.map _) ?_
        have h2 : (Y'.map (·.1)).Perm vsj := by
          have := hperm.map (·.1)
          rwa [zip_fst _ _ hvj.len] at this
        exact (h2.pairwise_iff (fun {a b} h => h.symm)).2 (apart_pairwise hvj)
      have hfin := hvj.subs (Y := Z) (fun p hp => hperm.mem_iff.1 (hsub.subset hp)) hapz hpz hg56
      rw [hZ] at hfin
      have hm : (setG cmpL (cutL VV best)).length = m := by rw [← hZ, List.length_map, hpz.len]
      have hmn : m ≤ j := by
        have h1 := setG_len (c := cmpL) (cutL VV best)
        rw [hm, cutL_len, HBN.out] at h1
        exact h1
      have HM := Lib.hid hm
      have hG6 := hG5.grown hg6 (by intro e; injection e with e; omega)
      have hY6 := Yr.grown hg56 (by intro e; injection e with e; omega)
      have hk6 : w3.grownBy w6 (some w2.heap.size) := grownBy_far hk hg56 (fun b hb => by injection hb with hb; omega)
      clear g0 g1 hco hpz hcomp hsub hg6 hg5 hperm hsorted hpv hzs hZ hapz hm hG5 hvj hG x0 x1 Xr Yr hg56
      obtain ⟨g0, g1⟩ := hG6.cells2
      have gf := hG6.frozen 1
      have hG7 := hG6.set_ 1 (.slice (some ⟨gg, 0, none⟩) m gc)
      have hY7 := hY6.far (p := ⟨w2.heap.size, 1, none⟩) (by show w.heap.size + 1 ≠ w2.heap.size; omega) (.slice (some ⟨gg, 0, none⟩) m gc)
      obtain ⟨y0, y1⟩ := hY7.cells2
      have f0 := hY7.frozen 0
      have f1 := hY7.frozen 1
      have hw7 : Below w.heap.size w (w6.setCell ⟨w2.heap.size, 1, none⟩ (.slice (some ⟨gg, 0, none⟩) m gc)) :=
        (hw3.grown hk6 hw3.size (fun b hb => by injection hb with hb; rw [← hb]; exact hw2.size)).setCell (p := ⟨w2.heap.size, 1, none⟩) hw2.size _
      have hfin7 := OR.setLow ⟨_, hfin⟩ (p := ⟨w2.heap.size, 1, none⟩) hlG (.slice (some ⟨gg, 0, none⟩) m gc)
      obtain ⟨h70, h71⟩ := hG7.cells2
      by_cases hbig : 720 < m
      · have HR := Lib.hid (gr_big HC.out (show 720 < (grL (VV : Int) bs b).length by rw [HG.out, HM.out]; exact hbig))
        have hb720 : (m : Int) > 720 := by omega
        have YF := (hY7.set_ 0 (.int .i64 0)).set_ 1 (.slice none 0 0)
        obtain ⟨z0, z1⟩ : (((w6.setCell ⟨w2.heap.size, 1, none⟩ (.slice (some ⟨gg, 0, none⟩) m gc)).setCell ⟨w.heap.size + 1, 0, none⟩ (.int .i64 0)).setCell ⟨w.heap.size + 1, 1, none⟩ (.slice none 0 0)).cell? ⟨w.heap.size + 1, 0, none⟩ = some (.int .i64 0) ∧ (((w6.setCell ⟨w2.heap.size, 1, none⟩ (.slice (some ⟨gg, 0, none⟩) m gc)).setCell ⟨w.heap.size + 1, 0, none⟩ (.int .i64 0)).setCell ⟨w.heap.size + 1, 1, none⟩ (.slice none 0 0)).cell? ⟨w.heap.size + 1, 1, none⟩ = some (.slice none 0 0) := ⟨YF.cell 0, YF.cell 1⟩
        clear hbig
        go_wp2
        refine bodyPost_ret (v := .tuple #[.agg #[.int .i64 0, .slice none 0 0], .int .i64 5]) (by simp [results, Tryz.results32, go_sem, z0, z1]) rfl ?_
        exact ⟨none, 0, 0, by rw [HR.out.1, HR.out.2.1], by rw [HR.out.2.2]; exact OR.nil_ _ _ (by decide), (hw7.setCell (p := ⟨w.heap.size + 1, 0, none⟩) (by simp) _).setCell (p := ⟨w.heap.size + 1, 1, none⟩) (by simp) _⟩
      · have HR := Lib.hid (gr_ok HC.out (show ¬ 720 < (grL (VV : Int) bs b).length by rw [HG.out, HM.out]; exact hbig))
        have hb720 : ¬ (m : Int) > 720 := by omega
        have YF := (hY7.set_ 0 (.int .i64 VV)).set_ 1 (.slice (some ⟨gg, 0, none⟩) m gc)
        obtain ⟨z0, z1⟩ : (((w6.setCell ⟨w2.heap.size, 1, none⟩ (.slice (some ⟨gg, 0, none⟩) m gc)).setCell ⟨w.heap.size + 1, 0, none⟩ (.int .i64 VV)).setCell ⟨w.heap.size + 1, 1, none⟩ (.slice (some ⟨gg, 0, none⟩) m gc)).cell? ⟨w.heap.size + 1, 0, none⟩ = some (.int .i64 VV) ∧ (((w6.setCell ⟨w2.heap.size, 1, none⟩ (.slice (some ⟨gg, 0, none⟩) m gc)).setCell ⟨w.heap.size + 1, 0, none⟩ (.int .i64 VV)).setCell ⟨w.heap.size + 1, 1, none⟩ (.slice (some ⟨gg, 0, none⟩) m gc)).cell? ⟨w.heap.size + 1, 1, none⟩ = some (.slice (some ⟨gg, 0, none⟩) m gc) := ⟨YF.cell 0, YF.cell 1⟩
        clear hbig
        go_wp2
        refine bodyPost_ret (v := .tuple #[.agg #[.int .i64 VV, .slice (some ⟨gg, 0, none⟩) m gc], .int .i64 0]) (by simp [results, Tryz.results32, go_sem, z0, z1]) rfl ?_
        refine ⟨some ⟨gg, 0, none⟩, m, gc, by rw [HR.out.1, HR.out.2.1], ?_, (hw7.setCell (p := ⟨w.heap.size + 1, 0, none⟩) (by simp) _).setCell (p := ⟨w.heap.size + 1, 1, none⟩) (by simp) _⟩
        rw [HR.out.2.2, HG.out]
        refine OR.more ((hfin7.setLow (p := ⟨w.heap.size + 1, 0, none⟩) ?_ _).setLow (p := ⟨w.heap.size + 1, 1, none⟩) ?_ _) hw3.size
        all_goals
          show w.heap.size + 1 < w3.heap.size
          omega
theorem impl_DesignGroup (v : Int) (A : Option Addr) (n c : Nat) (bs : List (List Int)) (b : Int) (w : World) (ha : RR w A n bs) (hn : n ≤ 1048576) :
    Calls Tryz.prog 32 #[.agg #[.int .i64 v, .slice A n c], .int .i64 b] w (RetGo w v bs b) := by
  by_cases h : dK v bs b = 0
  · obtain ⟨V, rfl, -⟩ := dK_zero h
    exact impl_DesignGroup_ok V A n c bs b w ha hn h
  · exact impl_DesignGroup_err v A n c bs b w ha hn h
end Go.Proofs.YtdkbcjdimhgmnaaGreat
