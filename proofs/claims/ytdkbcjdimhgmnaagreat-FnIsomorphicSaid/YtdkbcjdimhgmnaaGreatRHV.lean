/- CanonicalDesign, the program's side. No condition beyond those stated. -/
import Derived.Test.YtdkbcjdimhgmnaaGreatRHU
set_option linter.unusedVariables false
set_option linter.unusedSimpArgs false
namespace Go.Proofs.YtdkbcjdimhgmnaaGreat
open Go.RowKit
def RetCo (w : World) (v : Int) (bs : List (List Int)) (b : Int) (e : Ending) (w' : World) : Prop :=
  ∃ A n c P m d D, e = .returned (.tuple #[.agg #[.int .i64 (cdV v bs b), .slice A n c], .slice P m d, .int .i64 (dK v bs b)]) ∧ ORd w' w.heap.size D 22 2 A n c (cdB v bs b) ∧ OI w' D 2 P m d (cdP v bs b) ∧ w.heap.size ≤ D ∧ D ≤ w'.heap.size ∧ Below w.heap.size w w'
set_option maxRecDepth 100000 in
set_option maxHeartbeats 1000000 in
theorem impl_CanonicalDesign_err (v : Int) (A : Option Addr) (n c : Nat) (bs : List (List Int)) (b : Int) (w : World) (ha : RR w A n bs) (hn : n ≤ 1048576) (h0 : dK v bs b ≠ 0) :
    Calls Tryz.prog 29 #[.agg #[.int .i64 v, .slice A n c], .int .i64 b] w (RetCo w v bs b) := by
  have hb1 := below_then (below_alloc w (.cells #[.int .i64 v, .slice A n c] 56)) (below_alloc _ (.cells #[.int .i64 0, .slice none 0 0] 56))
  have X := (Blk.new w 56 #[.int .i64 v, .slice A n c]).alloc (.cells #[.int .i64 0, .slice none 0 0] 56)
  have Y : Blk ((w.alloc (.cells #[.int .i64 v, .slice A n c] 56)).alloc (.cells #[.int .i64 0, .slice none 0 0] 56)) (w.heap.size + 1) 56 #[.int .i64 0, .slice none 0 0] := by
    have := Blk.new (w.alloc (.cells #[.int .i64 v, .slice A n c] 56)) 56 #[.int .i64 0, .slice none 0 0]
    simpa using this
  have hf := exploredDesign_all v A n c bs b _ (ha.keep hb1) (by omega)
  have HR := Lib.hid (cd_err h0)
  have h0' : (dK v bs b != 0) = true := by simp [h0]
  clear h0
  generalize hW1 : (w.alloc (.cells #[.int .i64 v, .slice A n c] 56)).alloc (.cells #[.int .i64 0, .slice none 0 0] 56) = W1 at *
  obtain ⟨x0, x1⟩ := X.cells2
  go_enter Tryz.func29, Tryz.ntmps29
  go_wp2_with fail
  refine hf.mono ?_
  rintro e w2 ⟨hb2, p, rfl, -⟩
  have Y2 := Y.after hb2
  obtain ⟨y0, y1⟩ := Y2.cells2
  have f0 := Y2.frozen 0
  have f1 := Y2.frozen 1
  have YF := (Y2.set_ 0 (.int .i64 0)).set_ 1 (.slice none 0 0)
  obtain ⟨z0, z1⟩ : ((w2.setCell ⟨w.heap.size + 1, 0, none⟩ (.int .i64 0)).setCell ⟨w.heap.size + 1, 1, none⟩ (.slice none 0 0)).cell? ⟨w.heap.size + 1, 0, none⟩ = some (.int .i64 0) ∧ ((w2.setCell ⟨w.heap.size + 1, 0, none⟩ (.int .i64 0)).setCell ⟨w.heap.size + 1, 1, none⟩ (.slice none 0 0)).cell? ⟨w.heap.size + 1, 1, none⟩ = some (.slice none 0 0) := ⟨YF.cell 0, YF.cell 1⟩
  have hw2 := hb1.trans (hb2.mono hb1.size)
  clear hf x0 x1
  go_wp2
  refine bodyPost_ret (v := .tuple #[.agg #[.int .i64 0, .slice none 0 0], .slice none 0 0, .int .i64 (dK v bs b)]) (by simp [results, Tryz.results29, go_sem, z0, z1]) rfl ?_
  have hwf := (hw2.setCell (p := ⟨w.heap.size + 1, 0, none⟩) (by simp) (.int .i64 0)).setCell (p := ⟨w.heap.size + 1, 1, none⟩) (by simp) (.slice none 0 0)
  exact ⟨none, 0, 0, none, 0, 0, _, by rw [HR.out.1], by rw [HR.out.2.1]; exact (OR.nil_ _ _ (by decide)).bound, by rw [HR.out.2.2]; exact OI.nil_ _ _ _, hwf.size, Nat.le_refl _, hwf⟩
theorem rel_ok {n : Nat} {es : List Ed} {p : List Int} (h : EdgesOk n es) (hp : Perm p) (hl : p.length = n) : EdgesOk n (relE es p) := by
  refine ⟨fun e he => ?_, setG_strict cmpE_ord _⟩
  rw [relE_tab h hp hl, tabE_mem] at he
  obtain ⟨a, b, rfl, h1, h2, -⟩ := he
  exact ⟨by simp, by simp; omega, by simp; omega⟩
theorem edges_graph {cs : List Int} {es : List Ed} (h : EdgesOk cs.length es) (hc : cs.length ≤ 64) (he : es.length ≤ 512) (hcol : ∀ k, k < cs.length → 0 ≤ nth cs k ∧ nth cs k ≤ 63) : GraphOk cs es := by
  refine ⟨hc, he, hcol, fun i hi => ?_, fun i hi => ?_⟩
  · have := h.edge (nthE es i) (by rw [nthE_get hi]; exact List.getElem_mem hi)
    exact this
  · have := List.pairwise_iff_getElem.1 h.strict i (i + 1) (by omega) hi (by omega)
    rw [nthE_get (by omega), nthE_get hi]
    exact (cmpE_neg _ _).1 this
theorem cd_bip {V : Nat} {bs : List (List Int)} {p : List Int} (hD : Design (V : Int) bs) (hE : GraphOk (dsC V bs.length) (dsE V bs V)) (hp : Perm p) (hu : UpL (dsC V bs.length) p) : Bip V bs.length (relE (dsE V bs V) p) := by
  have hl : p.length = V + bs.length := by rw [hu.1, dsC_len]
  have hlc : (dsC V bs.length).length = V + bs.length := dsC_len _ _
  have h1 := hD.v1
  have h2 := hD.v2
  refine ⟨by omega, by omega, ?_, cd_edges hp hu, fun i hi => ?_⟩
  · refine edges_graph ?_ hE.clen (Nat.le_trans (relE_len _ _) hE.elen) hE.col
    rw [hlc]
    exact rel_ok dsE_ok hp hl
  · have hm : row ((nearP (V + bs.length) (relE (dsE V bs V) p)).drop V) i ∈ (nearP (V + bs.length) (relE (dsE V bs V) p)).drop V := by
      rw [row_get (by rw [List.length_drop, nearP_len]; omega)]
      exact List.getElem_mem _
    have := (cd_lists hD hp hu).mem_iff.1 hm
    obtain ⟨r, hr, he⟩ := List.mem_map.1 this
    obtain ⟨k, hk, rfl⟩ := List.mem_iff_getElem.1 hr
    rw [← he]
    refine imgR_ne ?_
    have := (hD.blk k hk).1
    rw [row_get hk] at this
    omega
theorem run_form' {cs : List Int} {es : List Ed} {b : Nat} (h : (runP cs es b).spent = false) : (runP cs es b).fc = relC cs (row (runP cs es b).best 0) ∧ (runP cs es b).fe = relE es (row (runP cs es b).best 0) := by
  have hm := row0_mem (runP_best h)
  have := (runP_seen cs es h).forms _ hm
  exact ⟨this.1.symm, this.2.symm⟩
set_option maxRecDepth 100000 in
set_option maxHeartbeats 4000000 in
theorem impl_CanonicalDesign_ok (V : Nat) (A : Option Addr) (n c : Nat) (bs : List (List Int)) (b : Int) (w : World) (ha : RR w A n bs) (hn : n ≤ 1048576) (h0 : dK (V : Int) bs b = 0) :
    Calls Tryz.prog 29 #[.agg #[.int .i64 V, .slice A n c], .int .i64 b] w (RetCo w (V : Int) bs b) := by
  have hb1 := below_then (below_alloc w (.cells #[.int .i64 V, .slice A n c] 56)) (below_alloc _ (.cells #[.int .i64 0, .slice none 0 0] 56))
  have X := (Blk.new w 56 #[.int .i64 V, .slice A n c]).alloc (.cells #[.int .i64 0, .slice none 0 0] 56)
  have Y : Blk ((w.alloc (.cells #[.int .i64 V, .slice A n c] 56)).alloc (.cells #[.int .i64 0, .slice none 0 0] 56)) (w.heap.size + 1) 56 #[.int .i64 0, .slice none 0 0] := by
    have := Blk.new (w.alloc (.cells #[.int .i64 V, .slice A n c] 56)) 56 #[.int .i64 0, .slice none 0 0]
    simpa using this
  have hf := exploredDesign_all V A n c bs b _ (ha.keep hb1) (by omega)
  have HC := Lib.hid h0
  clear h0
  generalize hW1 : (w.alloc (.cells #[.int .i64 V, .slice A n c] 56)).alloc (.cells #[.int .i64 0, .slice none 0 0] 56) = W1 at *
  obtain ⟨x0, x1⟩ := X.cells2
  go_enter Tryz.func29, Tryz.ntmps29
  go_wp2_with fail
  refine hf.mono ?_
  rintro e w2 ⟨hb2, p, rfl, hp⟩
  obtain ⟨GA, gn, gc, GF, gm, gd, w0, rfl, hb0, N, cN, BA, bn, bc, FA, fn, fk, FF, fm, fd, hX⟩ := hp HC.out
  rw [HC.out]
  have hw2 := hb1.trans (hb2.mono hb1.size)
  have X2 := X.after hb2
  have Y2 := Y.after hb2
  obtain ⟨vs, hbv, -⟩ := hX.sb.best
  have hbn := hbv.slen
  have hlX := X2.lt
  have hlY := Y2.lt
  have c7 := hX.cells.2.2.2.1
  have c8 := hX.cells.2.2.2.2.1
  have c9 := hX.cells.2.2.2.2.2
  have hfr : RG w2 FA fn FF fm _ _ := RG.mk hX.sb.fc.reads hX.sb.fe.reads
  clear x0 x1
  obtain ⟨x0, x1⟩ := X2.cells2
  obtain ⟨VV, hVV, hD, hin, hg0, hcp⟩ := dK_zero HC.out
  obtain rfl : VV = V := by omega
  obtain ⟨s1, s2, s3⟩ := codeP_ok hcp
  obtain ⟨r1, r2⟩ := run_form' s1
  have HB := Lib.hid (runP_best s1)
  have HP := Lib.hid (run_perms (dgC VV bs) (dgE VV bs) b.toNat)
  have hbn0 : 0 < bn := by rw [← hbn]; exact List.length_pos_iff.2 HB.out
  have hds : ¬ dsF VV bs = true := fun h => by rw [dgK, h] at hg0; cases hg0
  have hdg : dgC VV bs = dsC VV bs.length := by rw [dgC, if_neg hds]
  have hde : dgE VV bs = dsE VV bs VV := by rw [dgE, if_neg hds]
  have hUp := run_cut (V := VV) (m := bs.length) (dgE VV bs) b.toNat
  rw [← hdg] at hUp
  simp only [Int.toNat_natCast] at hbn hbv hfr
  rw [r1, r2] at hfr
  have HO := Lib.hid (cd_ok HC.out)
  have hpe : cdP (VV : Int) bs b = (row (runP (dgC VV bs) (dgE VV bs) b.toNat).best 0).take VV := by have := HO.out.2.2; rwa [Int.toNat_natCast] at this
  have HPE := Lib.hid hpe
  clear hpe r1 r2
  generalize hbest : (runP (dgC VV bs) (dgE VV bs) b.toNat).best = best at *
  have hr := hbv.reads
  have hlb := Lib.hid hr.len
  obtain ⟨hu0, hp0⟩ := hUp (row best 0) (by rw [row_get (by rw [hlb.out]; exact hbn0)]; exact List.getElem_mem _)
  rw [hdg] at hu0 hfr s2
  rw [hde] at hfr s2
  rw [cd_colors hp0 hu0] at hfr
  have hbip := cd_bip hD s2 hp0 hu0
  have hbl := cd_blocks hD hp0 hu0
  have HBL := Lib.hid (show srtR (List.drop VV (nearP (VV + bs.length) (relE (dsE VV bs VV) (row best 0)))) = cdB (VV : Int) bs b by rw [hbl, HO.out.2.1, HPE.out])
  have hdo := designOfGraph_at FA fn fk FF fm fd VV bs.length _ w2 hfr hbip
  rw [HBL.out] at hdo
  rw [hdg] at hUp
  clear hp hbest hdg hde hg0 hcp s1 s2 s3 hin hbl hbip hfr hf
  go_wp2_with fail
  refine hdo.mono ?_
  rintro e w3 ⟨A3, n3, c3, rfl, ho3, hb3⟩
  have hal := below_alloc w3 (.cells #[.int .i64 VV, .slice A3 n3 c3] 56)
  have O := Blk.new w3 56 #[.int .i64 VV, .slice A3 n3 c3]
  have hb23 := hb3.trans (hal.mono hb3.size)
  have X3 := (X2.after hb3).after hal
  have Y3 := (Y2.after hb3).after hal
  have c9' := below_cell hb23 c9
  have hr3 := hr.keep hb23
  have hw3 := hw2.trans (hb23.mono hw2.size)
  obtain ⟨q1, q2⟩ := cut_rows hUp (k := 0) (by rw [hlb.out]; exact hbn0)
  obtain ⟨ba, B0, m0, c0, rfl, b1, b2, b3, b4⟩ := hr3.get hbn0
  rw [add_zero_] at b1
  have hn2 : w.heap.size + 1 ≠ w0.heap.size := by have := hb0.size; have := Y.lt; omega
  have hbb : w.heap.size + 1 ≠ ba.block := by have := hb0.size; have := Y.lt; have := (OS.lt hbv.os (show blk (some ba) = some ba.block from rfl)).1; omega
  have hm0 : VV ≤ m0 := by rw [List.length_take] at q1; have := b4.len; omega
  have hcut := b4.take (k := VV) hm0
  have hVc : VV ≤ c0 := by omega
  have Q1 := Lib.hid q1
  have hsz3 : (w3.alloc (.cells #[.int .i64 VV, .slice A3 n3 c3] 56)).heap.size = w3.heap.size + 1 := by simp
  have Z3 := Lib.hid hsz3
  have ho3' := ho3.bound.below hal
  have hz23 := hb3.size
  clear hdo c7 c8 c9 x0 x1 hX hbv hr3 hr hb3 hb23 ho3 hUp hu0 hp0 X2 Y2 X Y hW1 hb0 hsz3 q1 hds
  generalize hW3 : w3.alloc (.cells #[.int .i64 VV, .slice A3 n3 c3] 56) = W3 at *
  obtain ⟨x0, x1⟩ := X3.cells2
  obtain ⟨o0, o1⟩ := O.cells2
  have hv32 := hD.v2
  have HCL := Lib.hid (fun (w' : World) (hb : Below W3.heap.size W3 w') => clone_any B0 VV c0 _ w' (hcut.keep hb) (by omega))
  have hn1 : w.heap.size + 1 ≠ w3.heap.size := by omega
  have hfar : ∀ (w' : World) (u1 u2 u : Value) (a : Addr), w.heap.size + 1 ≠ a.block → w'.cell? a = some u → ((w'.setCell ⟨w.heap.size + 1, 0, none⟩ u1).setCell ⟨w.heap.size + 1, 1, none⟩ u2).cell? a = some u := fun w' u1 u2 u a hne hc => by
    rw [World.cell?_setCell_far _ _ _ _ hne, World.cell?_setCell_far _ _ _ _ hne]; exact hc
  go_wp2
  refine wp_region_held_drew (S := fun w' => w'.cell? ⟨w3.heap.size, 0, none⟩ = some (.int .i64 VV) ∧ w'.cell? ⟨w3.heap.size, 1, none⟩ = some (.slice A3 n3 c3) ∧ w'.cell? ⟨w0.heap.size, 9, none⟩ = some (.slice (some ba) bn bc) ∧ w'.cell? ba = some (.slice B0 m0 c0) ∧ w'.cell? ⟨w.heap.size, 0, none⟩ = some (.int .i64 VV)) (by kernel_rfl) (by simpa using ⟨o0, o1, c9', b1, x0⟩) ?_
  intro hS
  refine wpAnyH_take (i := 0) (v := ?_) rfl (by kernel_rfl) (by kernel_rfl) (by kernel_rfl) (fun _ _ _ h => h) (Or.inl ⟨by rfl, ?_⟩) (by assumption) ?_
  rotate_left
  · (intro w hSw; (try dsimp only at hSw); go_simp; (try with_reducible rfl))
  simp only [Act.put, List.setIfInBounds_toArray, List.set_cons_zero, List.set_cons_succ]
  refine wpAnyH_take (i := 1) (v := ?_) rfl (by kernel_rfl) (by kernel_rfl) (by kernel_rfl) (fun _ _ _ h => h) (Or.inl ⟨by rfl, ?_⟩) (by assumption) ?_
  rotate_left
  · (intro w hSw; (try dsimp only at hSw); go_simp; (try with_reducible rfl))
  simp only [Act.put, List.setIfInBounds_toArray, List.set_cons_zero, List.set_cons_succ]
  refine wpAnyH_take (i := 2) (v := ?_) rfl (by kernel_rfl) (by kernel_rfl) (by kernel_rfl) (fun _ _ _ h => h) (Or.inl ⟨by rfl, ?_⟩) (by assumption) ?_
  rotate_left
  · (intro w hSw; (try dsimp only at hSw); go_simp; (try with_reducible rfl))
  simp only [Act.put, List.setIfInBounds_toArray, List.set_cons_zero, List.set_cons_succ]
  refine wpAnyH_take (i := 3) (v := ?_) rfl (by kernel_rfl) (by kernel_rfl) (by kernel_rfl) (fun _ _ _ h => h) (Or.inl ⟨by rfl, ?_⟩) (by assumption) ?_
  rotate_left
  · (intro w hSw; (try dsimp only at hSw); go_simp; (try with_reducible rfl))
  simp only [Act.put, List.setIfInBounds_toArray, List.set_cons_zero, List.set_cons_succ]
  refine wpAnyH_take (i := 4) (v := ?_) rfl (by kernel_rfl) (by kernel_rfl) (by kernel_rfl) (fun _ _ _ h => h) (Or.inl ⟨by rfl, ?_⟩) (by assumption) ?_
  rotate_left
  · (intro w hSw; (try dsimp only at hSw); go_simp; (try with_reducible rfl))
  simp only [Act.put, List.setIfInBounds_toArray, List.set_cons_zero, List.set_cons_succ]
  refine wpAnyH_take (i := 5) (v := ?_) rfl (by kernel_rfl) (by kernel_rfl) (by kernel_rfl) (fun _ _ _ h => h) (Or.inl ⟨by rfl, ?_⟩) (by assumption) ?_
  rotate_left
  · (intro w hSw; (try dsimp only at hSw); go_simp; (try with_reducible rfl))
  simp only [Act.put, List.setIfInBounds_toArray, List.set_cons_zero, List.set_cons_succ]
  refine wpAnyH_take (i := 6) (v := ?_) rfl (by kernel_rfl) (by kernel_rfl) (by kernel_rfl) (fun _ _ _ h => h) (Or.inl ⟨by rfl, ?_⟩) (by assumption) ?_
  rotate_left
  · (intro w hSw; (try dsimp only at hSw); go_simp; (try with_reducible rfl))
  simp only [Act.put, List.setIfInBounds_toArray, List.set_cons_zero, List.set_cons_succ]
  refine wpAnyH_take (i := 7) (v := ?_) rfl (by kernel_rfl) (by kernel_rfl) (by kernel_rfl) (fun _ _ _ h => h) (Or.inl ⟨by rfl, ?_⟩) (by assumption) ?_
  rotate_left
  · (intro w hSw; (try dsimp only at hSw); go_simp; (try with_reducible rfl))
  simp only [Act.put, List.setIfInBounds_toArray, List.set_cons_zero, List.set_cons_succ]
  refine wpAnyH_take (i := 8) (v := ?_) rfl (by kernel_rfl) (by kernel_rfl) (by kernel_rfl) (fun _ _ _ h => h) (Or.inl ⟨by rfl, ?_⟩) (by assumption) ?_
  rotate_left
  · (intro w hSw; (try dsimp only at hSw); go_simp; (try with_reducible rfl))
  simp only [Act.put, List.setIfInBounds_toArray, List.set_cons_zero, List.set_cons_succ]
  refine wpAnyH_take (i := 9) (v := ?_) rfl (by kernel_rfl) (by kernel_rfl) (by kernel_rfl) (fun _ _ _ h => h) (Or.inl ⟨by rfl, ?_⟩) (by assumption) ?_
  rotate_left
  · (intro w hSw; (try dsimp only at hSw); go_simp; (try with_reducible rfl))
  simp only [Act.put, List.setIfInBounds_toArray, List.set_cons_zero, List.set_cons_succ]
  refine wpAnyH_ready (rs := [10]) (by kernel_rfl) (by simp) ?_
  refine AllReadyH.cons rfl (fun K hK => ?_) AllReadyH.nil
  go_simp
  have hdr : Below W3.heap.size W3 W3.drew := by have := below_drewn W3 1; rwa [← World.drew_is_drewN] at this
  refine (HCL.out _ hdr).mono ?_
  rintro e w5 ⟨A5, n5, c5, rfl, ho5, hb5⟩
  dsimp only
  have hX5 := hdr.trans (hb5.mono hdr.size)
  have Y5 := Y3.after hX5
  obtain ⟨y0, y1⟩ := Y5.cells2
  have f0 := Y5.frozen 0
  have f1 := Y5.frozen 1
  refine hK.out _ _ ⟨below_cell hX5 o0, below_cell hX5 o1, below_cell hX5 c9', below_cell hX5 b1, below_cell hX5 x0⟩ (fun hS1 => ?_)
  clear hK K hS
  refine wpAnyH_ready (rs := [11]) (by kernel_rfl) (by simp) ?_
  refine AllReadyH.cons rfl (fun K hK => ?_) AllReadyH.nil
  go_simp
  refine hK.out _ _ ⟨hfar _ _ _ _ _ hn1 (below_cell hX5 o0), hfar _ _ _ _ _ hn1 (below_cell hX5 o1), hfar _ _ _ _ _ hn2 (below_cell hX5 c9'), hfar _ _ _ _ _ hbb (below_cell hX5 b1), hfar _ _ _ _ _ (by simp) (below_cell hX5 x0)⟩ (fun hS2 => ?_)
  clear hK K hS1
  refine wpAnyH_ready (rs := [12]) (by kernel_rfl) (by simp) ?_
  refine AllReadyH.cons rfl (fun K hK => ?_) AllReadyH.nil
  go_simp
  refine hK.out _ _ hS2 (fun _ => ?_)
  clear hK K
  refine wpAnyH_ready (rs := [13]) (by kernel_rfl) (by simp) ?_
  refine AllReadyH.cons rfl (fun K hK => ?_) AllReadyH.nil
  go_simp
  refine hK.out _ _ hS2 (fun _ => ?_)
  clear hK K
  refine wpAnyH_done (by kernel_rfl) ?_ _
  have hsz5 := hX5.size
  have hm1 : Mid w5 ((w5.setCell ⟨w.heap.size + 1, 0, none⟩ (.int .i64 VV)).setCell ⟨w.heap.size + 1, 1, none⟩ (.slice A3 n3 c3)) (w.heap.size + 1) (w.heap.size + 2) :=
    (Mid.set (p := ⟨w.heap.size + 1, 0, none⟩) (Nat.le_refl _) (Nat.lt_succ_self _) _).trans (Mid.set (p := ⟨w.heap.size + 1, 1, none⟩) (Nat.le_refl _) (Nat.lt_succ_self _) _)
  have hwf : Below w.heap.size w ((w5.setCell ⟨w.heap.size + 1, 0, none⟩ (.int .i64 VV)).setCell ⟨w.heap.size + 1, 1, none⟩ (.slice A3 n3 c3)) :=
    ((hw3.trans (hX5.mono hw3.size)).setCell (p := ⟨w.heap.size + 1, 0, none⟩) (by simp) _).setCell (p := ⟨w.heap.size + 1, 1, none⟩) (by simp) _
  have hrd : W3.drew.heap.size = W3.heap.size := rfl
  have hres : ORd ((w5.setCell ⟨w.heap.size + 1, 0, none⟩ (.int .i64 VV)).setCell ⟨w.heap.size + 1, 1, none⟩ (.slice A3 n3 c3)) w.heap.size w3.heap.size 22 2 A3 n3 c3 (cdB (VV : Int) bs b) :=
    ((ho3'.below hX5).mid hm1 (.inl (by omega))).more (by omega) (Nat.le_refl _)
  have hrp : OI ((w5.setCell ⟨w.heap.size + 1, 0, none⟩ (.int .i64 VV)).setCell ⟨w.heap.size + 1, 1, none⟩ (.slice A3 n3 c3)) w3.heap.size 2 A5 n5 c5 (cdP (VV : Int) bs b) := by
    rw [HPE.out]
    have := Z3.out
    exact OI.more (ho5.mid hm1 (fun bb hbk => .inr (by have := (ho5.os.lt hbk).1; omega))) (by omega)
  have YF := (Y5.set_ 0 (.int .i64 VV)).set_ 1 (.slice A3 n3 c3)
  obtain ⟨z0, z1⟩ : ((w5.setCell ⟨w.heap.size + 1, 0, none⟩ (.int .i64 VV)).setCell ⟨w.heap.size + 1, 1, none⟩ (.slice A3 n3 c3)).cell? ⟨w.heap.size + 1, 0, none⟩ = some (.int .i64 VV) ∧ ((w5.setCell ⟨w.heap.size + 1, 0, none⟩ (.int .i64 VV)).setCell ⟨w.heap.size + 1, 1, none⟩ (.slice A3 n3 c3)).cell? ⟨w.heap.size + 1, 1, none⟩ = some (.slice A3 n3 c3) := ⟨YF.cell 0, YF.cell 1⟩
  clear hS2 hm1 hrd y0 y1 f0 f1 Y5 hfar o0 o1 x0 x1 c9' b1
  go_wp2
  refine bodyPost_ret (v := .tuple #[.agg #[.int .i64 VV, .slice A3 n3 c3], .slice A5 n5 c5, .int .i64 0]) (by simp [results, Tryz.results29, go_sem, z0, z1]) rfl ?_
  exact ⟨A3, n3, c3, A5, n5, c5, w3.heap.size, by rw [HO.out.1, HC.out], hres, hrp, by have := hw2.size; omega, Nat.le_trans (show w3.heap.size ≤ w5.heap.size by have := Z3.out; omega) (by simp [World.setCell]), hwf⟩
theorem impl_CanonicalDesign (v : Int) (A : Option Addr) (n c : Nat) (bs : List (List Int)) (b : Int) (w : World) (ha : RR w A n bs) (hn : n ≤ 1048576) :
    Calls Tryz.prog 29 #[.agg #[.int .i64 v, .slice A n c], .int .i64 b] w (RetCo w v bs b) := by
  by_cases h : dK v bs b = 0
  · obtain ⟨V, rfl, -⟩ := dK_zero h
    exact impl_CanonicalDesign_ok V A n c bs b w ha hn h
  · exact impl_CanonicalDesign_err v A n c bs b w ha hn h
end Go.Proofs.YtdkbcjdimhgmnaaGreat
