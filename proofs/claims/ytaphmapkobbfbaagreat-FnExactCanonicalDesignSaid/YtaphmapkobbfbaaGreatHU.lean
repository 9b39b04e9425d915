/- CanonicalDesign, the reference's side. No condition beyond those stated. -/
import Derived.Test.YtaphmapkobbfbaaGreatHQ
import Derived.Test.YtaphmapkobbfbaaGreatHR
import Derived.Test.YtaphmapkobbfbaaGreatHD
import Derived.Test.YtaphmapkobbfbaaGreatHL
import Derived.Test.YtaphmapkobbfbaaGreatGE
import Derived.Test.YtaphmapkobbfbaaGreatGJ
import Derived.Test.YtaphmapkobbfbaaGreatHA
import Derived.Test.YtaphmapkobbfbaaGreatGC
import Derived.Test.YtaphmapkobbfbaaGreatGH
import Derived.Deep.RegionHeldLaw
set_option linter.unusedVariables false
set_option linter.unusedSimpArgs false
namespace Go.Proofs.YtaphmapkobbfbaaGreat
open Go.RowKit

noncomputable def cdP (v : Int) (bs : List (List Int)) (b : Int) : List Int := if dK v bs b = 0 then (row (runP (dgC v.toNat bs) (dgE v.toNat bs) b.toNat).best 0).take v.toNat else []
noncomputable def cdV (v : Int) (bs : List (List Int)) (b : Int) : Int := if dK v bs b = 0 then v else 0
noncomputable def cdB (v : Int) (bs : List (List Int)) (b : Int) : List (List Int) := if dK v bs b = 0 then srtR (bs.map (imgR (cdP v bs b))) else []
theorem cd_err {v : Int} {bs : List (List Int)} {b : Int} (h : dK v bs b ≠ 0) : cdV v bs b = 0 ∧ cdB v bs b = [] ∧ cdP v bs b = [] := ⟨by rw [cdV, if_neg h], by rw [cdB, if_neg h], by rw [cdP, if_neg h]⟩
theorem cd_ok {v : Int} {bs : List (List Int)} {b : Int} (h : dK v bs b = 0) : cdV v bs b = v ∧ cdB v bs b = srtR (bs.map (imgR (cdP v bs b))) ∧ cdP v bs b = (row (runP (dgC v.toNat bs) (dgE v.toNat bs) b.toNat).best 0).take v.toNat := ⟨by rw [cdV, if_pos h], by rw [cdB, if_pos h], by rw [cdP, if_pos h]⟩
/-- a design that reads so, a list and a code -/
def RetCd (w : World) (v : Int) (bs : List (List Int)) (b : Int) (e : Ending) (w' : World) : Prop :=
  ∃ A n c P m d, e = .returned (.tuple #[.agg #[.int .i64 (cdV v bs b), .slice A n c], .slice P m d, .int .i64 (dK v bs b)]) ∧ RR w' A n (cdB v bs b) ∧ RI w' P m (cdP v bs b) ∧ Below w.heap.size w w'
theorem block_len {v : Nat} {bs : List (List Int)} (h : Design (v : Int) bs) {k : Nat} (hk : k < bs.length) : (row bs k).length ≤ v := by
  obtain ⟨h1, h2⟩ := ds_block h hk
  have hnd : (row bs k).Nodup := h1.imp fun h => by omega
  have hsub : row bs k ⊆ (List.range v).map fun (j : Nat) => (j : Int) := fun x hx => by
    have := h2 x hx
    exact List.mem_map.2 ⟨x.toNat, List.mem_range.2 (by omega), by omega⟩
  have := List.Nodup.length_le_of_subset hnd hsub
  simpa using this
set_option maxRecDepth 100000 in
set_option maxHeartbeats 1000000 in
theorem spec_CanonicalDesign_err (v : Int) (A : Option Addr) (n c : Nat) (bs : List (List Int)) (b : Int) (w : World) (ha : RR w A n bs) (hn : n ≤ 1048576) (h0 : dK v bs b ≠ 0) :
    Calls Tryz.prog 20 #[.agg #[.int .i64 v, .slice A n c], .int .i64 b] w (RetCd w v bs b) := by
  have hb1 := below_then (below_alloc w (.cells #[.int .i64 v, .slice A n c] 28)) (below_alloc _ (.cells #[.int .i64 0, .slice none 0 0] 28))
  have X := (Blk.new w 28 #[.int .i64 v, .slice A n c]).alloc (.cells #[.int .i64 0, .slice none 0 0] 28)
  have Y : Blk ((w.alloc (.cells #[.int .i64 v, .slice A n c] 28)).alloc (.cells #[.int .i64 0, .slice none 0 0] 28)) (w.heap.size + 1) 28 #[.int .i64 0, .slice none 0 0] := by
    have := Blk.new (w.alloc (.cells #[.int .i64 v, .slice A n c] 28)) 28 #[.int .i64 0, .slice none 0 0]
    simpa using this
  have hf := l23Find_all _ v A n c bs b _ X (ha.keep hb1) (by omega)
  have HR := Lib.hid (cd_err h0)
  have h0' : (dK v bs b != 0) = true := by simp [h0]
  clear h0
  generalize hW1 : (w.alloc (.cells #[.int .i64 v, .slice A n c] 28)).alloc (.cells #[.int .i64 0, .slice none 0 0] 28) = W1 at *
  go_enter Tryz.func20, Tryz.ntmps20
  go_wp2_with fail
  refine hf.mono ?_
  rintro e w2 ⟨hb2, p, rfl, -⟩
  have Y2 := Y.after hb2
  obtain ⟨y0, y1⟩ := Y2.cells2
  have f0 := Y2.frozen 0
  have f1 := Y2.frozen 1
  have YF := (Y2.set_ 0 (.int .i64 0)).set_ 1 (.slice none 0 0)
  obtain ⟨z0, z1⟩ : ((w2.setCell ⟨w.heap.size + 1, 0, none⟩ (.int .i64 0)).setCell ⟨w.heap.size + 1, 1, none⟩ (.slice none 0 0)).cell? ⟨w.heap.size + 1, 0, none⟩ = some (.int .i64 0) ∧ ((w2.setCell ⟨w.heap.size + 1, 0, none⟩ (.int .i64 0)).setCell ⟨w.heap.size + 1, 1, none⟩ (.slice none 0 0)).cell? ⟨w.heap.size + 1, 1, none⟩ = some (.slice none 0 0) := ⟨YF.cell 0, YF.cell 1⟩
  have hw2 := hb1.trans (hb2.mono hb1.size)
  clear hf
  go_wp2
  refine bodyPost_ret (v := .tuple #[.agg #[.int .i64 0, .slice none 0 0], .slice none 0 0, .int .i64 (dK v bs b)]) (by simp [results, Tryz.results20, go_sem, z0, z1]) rfl ?_
  exact ⟨none, 0, 0, none, 0, 0, by rw [HR.out.1], by rw [HR.out.2.1]; exact RS.nil_ _ _ _, by rw [HR.out.2.2]; exact RS.nil_ _ _ _, (hw2.setCell (p := ⟨w.heap.size + 1, 0, none⟩) (by simp) _).setCell (p := ⟨w.heap.size + 1, 1, none⟩) (by simp) _⟩
set_option maxRecDepth 100000 in
set_option maxHeartbeats 2000000 in
theorem spec_CanonicalDesign_ok (V : Nat) (A : Option Addr) (n c : Nat) (bs : List (List Int)) (b : Int) (w : World) (ha : RR w A n bs) (hn : n ≤ 1048576) (h0 : dK (V : Int) bs b = 0) :
    Calls Tryz.prog 20 #[.agg #[.int .i64 V, .slice A n c], .int .i64 b] w (RetCd w (V : Int) bs b) := by
  have hb1 := below_then (below_alloc w (.cells #[.int .i64 V, .slice A n c] 28)) (below_alloc _ (.cells #[.int .i64 0, .slice none 0 0] 28))
  have X := (Blk.new w 28 #[.int .i64 V, .slice A n c]).alloc (.cells #[.int .i64 0, .slice none 0 0] 28)
  have Y : Blk ((w.alloc (.cells #[.int .i64 V, .slice A n c] 28)).alloc (.cells #[.int .i64 0, .slice none 0 0] 28)) (w.heap.size + 1) 28 #[.int .i64 0, .slice none 0 0] := by
    have := Blk.new (w.alloc (.cells #[.int .i64 V, .slice A n c] 28)) 28 #[.int .i64 0, .slice none 0 0]
    simpa using this
  have hf := l23Find_all _ V A n c bs b _ X (ha.keep hb1) (by omega)
  have HC := Lib.hid h0
  have HLA := Lib.hid ha.len
  clear h0
  generalize hW1 : (w.alloc (.cells #[.int .i64 V, .slice A n c] 28)).alloc (.cells #[.int .i64 0, .slice none 0 0] 28) = W1 at *
  go_enter Tryz.func20, Tryz.ntmps20
  go_wp2_with fail
  refine hf.mono ?_
  rintro e w2 ⟨hb2, p, rfl, hp⟩
  obtain ⟨GA, gn, gc, GF, gm, gd, w0, rfl, hb0, N, cN, BA, bn, bc, FA, fn, fk, FF, fm, fd, hX⟩ := hp HC.out
  rw [HC.out]
  have hw2 := hb1.trans (hb2.mono hb1.size)
  have X2 := X.after hb2
  have Y2 := Y.after hb2
  have hYl := Y2.lt
  obtain ⟨vs, hbv, -⟩ := hX.sb.best
  have hbn := hbv.slen
  have c9 := hX.cells.2.1
  obtain ⟨x0, x1⟩ := X2.cells2
  obtain ⟨VV, hVV, hD, hin, hg0, hcp⟩ := dK_zero HC.out
  obtain rfl : VV = V := by omega
  obtain ⟨s1, s2, s3⟩ := codeP_ok hcp
  have HB := Lib.hid (runP_best s1)
  have hbn0 : 0 < bn := by rw [← hbn]; exact List.length_pos_iff.2 HB.out
  have hdg : dgC VV bs = dsC VV bs.length := by
    by_cases h : dsF VV bs = true
    · rw [dgK, h] at hg0; cases hg0
    · rw [dgC, if_neg h]
  have hUp := run_cut (V := VV) (m := bs.length) (dgE VV bs) b.toNat
  rw [← hdg] at hUp
  simp only [Int.toNat_natCast] at hbn hbv
  have HO := Lib.hid (cd_ok HC.out)
  have hpe : cdP (VV : Int) bs b = (row (runP (dgC VV bs) (dgE VV bs) b.toNat).best 0).take VV := by have := HO.out.2.2; rwa [Int.toNat_natCast] at this
  have HPE := Lib.hid hpe
  clear hpe
  generalize hbest : (runP (dgC VV bs) (dgE VV bs) b.toNat).best = best at *
  rw [hdg] at hUp
  have hr := hbv.reads
  have hlb := Lib.hid hr.len
  obtain ⟨ba, B0, m0, c0, rfl, b1, b2, b3, b4⟩ := hr.get hbn0
  rw [add_zero_] at b1
  obtain ⟨q1, q2⟩ := cut_rows hUp (k := 0) (by rw [hlb.out]; exact hbn0)
  have hm0 : VV ≤ m0 := by rw [List.length_take] at q1; have := b4.len; omega
  have hcut := b4.take (k := VV) hm0
  have hv32 := hD.v2
  have HD := Lib.hid hD
  have hVc : VV ≤ c0 := by omega
  have HBK := Lib.hid (fun (w' : World) (hb : Below w2.heap.size w2 w') => l00Own_any B0 VV c0 _ w' (hcut.keep hb) (by omega))
  have Q1 := Lib.hid q1
  clear hf hp hbest hUp hdg hg0 hcp s1 s2 s3 hin hD q1 q2 x1
  go_wp2
  go_region_held_law (fun w' => Below w2.heap.size w2 w' ∧ w'.cell? ⟨w0.heap.size, 5, none⟩ = some (.slice (some ba) bn bc) ∧ w'.cell? ba = some (.slice B0 m0 c0) ∧ w'.cell? ⟨w.heap.size, 0, none⟩ = some (.int .i64 VV))
    (first | exact ⟨below_drewn _ 1, c9, b1, x0⟩ | exact ⟨by assumption, below_cell (by assumption) c9, below_cell (by assumption) b1, below_cell (by assumption) x0⟩)
    (first | (go_at_call 42; (with_reducible refine (HBK.out _ ?_).mono ?_); (exact below_drewn _ 1); rintro e w3 ⟨A3, n3, c3, rfl, ho3, hb3⟩; have hX3 : Below w2.heap.size w2 w3 := (below_drewn _ 1).trans (hb3.mono (Nat.le_refl _))))
  have hn3 : n3 = VV := by rw [← ho3.len, Q1.out]
  subst hn3
  have hw3 := hw2.trans (hX3.mono hw2.size)
  have X3 := X2.after hX3
  have Y3 := Y2.after hX3
  have himg := l10Image_any w.heap.size n3 A n c bs A3 n3 c3 _ w3 X3 (ha.keep hw3) ho3.reads (fun k hk x hx => (ds_block HD.out (by rw [HLA.out]; exact hk)).2 x hx) (fun k hk => by have := block_len HD.out (k := k) (by rw [HLA.out]; exact hk); omega) hn (by omega)
  rw [← HPE.out] at himg ho3
  clear c9 b1 x0 HBK hr hbv hX hcut b4 hb3 hb2
  go_wp2_with fail
  refine himg.mono ?_
  rintro e w4 ⟨A4, c4, v4, rfl, ho4, hb4⟩
  have hw4 := hw3.trans (hb4.mono hw3.size)
  have Y4 := Y3.after hb4
  have hlt3 := Y3.lt
  have hlt2 : w.heap.size + 1 < w2.heap.size := hYl
  have ho3' := ho3.below hb4
  obtain ⟨y0, y1⟩ := Y4.cells2
  have f0 := Y4.frozen 0
  have f1 := Y4.frozen 1
  have YF := (Y4.set_ 0 (.int .i64 n3)).set_ 1 (.slice A4 n c4)
  obtain ⟨z0, z1⟩ : ((w4.setCell ⟨w.heap.size + 1, 0, none⟩ (.int .i64 n3)).setCell ⟨w.heap.size + 1, 1, none⟩ (.slice A4 n c4)).cell? ⟨w.heap.size + 1, 0, none⟩ = some (.int .i64 n3) ∧ ((w4.setCell ⟨w.heap.size + 1, 0, none⟩ (.int .i64 n3)).setCell ⟨w.heap.size + 1, 1, none⟩ (.slice A4 n c4)).cell? ⟨w.heap.size + 1, 1, none⟩ = some (.slice A4 n c4) := ⟨YF.cell 0, YF.cell 1⟩
  clear himg
  go_wp2
  refine bodyPost_ret (v := .tuple #[.agg #[.int .i64 n3, .slice A4 n c4], .slice A3 n3 c3, .int .i64 0]) (by simp [results, Tryz.results20, go_sem, z0, z1]) rfl ?_
  refine ⟨A4, n, c4, A3, n3, c3, by rw [HO.out.1, HC.out], ?_, ?_, (hw4.setCell (p := ⟨w.heap.size + 1, 0, none⟩) (by simp) _).setCell (p := ⟨w.heap.size + 1, 1, none⟩) (by simp) _⟩
  · rw [HO.out.2.1]
    exact OB.reads ((ho4.setLow (p := ⟨w.heap.size + 1, 0, none⟩) hlt3 _).setLow (p := ⟨w.heap.size + 1, 1, none⟩) hlt3 _)
  · have hl : w.heap.size + 1 < (w2.drewN 1).heap.size := hlt2
    exact OI.reads ((ho3'.setLow (p := ⟨w.heap.size + 1, 0, none⟩) hl _).setLow (p := ⟨w.heap.size + 1, 1, none⟩) hl _)
theorem spec_CanonicalDesign (v : Int) (A : Option Addr) (n c : Nat) (bs : List (List Int)) (b : Int) (w : World) (ha : RR w A n bs) (hn : n ≤ 1048576) :
    Calls Tryz.prog 20 #[.agg #[.int .i64 v, .slice A n c], .int .i64 b] w (RetCd w v bs b) := by
  by_cases h : dK v bs b = 0
  · obtain ⟨V, rfl, -⟩ := dK_zero h
    exact spec_CanonicalDesign_ok V A n c bs b w ha hn h
  · exact spec_CanonicalDesign_err v A n c bs b w ha hn h
end Go.Proofs.YtaphmapkobbfbaaGreat
/- DesignOfGraph at the graph of a design whose vertices have other names. No condition beyond those stated. -/
namespace Go.Proofs.YtaphmapkobbfbaaGreat
open Go.RowKit

/-- a graph that leads back to a design -/
structure Bip (v k : Nat) (es : List Ed) : Prop where
  v1 : 1 ≤ v
  v2 : v ≤ 32
  ok : GraphOk (dsC v k) es
  bi : ∀ e ∈ es, 0 ≤ e.1 ∧ e.1 < (v : Int) ∧ (v : Int) ≤ e.2 ∧ e.2 < ((v + k : Nat) : Int)
  ne : ∀ i, i < k → 0 < (row ((nearP (v + k) es).drop v) i).length
theorem dsC_nth {v m j : Nat} (h : j < v + m) : nth (dsC v m) j = if j < v then 0 else 1 := by
  rw [nth_get (by rw [dsC_len]; exact h)]
  unfold dsC
  rw [List.getElem_append]
  simp only [List.length_replicate, List.getElem_replicate]
  split <;> rfl
theorem Bip.len {v k : Nat} {es : List Ed} (h : Bip v k es) : v + k ≤ 64 := by have := h.ok.clen; rwa [dsC_len] at this
theorem sortOR_any (B : Nat) (A : Option Addr) (n c : Nat) (zss : List (List Int)) (w : World) (ho : OR w B 37 2 A n c zss) (hn : n ≤ 1048576) :
    Calls Tryz.prog 54 #[.slice A n c, .func (.func 55) #[] #[]] w (fun e w' => e = .returned (.tuple #[]) ∧ OR w' B 37 2 A n c (srtR zss) ∧ w.grownBy w' (blk A)) := by
  obtain ⟨vs, h⟩ := ho
  rcases h.os.cases with ⟨rfl, rfl, rfl, _⟩ | ⟨g, cur, rfl, hB, hg, _⟩
  · refine (AnyF.slices_SortFunc_none Tryz.srzL none 0 (.func (.func 55) #[] #[]) w).mono ?_
    rintro e w' ⟨he, rfl⟩
    obtain rfl : zss = [] := List.eq_nil_of_length_eq_zero h.slen
    exact ⟨he, by rw [show srtR [] = [] by simp [srtR]]; exact ⟨vs, h⟩, World.grownBy.refl _ _⟩
  · refine (sortR_own B g n c _ w h.pv hn (Array.getElem?_eq_some_iff.1 hg).1).mono ?_
    rintro e w' ⟨Y, he, hv, hp, hs, hg⟩
    have hz : Y.map (·.2) = srtR zss := srtR_unique (by have := hp.map (·.2); rwa [zip_snd vs zss h.len] at this) hs
    rw [← hz]
    exact ⟨he, ⟨_, h.sorted hp hv hg⟩, hg⟩
set_option maxRecDepth 100000 in
set_option maxHeartbeats 2000000 in
theorem sorted_any (v : Int) (A : Option Addr) (n c : Nat) (zss : List (List Int)) (w : World) (ha : RR w A n zss) (hn : n ≤ 128) (hr : cells zss ≤ 1099511627776) :
    Calls Tryz.prog 84 #[.int .i64 v, .slice A n c] w (fun e w' => ∃ A' c', e = .returned (.tuple #[.agg #[.int .i64 v, .slice A' n c'], .int .i64 0]) ∧ OR w' w.heap.size 37 2 A' n c' (srtR zss) ∧ Below w.heap.size w w') := by
  have hla := Lib.hid ha.len
  have hb0 := below_alloc w (.cells #[.int .i64 0, .slice none 0 0] 28)
  have Y := Blk.new w 28 #[.int .i64 0, .slice none 0 0]
  have hz0 : (w.alloc (.cells #[.int .i64 0, .slice none 0 0] 28)).heap.size = w.heap.size + 1 := by simp
  have HZ := Lib.hid hz0
  clear hz0
  have hcp := copyLists_any A n c zss (w.alloc (.cells #[.int .i64 0, .slice none 0 0] 28)) (ha.keep hb0) (by omega) hr
  go_enter Tryz.func84, Tryz.ntmps84
  go_wp2_with fail
  refine hcp.mono ?_
  rintro e w1 ⟨A1, n1, c1, rfl, ho1, hb1⟩
  obtain rfl : n1 = n := by rw [← ho1.len, hla.out]
  have hw1 := hb0.trans (hb1.mono hb0.size)
  have Y1 := Y.after hb1
  have hal := below_alloc w1 (.cells #[.int .i64 v, .slice A1 n1 c1] 28)
  have G := Blk.new w1 28 #[.int .i64 v, .slice A1 n1 c1]
  have Y2 := Y1.after hal
  have ho2 := ho1.below hal
  have hw2 := hw1.trans (hal.mono hw1.size)
  have hlY := Y1.lt
  have hA1 : ∀ b, blk A1 = some b → w.heap.size + 1 ≤ b ∧ b < w1.heap.size := fun b hb => by
    obtain ⟨vs1, hv1⟩ := ho1
    have := hv1.os.lt hb
    rw [HZ.out] at this
    exact this
  have hso := sortOR_any _ A1 n1 c1 _ _ ho2 (by omega)
  obtain ⟨g0, g1⟩ := G.cells2
  have HA1 := Lib.hid hA1
  clear hcp ho1 hA1
  go_wp2_with fail
  refine hso.mono ?_
  rintro e w3 ⟨rfl, ho3, hg3⟩
  have G3 := G.grown hg3 (fun e => by have := (HA1.out _ e.symm).2; omega)
  have Y3 := Y2.grown hg3 (fun e => by have := (HA1.out _ e.symm).1; omega)
  have hw3 := below_own hw2 hg3 hw2.size (fun b hb => by have := (HA1.out b hb).1; omega)
  clear hso hg3 g0 g1 ho2
  obtain ⟨g0, g1⟩ := G3.cells2
  obtain ⟨y0, y1⟩ := Y3.cells2
  have f0 := Y3.frozen 0
  have f1 := Y3.frozen 1
  have YF := (Y3.set_ 0 (.int .i64 v)).set_ 1 (.slice A1 n1 c1)
  obtain ⟨z0, z1⟩ : ((w3.setCell ⟨w.heap.size, 0, none⟩ (.int .i64 v)).setCell ⟨w.heap.size, 1, none⟩ (.slice A1 n1 c1)).cell? ⟨w.heap.size, 0, none⟩ = some (.int .i64 v) ∧ ((w3.setCell ⟨w.heap.size, 0, none⟩ (.int .i64 v)).setCell ⟨w.heap.size, 1, none⟩ (.slice A1 n1 c1)).cell? ⟨w.heap.size, 1, none⟩ = some (.slice A1 n1 c1) := ⟨YF.cell 0, YF.cell 1⟩
  go_wp2
  refine bodyPost_ret (v := .tuple #[.agg #[.int .i64 v, .slice A1 n1 c1], .int .i64 0]) (by simp [results, Tryz.results84, go_sem, z0, z1]) rfl ?_
  refine ⟨A1, c1, rfl, ?_, (hw3.setCell (p := ⟨w.heap.size, 0, none⟩) (by simp) _).setCell (p := ⟨w.heap.size, 1, none⟩) (by simp) _⟩
  refine OR.more ((ho3.setLow (p := ⟨w.heap.size, 0, none⟩) ?_ _).setLow (p := ⟨w.heap.size, 1, none⟩) ?_ _) (by rw [HZ.out]; omega)
  all_goals
    rw [HZ.out]
    show w.heap.size < w.heap.size + 1
    omega
/-- how many of the first colors are 0 -/
def zeros (v j : Nat) : Nat := min j v
set_option maxRecDepth 100000 in
set_option maxHeartbeats 400000 in
theorem emptyList_any (B : Option Addr) (n c : Nat) (z : List Int) (w : World) (hz : RI w B n z) (hn : n ≤ c) (hc : c ≤ 9223372036854775807) :
    Calls Tryz.prog 83 #[.slice B n c] w (RetB w (z.length == 0)) := by
  have hl := Lib.hid hz.len
  by_cases h : n = 0
  · have HE := Lib.hid (show (z.length == 0) = true by rw [hl.out, h]; rfl)
    have h' : ((n : Int) == 0) = true := by simp [h]
    clear h
    go_enter Tryz.func83, Tryz.ntmps83
    go_wp2
    go_ret
    exact ⟨by rw [HE.out]; rfl, Below.refl _ _⟩
  · have HE := Lib.hid (show (z.length == 0) = false by rw [hl.out]; simpa using h)
    have h' : ((n : Int) == 0) = false := by simp [h]
    clear h
    go_enter Tryz.func83, Tryz.ntmps83
    go_wp2
    go_ret
    exact ⟨by rw [HE.out]; rfl, Below.refl _ _⟩
theorem cells_small {l : List (List Int)} {k : Nat} (h : ∀ r ∈ l, r.length ≤ k) : cells l ≤ l.length * k := by
  induction l with
  | nil => simp [cells]
  | cons r l ih =>
    have h1 := ih fun x hx => h x (List.mem_cons_of_mem _ hx)
    have h2 := h r List.mem_cons_self
    rw [show r :: l = [r] ++ l from rfl, cells_app, cells_one, List.length_append, List.length_singleton, Nat.add_mul]
    omega
set_option maxRecDepth 100000 in
set_option maxHeartbeats 4000000 in
theorem designOfGraph_at (A : Option Addr) (n c : Nat) (F : Option Addr) (m d : Nat) (v k : Nat) (es : List Ed) (w : World) (hG : RG w A n F m (dsC v k) es) (hb : Bip v k es) :
    Calls Tryz.prog 45 #[.agg #[.slice A n c, .slice F m d]] w (fun e w' => ∃ A' n' c', e = .returned (.tuple #[.agg #[.int .i64 v, .slice A' n' c'], .int .i64 0]) ∧ OR w' w.heap.size 37 2 A' n' c' (srtR ((nearP (v + k) es).drop v)) ∧ Below w.heap.size w w') := by
  have hlc := hG.ri.len
  have hle := hG.re.len
  have hl64 := hb.len
  rw [dsC_len] at hlc
  have hm512 : m ≤ 512 := by rw [← hle]; exact hb.ok.elen
  obtain ⟨hv1, hv2⟩ : 1 ≤ v ∧ v ≤ 32 := ⟨hb.v1, hb.v2⟩
  have HB := Lib.hid hb
  have HLE := Lib.hid hle
  subst hlc
  clear hb hle
  have hb1 := below_then (below_alloc w (.cells #[.slice A (v + k) c, .slice F m d] 58)) (below_alloc _ (.cells #[.int .i64 0, .slice none 0 0] 28))
  have X := (Blk.new w 58 #[.slice A (v + k) c, .slice F m d]).alloc (.cells #[.int .i64 0, .slice none 0 0] 28)
  have Y : Blk ((w.alloc (.cells #[.slice A (v + k) c, .slice F m d] 58)).alloc (.cells #[.int .i64 0, .slice none 0 0] 28)) (w.heap.size + 1) 28 #[.int .i64 0, .slice none 0 0] := by
    have := Blk.new (w.alloc (.cells #[.slice A (v + k) c, .slice F m d] 58)) 28 #[.int .i64 0, .slice none 0 0]
    simpa using this
  generalize hW1 : (w.alloc (.cells #[.slice A (v + k) c, .slice F m d] 58)).alloc (.cells #[.int .i64 0, .slice none 0 0] 28) = W1 at *
  have hvg := validGraph_any A (v + k) c F m d (dsC v k) es W1 (hG.keep hb1) (by omega) (by omega)
  rw [tB_yes HB.out.ok] at hvg
  obtain ⟨x0, x1⟩ := X.cells2
  go_enter Tryz.func45, Tryz.ntmps45
  go_wp2_with fail
  refine hvg.mono ?_
  rintro e w2 ⟨rfl, hb2⟩
  have hw2 := hb1.trans (hb2.mono hb1.size)
  have X2 := X.after hb2
  have Y2 := Y.after hb2
  have hG2 := hG.keep hw2
  clear hvg x0 x1 hb2 X Y hW1
  obtain ⟨x0, x1⟩ := X2.cells2
  go_wp2
  go_loopw [4, 6, 18] (fun t _ i wr => ∃ j : Nat, j ≤ v + k ∧ i = .int .i64 j ∧ t = .int .i64 (zeros v j) ∧ Below w2.heap.size w2 wr) (fun _ _ i _ => v + k - (intOf i).toNat)
  case atStart => exact ⟨0, Nat.zero_le _, rfl, by simp [zeros], Below.refl _ _⟩
  case round =>
    obtain ⟨j, hj, rfl, rfl, hw⟩ := hrel
    have X3 := X2.after hw
    clear x0 x1
    obtain ⟨x0, x1⟩ := X3.cells2
    by_cases hlt : j < v + k
    · obtain ⟨a, rfl, hca, -⟩ := (hG2.ri.keep hw).get hlt
      rw [dsC_nth hlt] at hca
      by_cases hz : j < v
      · rw [if_pos hz] at hca
        have HZ := Lib.hid (show zeros v j + 1 = zeros v (j + 1) by unfold zeros; omega)
        have hzb : zeros v j ≤ 32 := by unfold zeros; omega
        have hlt2 : (j : Int) < (v : Int) + (k : Int) := by omega
        go_wp2
        go_roundw
        case rel => exact ⟨j + 1, by omega, by go_num, by rw [← HZ.out]; simp, hw⟩
        case measure => simp [intOf]; omega
      · rw [if_neg hz] at hca
        have HZ := Lib.hid (show zeros v j = zeros v (j + 1) by unfold zeros; omega)
        have hlt2 : (j : Int) < (v : Int) + (k : Int) := by omega
        go_wp2
        go_roundw
        case rel => exact ⟨j + 1, by omega, by go_num, by rw [← HZ.out], hw⟩
        case measure => simp [intOf]; omega
    · obtain rfl : j = v + k := by omega
      have hzz : zeros v (v + k) = v := by unfold zeros; omega
      rw [hzz]
      have hsz := sizeI_any A (v + k) c wr (by omega)
      clear hzz
      have hlt2 : ¬ ((v + k : Nat) : Int) < (v : Int) + (k : Int) := by omega
      go_wp2_with fail
      refine hsz.mono ?_
      rintro e w' ⟨rfl, rfl⟩
      have hW := hw2.trans (hw.mono hw2.size)
      have hGr := hG2.keep hw
      have HTC : Hid (∀ w', Calls Tryz.prog 79 #[.int .i64 v, .int .i64 ((v : Int) + k - v)] w' (fun e w3 => ∃ A c, e = .returned (.slice A (v + k) c) ∧ OI w3 w'.heap.size 2 A (v + k) c (dsC v k) ∧ Below w'.heap.size w' w3)) := Lib.hid (fun (w' : World) => by rw [show (v : Int) + k - v = k by omega]; exact twoColors_any v k w' (by omega))
      have HEQ := Lib.hid (fun (w' : World) (B : Option Addr) (nn cc : Nat) (xs : List Int) (hb : Below wr.heap.size wr w') (h : RI w' B nn xs) (h1 : nn ≤ 9223372036854775807) => slicesEqual_any A B (v + k) nn c cc (dsC v k) xs w' (hGr.ri.keep hb) h (by omega) h1)
      clear hsz hlt2 hG2 X2
      go_wp2
      go_region_held_law (fun w' => Below wr.heap.size wr w' ∧ w'.cell? ⟨w.heap.size, 0, none⟩ = some (.slice A (v + k) c))
        (first | exact ⟨below_drewn _ 1, x0⟩ | exact ⟨by assumption, below_cell (by assumption) x0⟩)
        (first | (go_at_call 79; (with_reducible refine (HTC.out _).mono ?_); rintro e w3 ⟨A3, c3, rfl, ho3, hb3⟩; have hX3 : Below wr.heap.size wr w3 := (below_drewn _ 1).trans (hb3.mono (Nat.le_refl _))) | (go_at_call 57; (with_reducible refine (HEQ.out _ _ _ _ (dsC v k) ?_ ?_ ?_).mono ?_); (exact hX3); (exact ho3.reads); (omega); (rintro e w4 ⟨rfl, hd4⟩); have hX4 : Below wr.heap.size wr w4 := hX3.trans (hd4.below.mono hX3.size)) | (go_at_call 80; (with_reducible refine (within_any _ _ _ _).mono ?_); rintro e w' ⟨rfl, rfl⟩; rw [show inB (v : Int) 1 32 = true by simp [inB]; omega]))
      have hw4 := hW.trans (hX4.mono hW.size)
      have Y4 := Y2.after (hw.trans (hX4.mono hw.size))
      have X4 := X3.after hX4
      have hG4 := hGr.keep hX4
      clear hd4 hX4 hX3 hb3 ho3 HTC HEQ hGr hW X3 x0 x1 Y2 hw hw2
      obtain ⟨x0, x1⟩ := X4.cells2
      have hEd := graph_edges HB.out.ok
      rw [dsC_len] at hEd
      have HE := Lib.hid hEd.inn
      have HEd := Lib.hid hEd
      clear hEd
      go_wp2
      go_loopw [48] (fun i wr => ∃ j : Nat, j ≤ m ∧ i = .int .i64 j ∧ Below w4.heap.size w4 wr) (fun i _ => m - (intOf i).toNat)
      case atStart => exact ⟨0, Nat.zero_le _, rfl, Below.refl _ _⟩
      case round =>
        obtain ⟨j, hj, rfl, hw⟩ := hrel
        have Xr := X4.after hw
        by_cases hjm : j < m
        · obtain ⟨ge, oe, rfl, ce1, ce2, i1, i2⟩ := hG4.re.get hjm
          obtain ⟨x, y, hx, hy, hxn, hyn⟩ := HE.out j (by rw [HLE.out]; exact hjm)
          obtain ⟨hxv, hyv⟩ : x < v ∧ v ≤ y := by
            have := HB.out.bi (nthE es j) (by rw [nthE_get (by rw [HLE.out]; exact hjm)]; exact List.getElem_mem _)
            rw [hx, hy] at this
            omega
          rw [hx] at ce1
          rw [hy] at ce2
          clear i1 i2 hx hy
          have c1 := below_cell hw ce1
          have c2 := below_cell hw ce2
          have hb1 := below_alloc wr (.cells #[.int .i64 (x : Int), .int .i64 (y : Int)] 91)
          have E1 := Blk.new wr 91 #[.int .i64 (x : Int), .int .i64 (y : Int)]
          have X5 := Xr.after hb1
          have hw5 := hw.trans (hb1.mono hw.size)
          have hri := (hG4.ri.keep hw).keep hb1
          obtain ⟨ii, hi, hi0, hi1, hi2⟩ := info_parts edge_info
          obtain ⟨ad, hA, cx, -⟩ := hri.get (k := x) (by omega)
          obtain ⟨ad', hA', cy, -⟩ := hri.get (k := y) (by omega)
          subst hA
          cases hA'
          rw [dsC_nth (by omega), if_pos hxv] at cx
          rw [dsC_nth (by omega), if_neg (by omega)] at cy
          obtain ⟨z0, z1⟩ := X5.cells2
          obtain ⟨y0, y1⟩ := E1.cells2
          clear x0 x1 hb1 hri ce1 ce2
          generalize hW : wr.alloc (.cells #[.int .i64 (x : Int), .int .i64 (y : Int)] 91) = W at *
          go_wp2
          go_quiet (fail)
          go_wp2
          go_roundw
          case rel => exact ⟨j + 1, by omega, by go_num, hw5.trans ((below_drewn _ _).mono hw5.size)⟩
          case measure => simp [intOf]; omega
        · obtain rfl : j = m := by omega
          have HNL := neighborLists_any A (v + k) c F j d (dsC v k) es wr (hG4.keep hw) (by omega) (by omega) HEd.out
          have hw5 := hw4.trans (hw.mono hw4.size)
          have Y5 := Y4.after hw
          obtain ⟨x0', x1'⟩ := Xr.cells2
          clear x0 x1 hw X4 hG4
          go_wp2_with fail
          refine HNL.mono ?_
          rintro e w6 ⟨A6, n6, c6, rfl, ho6, hb6⟩
          have hw6 := hw5.trans (hb6.mono hw5.size)
          have Y6 := Y5.after hb6
          have hr6 := ho6.reads
          clear HNL x0' x1' Y5 hw5
          obtain rfl : n6 = v + k := by rw [← hr6.len, nearP_len]
          have hww := hw6.size
          have HN : Hid (((nearP (v + k) es).drop v).any (fun z => z.length == 0) = false) := Lib.hid (by
            rw [List.any_eq_false]
            intro z hz
            obtain ⟨i, hi, rfl⟩ := List.mem_iff_getElem.1 hz
            rw [List.length_drop, nearP_len] at hi
            have := HB.out.ne i (by omega)
            rw [row_get (by rw [List.length_drop, nearP_len]; exact hi)] at this
            simpa using Nat.pos_iff_ne_zero.1 this)
          have HC : Hid (cells ((nearP (v + k) es).drop v) ≤ 1099511627776) := Lib.hid (by
            have h1 := cells_small (l := (nearP (v + k) es).drop v) (k := 64) (fun r hr => by
              obtain ⟨a, ha, rfl⟩ := List.mem_map.1 (List.mem_of_mem_drop hr)
              exact Nat.le_trans (nearV_len _ _ _) hl64)
            rw [List.length_drop, nearP_len] at h1
            have : (v + k - v) * 64 ≤ 64 * 64 := Nat.mul_le_mul_right _ (by omega)
            omega)
          obtain ⟨g, hA6, hnc, hcc⟩ : ∃ g, A6 = some ⟨g, 0, none⟩ ∧ v + k ≤ c6 ∧ c6 ≤ 9223372036854775807 := by
            obtain ⟨vs, hv⟩ := ho6
            obtain ⟨h1, h2⟩ := hv.os.cap
            rcases hv.os.cases with ⟨_, hn, _⟩ | ⟨g, cur, h, _⟩
            · omega
            · exact ⟨g, h, h1, h2⟩
          subst hA6
          have hrd := hr6.drop_ (k := v) (by omega)
          have hzl : ((nearP (v + k) es).drop v).length = k := by rw [List.length_drop, nearP_len]; omega
          have eg : ∀ (args : Array Value) (w : World), (callFunc 83 args).run Tryz.prog w = .ok (.enter 83 args) w := fun _ _ => by kernel_rfl
          have hask : AskR 83 #[] (fun z => z.length == 0) w6 := fun A' n' c' z W hW hz h2 h3 => emptyList_any A' n' c' z W hz h2 h3
          clear hr6 ho6 hb6
          generalize hzz : (nearP (v + k) es).drop v = zz at *
          have HZ := Lib.hid hzz
          clear hzz
          by_cases hvc : v < c6
          · have hrd : RR w6 (some ⟨g, v, none⟩) k zz := by
              rw [show v + k - v = k by omega, show (⟨g, 0, none⟩ : Addr).add v = ⟨g, v, none⟩ by simp [Addr.add]; omega] at hrd
              exact hrd
            go_wp2_with (first
              | (go_at_call 82; refine (containsFuncR _ _ eg (fun z => z.length == 0) (some ⟨g, v, none⟩) k (c6 - v) zz _ hrd (by omega) hask).mono ?_; rintro e w7 ⟨rfl, hb7⟩; rw [HN.out])
              | (go_at_call 84; refine (sorted_any v (some ⟨g, v, none⟩) k (c6 - v) zz _ (hrd.keep hb7) (by omega) HC.out).mono ?_; rintro e w8 ⟨A8, c8, rfl, ho8, hb8⟩; have hw7 := hw6.trans (hb7.mono hw6.size); have hw8 := hw7.trans (hb8.mono hw7.size); have Y8 := (Y6.after hb7).after hb8; have hY7 := Lib.hid (Y6.after hb7).lt; obtain ⟨y0, y1⟩ := Y8.cells2; have f0 := Y8.frozen 0; have f1 := Y8.frozen 1; have YF := (Y8.set_ 0 (.int .i64 v)).set_ 1 (.slice A8 k c8); obtain ⟨z0, z1⟩ : ((w8.setCell ⟨w.heap.size + 1, 0, none⟩ (.int .i64 v)).setCell ⟨w.heap.size + 1, 1, none⟩ (.slice A8 k c8)).cell? ⟨w.heap.size + 1, 0, none⟩ = some (.int .i64 v) ∧ ((w8.setCell ⟨w.heap.size + 1, 0, none⟩ (.int .i64 v)).setCell ⟨w.heap.size + 1, 1, none⟩ (.slice A8 k c8)).cell? ⟨w.heap.size + 1, 1, none⟩ = some (.slice A8 k c8) := ⟨YF.cell 0, YF.cell 1⟩))
            refine bodyPost_ret (v := .tuple #[.agg #[.int .i64 v, .slice A8 k c8], .int .i64 0]) (by simp [results, Tryz.results45, go_sem, z0, z1]) rfl ?_
            refine ⟨A8, k, c8, rfl, ?_, (hw8.setCell (p := ⟨w.heap.size + 1, 0, none⟩) (by simp) _).setCell (p := ⟨w.heap.size + 1, 1, none⟩) (by simp) _⟩
            rw [HZ.out]
            exact OR.more ((ho8.setLow (p := ⟨w.heap.size + 1, 0, none⟩) hY7.out _).setLow (p := ⟨w.heap.size + 1, 1, none⟩) hY7.out _) hw7.size
          · obtain rfl : k = 0 := by omega
            obtain rfl : c6 = v := by omega
            obtain rfl : zz = [] := List.eq_nil_of_length_eq_zero hzl
            have hrd : RR w6 (some ⟨g, 0, none⟩) 0 [] := ⟨rfl, fun j z hz => by simp at hz⟩
            go_wp2_with (first
              | (go_at_call 82; refine (containsFuncR _ _ eg (fun z => z.length == 0) (some ⟨g, 0, none⟩) 0 0 [] _ hrd (by omega) hask).mono ?_; rintro e w7 ⟨rfl, hb7⟩; rw [HN.out])
              | (go_at_call 84; refine (sorted_any c6 (some ⟨g, 0, none⟩) 0 0 [] _ (hrd.keep hb7) (by omega) HC.out).mono ?_; rintro e w8 ⟨A8, c8, rfl, ho8, hb8⟩; have hw7 := hw6.trans (hb7.mono hw6.size); have hw8 := hw7.trans (hb8.mono hw7.size); have Y8 := (Y6.after hb7).after hb8; have hY7 := Lib.hid (Y6.after hb7).lt; obtain ⟨y0, y1⟩ := Y8.cells2; have f0 := Y8.frozen 0; have f1 := Y8.frozen 1; have YF := (Y8.set_ 0 (.int .i64 c6)).set_ 1 (.slice A8 0 c8); obtain ⟨z0, z1⟩ : ((w8.setCell ⟨w.heap.size + 1, 0, none⟩ (.int .i64 c6)).setCell ⟨w.heap.size + 1, 1, none⟩ (.slice A8 0 c8)).cell? ⟨w.heap.size + 1, 0, none⟩ = some (.int .i64 c6) ∧ ((w8.setCell ⟨w.heap.size + 1, 0, none⟩ (.int .i64 c6)).setCell ⟨w.heap.size + 1, 1, none⟩ (.slice A8 0 c8)).cell? ⟨w.heap.size + 1, 1, none⟩ = some (.slice A8 0 c8) := ⟨YF.cell 0, YF.cell 1⟩))
            refine bodyPost_ret (v := .tuple #[.agg #[.int .i64 c6, .slice A8 0 c8], .int .i64 0]) (by simp [results, Tryz.results45, go_sem, z0, z1]) rfl ?_
            refine ⟨A8, 0, c8, rfl, ?_, (hw8.setCell (p := ⟨w.heap.size + 1, 0, none⟩) (by simp) _).setCell (p := ⟨w.heap.size + 1, 1, none⟩) (by simp) _⟩
            rw [HZ.out]
            exact OR.more ((ho8.setLow (p := ⟨w.heap.size + 1, 0, none⟩) hY7.out _).setLow (p := ⟨w.heap.size + 1, 1, none⟩) hY7.out _) hw7.size
end Go.Proofs.YtaphmapkobbfbaaGreat
