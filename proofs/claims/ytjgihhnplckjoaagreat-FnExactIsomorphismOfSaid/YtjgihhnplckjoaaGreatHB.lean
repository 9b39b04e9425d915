/- CanonicalGraph, both sides. No condition beyond those stated. -/
import Derived.Test.YtjgihhnplckjoaaGreatGX
import Derived.Test.YtjgihhnplckjoaaGreatGY
import Derived.Test.YtjgihhnplckjoaaGreatGC
import Derived.Deep.RegionHeld3
set_option linter.unusedVariables false
set_option linter.unusedSimpArgs false
namespace Go.Proofs.YtjgihhnplckjoaaGreat
open Go.RowKit

/-- a graph, a list and a code, all in memory of the call's own, the list's block not the colors' -/
def RetCan (w : World) (gc : List Int) (ge : List Ed) (p : List Int) (code : Int) (e : Ending) (w' : World) : Prop :=
  ∃ A n c F m d P np cp, e = .returned (.tuple #[.agg #[.slice A n c, .slice F m d], .slice P np cp, .int .i64 code]) ∧ OI w' w.heap.size 2 A n c gc ∧ OE w' w.heap.size 86 F m d ge ∧ OI w' w.heap.size 2 P np cp p ∧ (blk P = none ∨ blk P ≠ blk A) ∧ Below w.heap.size w w'
noncomputable def canC (cs : List Int) (es : List Ed) (b : Int) : List Int := if codeP cs es b = 0 then (runP cs es b.toNat).fc else []
noncomputable def canE (cs : List Int) (es : List Ed) (b : Int) : List Ed := if codeP cs es b = 0 then (runP cs es b.toNat).fe else []
noncomputable def canQ (cs : List Int) (es : List Ed) (b : Int) : List Int := if codeP cs es b = 0 then row (runP cs es b.toNat).best 0 else []
/-- the first row that a search has found -/
theorem BV.first {w : World} {B : Nat} {A : Option Addr} {n c : Nat} {vs : List Sl} {zss : List (List Int)} (h : BV w B A n c vs zss) (h0 : 0 < n) {FA : Option Addr} (ha : Afar vs FA) :
    ∃ (g : Nat) (v : Sl), A = some ⟨g, 0, none⟩ ∧ w.cell? ⟨g, 0, none⟩ = some (.slice v.1 v.2.1 v.2.2) ∧ OI w B 2 v.1 v.2.1 v.2.2 (row zss 0) ∧ (blk v.1 = none ∨ blk v.1 ≠ blk FA) := by
  have hz : 0 < zss.length := by rw [h.slen]; exact h0
  have hj : 0 < vs.length := by rw [h.len]; exact hz
  have hv := List.getElem?_eq_getElem hj
  obtain ⟨g, hA, hc, hf⟩ := h.os.cell (j := 0) (u := slv vs[0]) (by rw [List.getElem?_map, hv]; rfl)
  exact ⟨g, vs[0], hA, hc, by rw [row_get hz]; exact h.rows 0 _ _ hv (List.getElem?_eq_getElem hz), ha 0 _ hv⟩
set_option maxRecDepth 100000 in
set_option maxHeartbeats 2000000 in
theorem impl_CanonicalGraph (A : Option Addr) (n c : Nat) (F : Option Addr) (m d : Nat) (cs : List Int) (es : List Ed) (b : Int) (w : World) (hG : RG w A n F m cs es) (hn : n ≤ 9223372036854775807) (hm : m ≤ 9223372036854775807) :
    Calls Tryz.prog 20 #[.agg #[.slice A n c, .slice F m d], .int .i64 b] w (RetCan w (canC cs es b) (canE cs es b) (canQ cs es b) (codeP cs es b)) := by
  have hb1 := below_then (below_alloc w (.cells #[.slice A n c, .slice F m d] 31)) (below_alloc _ (.cells #[.slice none 0 0, .slice none 0 0] 31))
  have Y : Blk ((w.alloc (.cells #[.slice A n c, .slice F m d] 31)).alloc (.cells #[.slice none 0 0, .slice none 0 0] 31)) (w.heap.size + 1) 31 #[.slice none 0 0, .slice none 0 0] := by
    have := Blk.new (w.alloc (.cells #[.slice A n c, .slice F m d] 31)) 31 #[.slice none 0 0, .slice none 0 0]
    simpa using this
  have X := (Blk.new w 31 #[.slice A n c, .slice F m d]).alloc (.cells #[.slice none 0 0, .slice none 0 0] 31)
  have hx := explored_any' _ A n c F m d cs es b (hG.keep hb1) hn hm
  obtain ⟨ii, hi, hi0, hi1, hi2⟩ := info_parts graph_info
  rcases codeP_cases cs es b with h0 | ⟨h0, h1⟩
  · have HC := Lib.hid h0
    have H1 := Lib.hid (show canC cs es b = (runP cs es b.toNat).fc by rw [canC, if_pos h0])
    have H2 := Lib.hid (show canE cs es b = (runP cs es b.toNat).fe by rw [canE, if_pos h0])
    have H3 := Lib.hid (show canQ cs es b = row (runP cs es b.toNat).best 0 by rw [canQ, if_pos h0])
    have hbe := runP_best (codeP_ok h0).1
    clear h0
    generalize hW1 : (w.alloc (.cells #[.slice A n c, .slice F m d] 31)).alloc (.cells #[.slice none 0 0, .slice none 0 0] 31) = W1 at *
    obtain ⟨x0, x1⟩ := X.cells2
    go_enter Tryz.func20, Tryz.ntmps20
    go_wp2_with fail
    refine hx.mono ?_
    rintro e w2 ⟨hb2, v, rfl, hv⟩
    obtain ⟨w0, rfl, hb0, -, -, -, N, cN, BA, bn, bc, FA, fn, fk, FF, fm, fd, hX⟩ := hv HC.out
    rw [HC.out]
    clear hv hx
    generalize runP cs es b.toNat = s at *
    obtain ⟨vs, hbv, hba⟩ := hX.sb.best
    have hbn : 0 < bn := by rw [← hbv.slen]; exact List.length_pos_iff.2 hbe
    obtain ⟨gb, ⟨P, np, cp⟩, rfl, cP, hP, hfar⟩ := hbv.first hbn hba
    simp only at cP hP hfar
    have c7 := hX.cells.2.2.2.1
    have c8 := hX.cells.2.2.2.2.1
    have c9 := hX.cells.2.2.2.2.2
    have Y2 := Y.after hb2
    have HX := Lib.hid hX
    have HP := Lib.hid hP
    obtain ⟨y0, y1⟩ := Y2.cells2
    have f0 := Y2.frozen 0
    have f1 := Y2.frozen 1
    have hsz : W1.heap.size = w.heap.size + 1 + 1 := by rw [← hW1]; simp
    have hs0 : w.heap.size + 1 < w0.heap.size := by have := hb0.size; omega
    have hsg : w.heap.size + 1 < gb := by have := (hbv.os.lt (k := gb) rfl).1; omega
    clear hbv hba hP hX hbe
    go_wp2
    have hS : (w2.drew.cell? ⟨w0.heap.size, 7, none⟩ = some (.slice FA fn fk) ∧ w2.drew.cell? ⟨w0.heap.size, 8, none⟩ = some (.slice FF fm fd) ∧ w2.drew.cell? ⟨w0.heap.size, 9, none⟩ = some (.slice (some ⟨gb, 0, none⟩) bn bc)) ∧ w2.drew.cell? ⟨gb, 0, none⟩ = some (.slice P np cp) := ⟨⟨by simpa using c7, by simpa using c8, by simpa using c9⟩, by simpa using cP⟩
    refine wp_region_any (by kernel_rfl) (wpAny_of_held (S := fun w' => (w'.cell? ⟨w0.heap.size, 7, none⟩ = some (.slice FA fn fk) ∧ w'.cell? ⟨w0.heap.size, 8, none⟩ = some (.slice FF fm fd) ∧ w'.cell? ⟨w0.heap.size, 9, none⟩ = some (.slice (some ⟨gb, 0, none⟩) bn bc)) ∧ w'.cell? ⟨gb, 0, none⟩ = some (.slice P np cp)) _ _ _ _ ?_)
    refine wpAnyH_take (i := 0) (v := ?_) rfl (by kernel_rfl) (by kernel_rfl) (by kernel_rfl) (fun _ _ _ h => h) (Or.inl ⟨by rfl, ?_⟩) (by assumption) ?_
    rotate_left
    · (intro w hSw; (try dsimp only at hSw); go_simp; (try with_reducible rfl))
    simp only [Act.put, List.setIfInBounds_toArray, List.set_cons_zero, List.set_cons_succ]
    refine wpAnyH_take (i := 1) (v := ?_) rfl (by kernel_rfl) (by kernel_rfl) (by kernel_rfl) (fun _ _ _ h => h) (Or.inl ⟨by rfl, ?_⟩) (by assumption) ?_
    rotate_left
    · (intro w hSw; (try dsimp only at hSw); go_simp; (try with_reducible rfl))
    simp only [Act.put, List.setIfInBounds_toArray, List.set_cons_zero, List.set_cons_succ]
    refine wpAnyH_take (i := 2) (v := ?_) rfl (by kernel_rfl) (by kernel_rfl) (by kernel_rfl) (fun _ _ _ h => h) (Or.inl ⟨by rfl, ?_⟩) (by assumption) ?_
    rotate_left
    · (intro w hSw; (try dsimp only at hSw); go_simp; (try with_reducible rfl))
    simp only [Act.put, List.setIfInBounds_toArray, List.set_cons_zero, List.set_cons_succ]
    refine wpAnyH_take (i := 3) (v := ?_) rfl (by kernel_rfl) (by kernel_rfl) (by kernel_rfl) (fun _ _ _ h => h) (Or.inl ⟨by rfl, ?_⟩) (by assumption) ?_
    rotate_left
    · (intro w hSw; (try dsimp only at hSw); go_simp; (try with_reducible rfl))
    simp only [Act.put, List.setIfInBounds_toArray, List.set_cons_zero, List.set_cons_succ]
    refine wpAnyH_take (i := 4) (v := ?_) rfl (by kernel_rfl) (by kernel_rfl) (by kernel_rfl) (fun _ _ _ h => h) (Or.inl ⟨by rfl, ?_⟩) (by assumption) ?_
    rotate_left
    · (intro w hSw; (try dsimp only at hSw); go_simp; (try with_reducible rfl))
    simp only [Act.put, List.setIfInBounds_toArray, List.set_cons_zero, List.set_cons_succ]
    refine wpAnyH_take (i := 5) (v := ?_) rfl (by kernel_rfl) (by kernel_rfl) (by kernel_rfl) (fun _ _ _ h => h) (Or.inl ⟨by rfl, ?_⟩) (by assumption) ?_
    rotate_left
    · (intro w hSw; (try dsimp only at hSw); go_simp; (try with_reducible rfl))
    simp only [Act.put, List.setIfInBounds_toArray, List.set_cons_zero, List.set_cons_succ]
    refine wpAnyH_take (i := 6) (v := ?_) rfl (by kernel_rfl) (by kernel_rfl) (by kernel_rfl) (fun _ _ _ h => h) (Or.inl ⟨by rfl, ?_⟩) (by assumption) ?_
    rotate_left
    · (intro w hSw; (try dsimp only at hSw); go_simp; (try with_reducible rfl))
    simp only [Act.put, List.setIfInBounds_toArray, List.set_cons_zero, List.set_cons_succ]
    refine wpAnyH_take (i := 7) (v := ?_) rfl (by kernel_rfl) (by kernel_rfl) (by kernel_rfl) (fun _ _ _ h => h) (Or.inl ⟨by rfl, ?_⟩) (by assumption) ?_
    rotate_left
    · (intro w hSw; (try dsimp only at hSw); go_simp; (try with_reducible rfl))
    simp only [Act.put, List.setIfInBounds_toArray, List.set_cons_zero, List.set_cons_succ]
    refine wpAnyH_take (i := 8) (v := ?_) rfl (by kernel_rfl) (by kernel_rfl) (by kernel_rfl) (fun _ _ _ h => h) (Or.inl ⟨by rfl, ?_⟩) (by assumption) ?_
    rotate_left
    · (intro w hSw; (try dsimp only at hSw); go_simp; (try with_reducible rfl))
    simp only [Act.put, List.setIfInBounds_toArray, List.set_cons_zero, List.set_cons_succ]
    refine wpAnyH_take (i := 9) (v := ?_) rfl (by kernel_rfl) (by kernel_rfl) (by kernel_rfl) (fun _ _ _ h => h) (Or.inl ⟨by rfl, ?_⟩) (by assumption) ?_
    rotate_left
    · (intro w hSw; (try dsimp only at hSw); go_simp; (try with_reducible rfl))
    simp only [Act.put, List.setIfInBounds_toArray, List.set_cons_zero, List.set_cons_succ]
    refine wpAnyH_ready (rs := [10]) (by kernel_rfl) (by simp) ?_
    refine AllReadyH.cons rfl (fun K hK => ?_) AllReadyH.nil
    go_simp
    refine hK.out _ _ ?_ (fun hS1 => ?_)
    · refine ⟨⟨?_, ?_, ?_⟩, ?_⟩ <;> go_simp
    clear hK K hS
    refine wpAnyH_take (i := 11) (v := ?_) rfl (by kernel_rfl) (by kernel_rfl) (by kernel_rfl) (fun _ _ _ h => h) (Or.inl ⟨by rfl, ?_⟩) (by assumption) ?_
    rotate_left
    · (intro w hSw; (try dsimp only at hSw); go_simp; (try with_reducible rfl))
    simp only [Act.put, List.setIfInBounds_toArray, List.set_cons_zero, List.set_cons_succ]
    simp only [List.getElem_toArray, List.getElem_cons_succ, List.getElem_cons_zero, List.setIfInBounds_toArray, List.set_cons_zero, List.set_cons_succ]
    refine wpAnyH_take (i := 12) (v := ?_) rfl (by kernel_rfl) (by kernel_rfl) (by kernel_rfl) (fun _ _ _ h => h) (Or.inl ⟨by rfl, ?_⟩) (by assumption) ?_
    rotate_left
    · (intro w hSw; (try dsimp only at hSw); go_simp; (try with_reducible rfl))
    simp only [Act.put, List.setIfInBounds_toArray, List.set_cons_zero, List.set_cons_succ]
    simp only [List.getElem_toArray, List.getElem_cons_succ, List.getElem_cons_zero, List.setIfInBounds_toArray, List.set_cons_zero, List.set_cons_succ]
    refine wpAnyH_done (by kernel_rfl) ?_ _
    clear hS1 c7 c8 c9 cP y0 y1 f0 f1
    have YF := (Y2.set_ 0 (.slice FA fn fk)).set_ 1 (.slice FF fm fd)
    obtain ⟨z0, z1⟩ : (((w2.setCell ⟨w.heap.size + 1, 0, none⟩ (.slice FA fn fk)).setCell ⟨w.heap.size + 1, 1, none⟩ (.slice FF fm fd)).cell? ⟨w.heap.size + 1, 0, none⟩ = some (.slice FA fn fk)) ∧ (((w2.setCell ⟨w.heap.size + 1, 0, none⟩ (.slice FA fn fk)).setCell ⟨w.heap.size + 1, 1, none⟩ (.slice FF fm fd)).cell? ⟨w.heap.size + 1, 1, none⟩ = some (.slice FF fm fd)) := ⟨YF.cell 0, YF.cell 1⟩
    have hlow : w.heap.size + 1 < w0.heap.size + 1 := by omega
    have hmo : w.heap.size ≤ w0.heap.size + 1 := by omega
    go_wp2
    refine bodyPost_ret (v := .tuple #[.agg #[.slice FA fn fk, .slice FF fm fd], .slice P np cp, .int .i64 0]) (by simp [results, Tryz.results20, go_sem, z0, z1]) rfl ?_
    rw [H1.out, H2.out, H3.out, HC.out]
    refine ⟨_, _, _, _, _, _, _, _, _, rfl, ?_, ?_, ?_, hfar, ?_⟩
    · exact (((HX.out.sb.fc.setLow hlow _).setLow hlow _).drewN 1).more hmo
    · exact (((HX.out.sb.fe.setLow hlow _).setLow hlow _).drewN 1).more hmo
    · exact (((HP.out.setLow hlow _).setLow hlow _).drewN 1).more hmo
    · have hw2 := hb1.trans (hb2.mono hb1.size)
      exact ((hw2.setCell (p := ⟨w.heap.size + 1, 0, none⟩) (by simp) _).setCell (p := ⟨w.heap.size + 1, 1, none⟩) (by simp) _).trans (below_drewn' _ _ 1)
  · have HC := Lib.hid h0
    have H1' := Lib.hid (show canC cs es b = [] by rw [canC, if_neg h0])
    have H2' := Lib.hid (show canE cs es b = [] by rw [canE, if_neg h0])
    have H3' := Lib.hid (show canQ cs es b = [] by rw [canQ, if_neg h0])
    clear h0
    generalize hW1 : (w.alloc (.cells #[.slice A n c, .slice F m d] 31)).alloc (.cells #[.slice none 0 0, .slice none 0 0] 31) = W1 at *
    obtain ⟨x0, x1⟩ := X.cells2
    go_enter Tryz.func20, Tryz.ntmps20
    go_wp2_with fail
    refine hx.mono ?_
    rintro e w2 ⟨hb2, v, rfl, -⟩
    have Y2 := Y.after hb2
    obtain ⟨y0, y1⟩ := Y2.cells2
    have f0 := Y2.frozen 0
    have f1 := Y2.frozen 1
    have YF := (Y2.set_ 0 (.slice none 0 0)).set_ 1 (.slice none 0 0)
    obtain ⟨z0, z1⟩ : (((w2.setCell ⟨w.heap.size + 1, 0, none⟩ (.slice none 0 0)).setCell ⟨w.heap.size + 1, 1, none⟩ (.slice none 0 0)).cell? ⟨w.heap.size + 1, 0, none⟩ = some (.slice none 0 0)) ∧ (((w2.setCell ⟨w.heap.size + 1, 0, none⟩ (.slice none 0 0)).setCell ⟨w.heap.size + 1, 1, none⟩ (.slice none 0 0)).cell? ⟨w.heap.size + 1, 1, none⟩ = some (.slice none 0 0)) := ⟨YF.cell 0, YF.cell 1⟩
    clear hx
    go_wp2
    refine bodyPost_ret (v := .tuple #[.agg #[.slice none 0 0, .slice none 0 0], .slice none 0 0, .int .i64 (codeP cs es b)]) (by simp [results, Tryz.results20, go_sem, z0, z1]) rfl ?_
    rw [H1'.out, H2'.out, H3'.out]
    have hw2 := hb1.trans (hb2.mono hb1.size)
    exact ⟨_, _, _, _, _, _, _, _, _, rfl, OI.nil_ _ _ _, OE.nil_ _ _ _, OI.nil_ _ _ _, far_none _, (hw2.setCell (p := ⟨w.heap.size + 1, 0, none⟩) (by simp) _).setCell (p := ⟨w.heap.size + 1, 1, none⟩) (by simp) _⟩
set_option maxRecDepth 100000 in
set_option maxHeartbeats 2000000 in
theorem spec_CanonicalGraph (A : Option Addr) (n c : Nat) (F : Option Addr) (m d : Nat) (cs : List Int) (es : List Ed) (b : Int) (w : World) (hG : RG w A n F m cs es) (hn : n ≤ 9223372036854775807) (hm : m ≤ 9223372036854775807) :
    Calls Tryz.prog 19 #[.agg #[.slice A n c, .slice F m d], .int .i64 b] w (RetCan w (canC cs es b) (canE cs es b) (canQ cs es b) (codeP cs es b)) := by
  have hb1 := below_then (below_alloc w (.cells #[.slice A n c, .slice F m d] 31)) (below_alloc _ (.cells #[.slice none 0 0, .slice none 0 0] 31))
  have Y : Blk ((w.alloc (.cells #[.slice A n c, .slice F m d] 31)).alloc (.cells #[.slice none 0 0, .slice none 0 0] 31)) (w.heap.size + 1) 31 #[.slice none 0 0, .slice none 0 0] := by
    have := Blk.new (w.alloc (.cells #[.slice A n c, .slice F m d] 31)) 31 #[.slice none 0 0, .slice none 0 0]
    simpa using this
  have X := (Blk.new w 31 #[.slice A n c, .slice F m d]).alloc (.cells #[.slice none 0 0, .slice none 0 0] 31)
  have hx := l22Start_any _ A n c F m d cs es b (hG.keep hb1) hn hm
  obtain ⟨ii, hi, hi0, hi1, hi2⟩ := info_parts graph_info
  rcases codeP_cases cs es b with h0 | ⟨h0, h1⟩
  · have HC := Lib.hid h0
    have H1 := Lib.hid (show canC cs es b = (runP cs es b.toNat).fc by rw [canC, if_pos h0])
    have H2 := Lib.hid (show canE cs es b = (runP cs es b.toNat).fe by rw [canE, if_pos h0])
    have H3 := Lib.hid (show canQ cs es b = row (runP cs es b.toNat).best 0 by rw [canQ, if_pos h0])
    have hbe := runP_best (codeP_ok h0).1
    clear h0
    generalize hW1 : (w.alloc (.cells #[.slice A n c, .slice F m d] 31)).alloc (.cells #[.slice none 0 0, .slice none 0 0] 31) = W1 at *
    obtain ⟨x0, x1⟩ := X.cells2
    go_enter Tryz.func19, Tryz.ntmps19
    go_wp2_with fail
    refine hx.mono ?_
    rintro e w2 ⟨hb2, v, rfl, hv⟩
    obtain ⟨w0, rfl, hb0, -, -, -, N, cN, BA, bn, bc, FA, fn, fk, FF, fm, fd, hX⟩ := hv HC.out
    rw [HC.out]
    clear hv hx
    generalize runP cs es b.toNat = s at *
    obtain ⟨vs, hbv, hba⟩ := hX.sb.best
    have hbn : 0 < bn := by rw [← hbv.slen]; exact List.length_pos_iff.2 hbe
    obtain ⟨gb, ⟨P, np, cp⟩, rfl, cP, hP, hfar⟩ := hbv.first hbn hba
    simp only at cP hP hfar
    have c7 := hX.cells.1.2.2.2.1
    have c8 := hX.cells.1.2.2.2.2
    have c9 := hX.cells.2.1
    have Y2 := Y.after hb2
    have HX := Lib.hid hX
    have HP := Lib.hid hP
    obtain ⟨y0, y1⟩ := Y2.cells2
    have f0 := Y2.frozen 0
    have f1 := Y2.frozen 1
    have hsz : W1.heap.size = w.heap.size + 1 + 1 := by rw [← hW1]; simp
    have hs0 : w.heap.size + 1 < w0.heap.size := by have := hb0.size; omega
    have hsg : w.heap.size + 1 < gb := by have := (hbv.os.lt (k := gb) rfl).1; omega
    clear hbv hba hP hX hbe
    go_wp2
    have hS : (w2.drew.cell? ⟨w0.heap.size, 3, none⟩ = some (.slice FA fn fk) ∧ w2.drew.cell? ⟨w0.heap.size, 4, none⟩ = some (.slice FF fm fd) ∧ w2.drew.cell? ⟨w0.heap.size, 5, none⟩ = some (.slice (some ⟨gb, 0, none⟩) bn bc)) ∧ w2.drew.cell? ⟨gb, 0, none⟩ = some (.slice P np cp) := ⟨⟨by simpa using c7, by simpa using c8, by simpa using c9⟩, by simpa using cP⟩
    refine wp_region_any (by kernel_rfl) (wpAny_of_held (S := fun w' => (w'.cell? ⟨w0.heap.size, 3, none⟩ = some (.slice FA fn fk) ∧ w'.cell? ⟨w0.heap.size, 4, none⟩ = some (.slice FF fm fd) ∧ w'.cell? ⟨w0.heap.size, 5, none⟩ = some (.slice (some ⟨gb, 0, none⟩) bn bc)) ∧ w'.cell? ⟨gb, 0, none⟩ = some (.slice P np cp)) _ _ _ _ ?_)
    refine wpAnyH_take (i := 0) (v := ?_) rfl (by kernel_rfl) (by kernel_rfl) (by kernel_rfl) (fun _ _ _ h => h) (Or.inl ⟨by rfl, ?_⟩) (by assumption) ?_
    rotate_left
    · (intro w hSw; (try dsimp only at hSw); go_simp; (try with_reducible rfl))
    simp only [Act.put, List.setIfInBounds_toArray, List.set_cons_zero, List.set_cons_succ]
    refine wpAnyH_take (i := 1) (v := ?_) rfl (by kernel_rfl) (by kernel_rfl) (by kernel_rfl) (fun _ _ _ h => h) (Or.inl ⟨by rfl, ?_⟩) (by assumption) ?_
    rotate_left
    · (intro w hSw; (try dsimp only at hSw); go_simp; (try with_reducible rfl))
    simp only [Act.put, List.setIfInBounds_toArray, List.set_cons_zero, List.set_cons_succ]
    refine wpAnyH_take (i := 2) (v := ?_) rfl (by kernel_rfl) (by kernel_rfl) (by kernel_rfl) (fun _ _ _ h => h) (Or.inl ⟨by rfl, ?_⟩) (by assumption) ?_
    rotate_left
    · (intro w hSw; (try dsimp only at hSw); go_simp; (try with_reducible rfl))
    simp only [Act.put, List.setIfInBounds_toArray, List.set_cons_zero, List.set_cons_succ]
    refine wpAnyH_take (i := 3) (v := ?_) rfl (by kernel_rfl) (by kernel_rfl) (by kernel_rfl) (fun _ _ _ h => h) (Or.inl ⟨by rfl, ?_⟩) (by assumption) ?_
    rotate_left
    · (intro w hSw; (try dsimp only at hSw); go_simp; (try with_reducible rfl))
    simp only [Act.put, List.setIfInBounds_toArray, List.set_cons_zero, List.set_cons_succ]
    refine wpAnyH_take (i := 4) (v := ?_) rfl (by kernel_rfl) (by kernel_rfl) (by kernel_rfl) (fun _ _ _ h => h) (Or.inl ⟨by rfl, ?_⟩) (by assumption) ?_
    rotate_left
    · (intro w hSw; (try dsimp only at hSw); go_simp; (try with_reducible rfl))
    simp only [Act.put, List.setIfInBounds_toArray, List.set_cons_zero, List.set_cons_succ]
    refine wpAnyH_take (i := 5) (v := ?_) rfl (by kernel_rfl) (by kernel_rfl) (by kernel_rfl) (fun _ _ _ h => h) (Or.inl ⟨by rfl, ?_⟩) (by assumption) ?_
    rotate_left
    · (intro w hSw; (try dsimp only at hSw); go_simp; (try with_reducible rfl))
    simp only [Act.put, List.setIfInBounds_toArray, List.set_cons_zero, List.set_cons_succ]
    refine wpAnyH_take (i := 6) (v := ?_) rfl (by kernel_rfl) (by kernel_rfl) (by kernel_rfl) (fun _ _ _ h => h) (Or.inl ⟨by rfl, ?_⟩) (by assumption) ?_
    rotate_left
    · (intro w hSw; (try dsimp only at hSw); go_simp; (try with_reducible rfl))
    simp only [Act.put, List.setIfInBounds_toArray, List.set_cons_zero, List.set_cons_succ]
    refine wpAnyH_take (i := 7) (v := ?_) rfl (by kernel_rfl) (by kernel_rfl) (by kernel_rfl) (fun _ _ _ h => h) (Or.inl ⟨by rfl, ?_⟩) (by assumption) ?_
    rotate_left
    · (intro w hSw; (try dsimp only at hSw); go_simp; (try with_reducible rfl))
    simp only [Act.put, List.setIfInBounds_toArray, List.set_cons_zero, List.set_cons_succ]
    refine wpAnyH_take (i := 8) (v := ?_) rfl (by kernel_rfl) (by kernel_rfl) (by kernel_rfl) (fun _ _ _ h => h) (Or.inl ⟨by rfl, ?_⟩) (by assumption) ?_
    rotate_left
    · (intro w hSw; (try dsimp only at hSw); go_simp; (try with_reducible rfl))
    simp only [Act.put, List.setIfInBounds_toArray, List.set_cons_zero, List.set_cons_succ]
    refine wpAnyH_take (i := 9) (v := ?_) rfl (by kernel_rfl) (by kernel_rfl) (by kernel_rfl) (fun _ _ _ h => h) (Or.inl ⟨by rfl, ?_⟩) (by assumption) ?_
    rotate_left
    · (intro w hSw; (try dsimp only at hSw); go_simp; (try with_reducible rfl))
    simp only [Act.put, List.setIfInBounds_toArray, List.set_cons_zero, List.set_cons_succ]
    refine wpAnyH_ready (rs := [10]) (by kernel_rfl) (by simp) ?_
    refine AllReadyH.cons rfl (fun K hK => ?_) AllReadyH.nil
    go_simp
    refine hK.out _ _ ?_ (fun hS1 => ?_)
    · refine ⟨⟨?_, ?_, ?_⟩, ?_⟩ <;> go_simp
    clear hK K hS
    refine wpAnyH_take (i := 11) (v := ?_) rfl (by kernel_rfl) (by kernel_rfl) (by kernel_rfl) (fun _ _ _ h => h) (Or.inl ⟨by rfl, ?_⟩) (by assumption) ?_
    rotate_left
    · (intro w hSw; (try dsimp only at hSw); go_simp; (try with_reducible rfl))
    simp only [Act.put, List.setIfInBounds_toArray, List.set_cons_zero, List.set_cons_succ]
    simp only [List.getElem_toArray, List.getElem_cons_succ, List.getElem_cons_zero, List.setIfInBounds_toArray, List.set_cons_zero, List.set_cons_succ]
    refine wpAnyH_take (i := 12) (v := ?_) rfl (by kernel_rfl) (by kernel_rfl) (by kernel_rfl) (fun _ _ _ h => h) (Or.inl ⟨by rfl, ?_⟩) (by assumption) ?_
    rotate_left
    · (intro w hSw; (try dsimp only at hSw); go_simp; (try with_reducible rfl))
    simp only [Act.put, List.setIfInBounds_toArray, List.set_cons_zero, List.set_cons_succ]
    simp only [List.getElem_toArray, List.getElem_cons_succ, List.getElem_cons_zero, List.setIfInBounds_toArray, List.set_cons_zero, List.set_cons_succ]
    refine wpAnyH_done (by kernel_rfl) ?_ _
    clear hS1 c7 c8 c9 cP y0 y1 f0 f1
    have YF := (Y2.set_ 0 (.slice FA fn fk)).set_ 1 (.slice FF fm fd)
    obtain ⟨z0, z1⟩ : (((w2.setCell ⟨w.heap.size + 1, 0, none⟩ (.slice FA fn fk)).setCell ⟨w.heap.size + 1, 1, none⟩ (.slice FF fm fd)).cell? ⟨w.heap.size + 1, 0, none⟩ = some (.slice FA fn fk)) ∧ (((w2.setCell ⟨w.heap.size + 1, 0, none⟩ (.slice FA fn fk)).setCell ⟨w.heap.size + 1, 1, none⟩ (.slice FF fm fd)).cell? ⟨w.heap.size + 1, 1, none⟩ = some (.slice FF fm fd)) := ⟨YF.cell 0, YF.cell 1⟩
    have hlow : w.heap.size + 1 < w0.heap.size + 1 := by omega
    have hmo : w.heap.size ≤ w0.heap.size + 1 := by omega
    go_wp2
    refine bodyPost_ret (v := .tuple #[.agg #[.slice FA fn fk, .slice FF fm fd], .slice P np cp, .int .i64 0]) (by simp [results, Tryz.results19, go_sem, z0, z1]) rfl ?_
    rw [H1.out, H2.out, H3.out, HC.out]
    refine ⟨_, _, _, _, _, _, _, _, _, rfl, ?_, ?_, ?_, hfar, ?_⟩
    · exact (((HX.out.sb.fc.setLow hlow _).setLow hlow _).drewN 1).more hmo
    · exact (((HX.out.sb.fe.setLow hlow _).setLow hlow _).drewN 1).more hmo
    · exact (((HP.out.setLow hlow _).setLow hlow _).drewN 1).more hmo
    · have hw2 := hb1.trans (hb2.mono hb1.size)
      exact ((hw2.setCell (p := ⟨w.heap.size + 1, 0, none⟩) (by simp) _).setCell (p := ⟨w.heap.size + 1, 1, none⟩) (by simp) _).trans (below_drewn' _ _ 1)
  · have HC := Lib.hid h0
    have H1' := Lib.hid (show canC cs es b = [] by rw [canC, if_neg h0])
    have H2' := Lib.hid (show canE cs es b = [] by rw [canE, if_neg h0])
    have H3' := Lib.hid (show canQ cs es b = [] by rw [canQ, if_neg h0])
    clear h0
    generalize hW1 : (w.alloc (.cells #[.slice A n c, .slice F m d] 31)).alloc (.cells #[.slice none 0 0, .slice none 0 0] 31) = W1 at *
    obtain ⟨x0, x1⟩ := X.cells2
    go_enter Tryz.func19, Tryz.ntmps19
    go_wp2_with fail
    refine hx.mono ?_
    rintro e w2 ⟨hb2, v, rfl, -⟩
    have Y2 := Y.after hb2
    obtain ⟨y0, y1⟩ := Y2.cells2
    have f0 := Y2.frozen 0
    have f1 := Y2.frozen 1
    have YF := (Y2.set_ 0 (.slice none 0 0)).set_ 1 (.slice none 0 0)
    obtain ⟨z0, z1⟩ : (((w2.setCell ⟨w.heap.size + 1, 0, none⟩ (.slice none 0 0)).setCell ⟨w.heap.size + 1, 1, none⟩ (.slice none 0 0)).cell? ⟨w.heap.size + 1, 0, none⟩ = some (.slice none 0 0)) ∧ (((w2.setCell ⟨w.heap.size + 1, 0, none⟩ (.slice none 0 0)).setCell ⟨w.heap.size + 1, 1, none⟩ (.slice none 0 0)).cell? ⟨w.heap.size + 1, 1, none⟩ = some (.slice none 0 0)) := ⟨YF.cell 0, YF.cell 1⟩
    clear hx
    go_wp2
    refine bodyPost_ret (v := .tuple #[.agg #[.slice none 0 0, .slice none 0 0], .slice none 0 0, .int .i64 (codeP cs es b)]) (by simp [results, Tryz.results19, go_sem, z0, z1]) rfl ?_
    rw [H1'.out, H2'.out, H3'.out]
    have hw2 := hb1.trans (hb2.mono hb1.size)
    exact ⟨_, _, _, _, _, _, _, _, _, rfl, OI.nil_ _ _ _, OE.nil_ _ _ _, OI.nil_ _ _ _, far_none _, (hw2.setCell (p := ⟨w.heap.size + 1, 0, none⟩) (by simp) _).setCell (p := ⟨w.heap.size + 1, 1, none⟩) (by simp) _⟩
end Go.Proofs.YtjgihhnplckjoaaGreat
/- The law on CanonicalGraph. No condition beyond those stated. -/
namespace Go.Proofs.YtjgihhnplckjoaaGreat
open Go.RowKit

/-- a graph and a list, all in memory of a call's own from B on and below D, the list's block not the colors' -/
structure OGP (w : World) (B D : Nat) (A : Option Addr) (n c : Nat) (F : Option Addr) (m d : Nat) (P : Option Addr) (np cp : Nat) (cs : List Int) (es : List Ed) (p : List Int) : Prop where
  g : OG w B D A n c F m d cs es
  p : OI w B 2 P np cp p
  lp : ∀ b, blk P = some b → b < D
  ap : blk P = none ∨ blk P ≠ blk A
section
variable {w w' : World} {B D B' D' : Nat} {A : Option Addr} {n c : Nat} {F : Option Addr} {m d : Nat} {P : Option Addr} {np cp : Nat} {cs : List Int} {es : List Ed} {p : List Int}
theorem OGP.mid (h : OGP w B D A n c F m d P np cp cs es p) (hm : Mid w w' B' D') (hd : D' ≤ B ∨ D ≤ B') : OGP w' B D A n c F m d P np cp cs es p :=
  ⟨h.g.mid hm hd, h.p.mid hm (fun b hb => by have := (h.p.os.lt hb).1; have := h.lp b hb; omega), h.lp, h.ap⟩
theorem OGP.below (h : OGP w B D A n c F m d P np cp cs es p) (hb : Below w.heap.size w w') : OGP w' B D A n c F m d P np cp cs es p := h.mid (Mid.of_below hb (Nat.le_refl _) 0 0) (.inl (Nat.zero_le _))
theorem OGP.of (h1 : OI w B 2 A n c cs) (h2 : OE w B 86 F m d es) (h3 : OI w B 2 P np cp p) (h4 : blk P = none ∨ blk P ≠ blk A) : OGP w B w.heap.size A n c F m d P np cp cs es p :=
  ⟨OG.of h1 h2, h3, fun _ hb => (h3.os.lt hb).2, h4⟩
end
set_option maxHeartbeats 400000 in
theorem markGraph_with (B D : Nat) (A F : Option Addr) (n c m d k : Nat) (P : Option Addr) (np cp : Nat) (cs : List Int) (es : List Ed) (p : List Int) (w : World) (ha : OGP w B D A n c F m d P np cp cs es p) (hk : k + n + 2 * m ≤ 4611686018427387904) :
    Calls Tryz.prog 22 #[.agg #[.slice A n c, .slice F m d], .int .i64 k] w fun en w' => en = .returned (.int .i64 ((k + n + 2 * m : Nat) : Int)) ∧ OGP w' B D A n c F m d P np cp (marks k n) (marksE (k + n) m) p ∧ Mid w w' B D := by
  have hb := below_alloc w (.cells #[.slice A n c, .slice F m d] 31)
  have X := Blk.new w 31 #[.slice A n c, .slice F m d]
  have ho := ha.below hb
  go_enter Tryz.func22, Tryz.ntmps22
  go_wp2_with fail
  refine (markInt64S_own B _ A n c k cs _ ho.g.oi (by omega)).mono ?_
  rintro e w1 ⟨rfl, ho1, hg1⟩
  have hm1 : Mid w w1 B D := (Mid.of_below hb (Nat.le_refl _) B D).trans (Mid.grown hg1 fun b hb => ⟨(ho.g.oi.os.lt hb).1, ho.g.la b hb⟩)
  have oe1 := ho.g.oe.kept hg1 ha.g.apart'
  have op1 := ho.p.kept hg1 ha.ap
  have X1 := X.grown hg1 (fun e => by have := (ho.g.oi.os.lt e.symm).2; have := (ha.g.oi.os.lt e.symm).2; omega)
  obtain ⟨x0, x1⟩ := X1.cells2
  have hkn : k + n + 2 * m ≤ 4611686018427387904 := hk
  generalize hq : k + n = q at *
  have HQ := Lib.hid hq; clear hq
  go_wp2_with fail
  refine (markEdgeS_own B _ F m d q es _ oe1 (by omega)).mono ?_
  rintro e w2 ⟨rfl, ho2, hg2⟩
  have hm2 := hm1.trans (Mid.grown hg2 fun b hb => ⟨(oe1.os.lt hb).1, ho.g.lf b hb⟩)
  have oi2 := ho1.kept hg2 ha.g.apart
  have op2 := op1.kept hg2 (OS.typed op1.os oe1.os (by decide))
  go_wp2
  go_ret
  exact ⟨ret_int (by have := HQ.out; omega), ⟨⟨oi2, by rw [HQ.out]; exact ho2, ha.g.la, ha.g.lf⟩, op2, ha.lp, ha.ap⟩, hm2⟩
theorem markList_with (B D : Nat) (A F : Option Addr) (n c m d k : Nat) (P : Option Addr) (np cp : Nat) (cs : List Int) (es : List Ed) (p : List Int) (w : World) (ha : OGP w B D A n c F m d P np cp cs es p) (hk : k + np ≤ 4611686018427387904) :
    Calls Tryz.prog 23 #[.slice P np cp, .int .i64 k] w fun en w' => en = .returned (.int .i64 ((k + np : Nat) : Int)) ∧ OGP w' B D A n c F m d P np cp cs es (marks k np) ∧ Mid w w' B D := by
  refine (markInt64S_own B _ P np cp k p w ha.p hk).mono ?_
  rintro e w1 ⟨he, ho1, hg1⟩
  have hap : blk A = none ∨ blk A ≠ blk P := by
    rcases ha.ap with h | h
    · cases hA : blk A with
      | none => exact .inl rfl
      | some b => exact .inr (by rw [h]; simp)
    · exact .inr fun e => h e.symm
  exact ⟨he, ⟨⟨ha.g.oi.kept hg1 hap, ha.g.oe.kept hg1 (OS.typed ha.g.oe.os ha.p.os (by decide)), ha.g.la, ha.g.lf⟩, ho1, ha.lp, ha.ap⟩, Mid.grown hg1 fun b hb => ⟨(ha.p.os.lt hb).1, ha.lp b hb⟩⟩
/-- between the calls of the law: the reference's graph (its variable in block g4) and list, read since w2; the program's (its variable in block g7), its memory from B on and below D -/
structure LCan (w w2 w' : World) (gc : List Int) (ge : List Ed) (q : List Int) (yc : List Int) (ye : List Ed) (yq : List Int) (g4 g7 B D : Nat) (A2 : Option Addr) (n2 c2 : Nat) (F2 : Option Addr) (m2 d2 : Nat) (P2 : Option Addr) (p2 : Nat) (A4 : Option Addr) (n4 c4 : Nat) (F4 : Option Addr) (m4 d4 : Nat) (P4 : Option Addr) (p4 k4 : Nat) : Prop where
  bw : Below w.heap.size w w2
  b2 : Below w2.heap.size w2 w'
  r2 : RG w2 A2 n2 F2 m2 gc ge
  q2 : RI w2 P2 p2 q
  x4 : Blk w' g4 31 #[.slice A2 n2 c2, .slice F2 m2 d2]
  x7 : Blk w' g7 31 #[.slice A4 n4 c4, .slice F4 m4 d4]
  o4 : OGP w' B D A4 n4 c4 F4 m4 d4 P4 p4 k4 yc ye yq
  hB : w2.heap.size ≤ B
section
variable {w w2 w' w'' : World} {gc : List Int} {ge : List Ed} {q : List Int} {yc zc : List Int} {ye ze : List Ed} {yq zq : List Int} {g4 g7 B D : Nat} {A2 : Option Addr} {n2 c2 : Nat} {F2 : Option Addr} {m2 d2 : Nat} {P2 : Option Addr} {p2 : Nat} {A4 : Option Addr} {n4 c4 : Nat} {F4 : Option Addr} {m4 d4 : Nat} {P4 : Option Addr} {p4 k4 : Nat}
theorem LCan.below (h : LCan w w2 w' gc ge q yc ye yq g4 g7 B D A2 n2 c2 F2 m2 d2 P2 p2 A4 n4 c4 F4 m4 d4 P4 p4 k4) : Below w.heap.size w w' := h.bw.trans (h.b2.mono h.bw.size)
theorem LCan.step (h : LCan w w2 w' gc ge q yc ye yq g4 g7 B D A2 n2 c2 F2 m2 d2 P2 p2 A4 n4 c4 F4 m4 d4 P4 p4 k4) (hb : Below w'.heap.size w' w'') : LCan w w2 w'' gc ge q yc ye yq g4 g7 B D A2 n2 c2 F2 m2 d2 P2 p2 A4 n4 c4 F4 m4 d4 P4 p4 k4 :=
  ⟨h.bw, h.b2.trans (hb.mono h.b2.size), h.r2, h.q2, h.x4.after hb, h.x7.after hb, h.o4.below hb, h.hB⟩
theorem LCan.mid {B' D' : Nat} (h : LCan w w2 w' gc ge q yc ye yq g4 g7 B D A2 n2 c2 F2 m2 d2 P2 p2 A4 n4 c4 F4 m4 d4 P4 p4 k4) (hm : Mid w' w'' B' D') (h1 : w2.heap.size ≤ B') (h4 : g4 < B' ∨ D' ≤ g4) (h7 : g7 < B' ∨ D' ≤ g7) (ho : D' ≤ B ∨ D ≤ B') : LCan w w2 w'' gc ge q yc ye yq g4 g7 B D A2 n2 c2 F2 m2 d2 P2 p2 A4 n4 c4 F4 m4 d4 P4 p4 k4 :=
  ⟨h.bw, h.b2.trans ((Mid.below (B := w2.heap.size) (D := D') ⟨hm.os, hm.tape, hm.output, hm.size, fun k hk hb => hm.blk k hk (hb.elim (fun h => .inl (by omega)) .inr)⟩ h.b2.size)), h.r2, h.q2, h.x4.mid hm h4, h.x7.mid hm h7, h.o4.mid hm ho, h.hB⟩
theorem LCan.marked (h : LCan w w2 w' gc ge q yc ye yq g4 g7 B D A2 n2 c2 F2 m2 d2 P2 p2 A4 n4 c4 F4 m4 d4 P4 p4 k4) (hm : Mid w' w'' B D) (ho : OGP w'' B D A4 n4 c4 F4 m4 d4 P4 p4 k4 zc ze zq) (h4 : g4 < B ∨ D ≤ g4) (h7 : g7 < B ∨ D ≤ g7) : LCan w w2 w'' gc ge q zc ze zq g4 g7 B D A2 n2 c2 F2 m2 d2 P2 p2 A4 n4 c4 F4 m4 d4 P4 p4 k4 :=
  ⟨h.bw, h.b2.trans ((Mid.below (B := w2.heap.size) (D := D) ⟨hm.os, hm.tape, hm.output, hm.size, fun k hk hb => hm.blk k hk (hb.elim (fun h' => .inl (by have := h.hB; omega)) .inr)⟩ h.b2.size)), h.r2, h.q2, h.x4.mid hm h4, h.x7.mid hm h7, ho, h.hB⟩
theorem LCan.cells (h : LCan w w2 w' gc ge q yc ye yq g4 g7 B D A2 n2 c2 F2 m2 d2 P2 p2 A4 n4 c4 F4 m4 d4 P4 p4 k4) :
    (w'.cell? ⟨g4, 0, none⟩ = some (.slice A2 n2 c2) ∧ w'.cell? ⟨g4, 1, none⟩ = some (.slice F2 m2 d2)) ∧ (w'.cell? ⟨g7, 0, none⟩ = some (.slice A4 n4 c4) ∧ w'.cell? ⟨g7, 1, none⟩ = some (.slice F4 m4 d4)) := ⟨h.x4.cells2, h.x7.cells2⟩
theorem LCan.rd (h : LCan w w2 w' gc ge q yc ye yq g4 g7 B D A2 n2 c2 F2 m2 d2 P2 p2 A4 n4 c4 F4 m4 d4 P4 p4 k4) : RG w' A2 n2 F2 m2 gc ge := h.r2.keep h.b2
theorem LCan.rq (h : LCan w w2 w' gc ge q yc ye yq g4 g7 B D A2 n2 c2 F2 m2 d2 P2 p2 A4 n4 c4 F4 m4 d4 P4 p4 k4) : RI w' P2 p2 q := h.q2.keep h.b2
end
theorem dec_self (q : List Int) : decide (q = q) = true := by simp
theorem run_form {cs : List Int} {es : List Ed} {b : Nat} (h : (runP cs es b).spent = false) : (runP cs es b).fc = relC cs (row (runP cs es b).best 0) ∧ (runP cs es b).fe = relE es (row (runP cs es b).best 0) := by
  have hm := row0_mem (runP_best h)
  have := (runP_seen cs es h).forms _ hm
  exact ⟨this.1.symm, this.2.symm⟩
theorem can_len (cs : List Int) (es : List Ed) (b : Int) : (canC cs es b).length ≤ 1048576 ∧ (canE cs es b).length ≤ 1048576 ∧ (canQ cs es b).length ≤ 1048576 := by
  by_cases h : codeP cs es b = 0
  · obtain ⟨h1, h2, h3⟩ := codeP_ok h
    obtain ⟨f1, f2⟩ := run_form h1
    have hr := (runP_rows cs es b.toNat _ (row0_mem (runP_best h1))).1.len
    have hc := h2.clen
    have he := h2.elen
    rw [canC, canE, canQ, if_pos h, if_pos h, if_pos h, f1, f2]
    have h4 := relE_len es (row (runP cs es b.toNat).best 0)
    rw [relC_len]
    omega
  · rw [canC, canE, canQ, if_neg h, if_neg h, if_neg h]
    simp
set_option maxRecDepth 100000 in
set_option maxHeartbeats 4000000 in
theorem law_CanonicalGraph_ok (A : Option Addr) (n c : Nat) (F : Option Addr) (m d : Nat) (cs : List Int) (es : List Ed) (b : Int) (w : World) (ha : RG w A n F m cs es) (hs : (n : Int) + m ≤ 1048576) (gc : List Int) (ge : List Ed) (q : List Int) (C : Int) (hz : gc.length ≤ 1048576 ∧ ge.length ≤ 1048576 ∧ q.length ≤ 1048576)
    (hspec : ∀ (A : Option Addr) (n c : Nat) (F : Option Addr) (m d : Nat) (w : World), RG w A n F m cs es → n ≤ 1048576 → m ≤ 1048576 → Calls Tryz.prog 19 #[.agg #[.slice A n c, .slice F m d], .int .i64 b] w (RetCan w gc ge q C))
    (himpl : ∀ (A : Option Addr) (n c : Nat) (F : Option Addr) (m d : Nat) (w : World), RG w A n F m cs es → n ≤ 1048576 → m ≤ 1048576 → Calls Tryz.prog 20 #[.agg #[.slice A n c, .slice F m d], .int .i64 b] w (RetCan w gc ge q C)) :
    Calls Tryz.prog 6 #[.agg #[.slice A n c, .slice F m d], .int .i64 b] w fun e w' => e = .returned (.bool true) ∧ Below w.heap.size w w' := by
  have hla := Lib.hid ha.ri.len
  have hle := Lib.hid ha.re.len
  obtain ⟨bz1, bz2⟩ : n ≤ 1048576 ∧ m ≤ 1048576 := by omega
  obtain ⟨hz1, hz2, hz3⟩ := hz
  have E1 := Lib.hid (szF_parts hs)
  have hbp : (0 : Int) ≤ 1048576 - (n + m) := by omega
  generalize hbk : (1048576 - ((n : Int) + m)) = bk at *
  have HS := Lib.hid hspec
  have HI := Lib.hid himpl
  clear hbk hspec himpl
  have p1 := Blk.new w 25 #[.slice A n c, .slice F m d]
  have b1 := below_alloc w (.cells #[.slice A n c, .slice F m d] 25)
  go_enter Tryz.func6, Tryz.ntmps6
  go_wp2_with fail
  refine (szGraph_any 1048576 A n c F m d _ (by omega) (by omega) (by omega) (by omega)).mono ?_
  rintro e w0 ⟨rfl, hb0⟩
  rw [E1.out]
  have q1 := p1.after hb0
  have b0 := below_then b1 hb0
  clear p1 b1 hb0
  obtain ⟨u0, u1⟩ := q1.cells2
  go_wp2_with fail
  refine (toGraph_any A n c F m d cs es _ (ha.keep b0) (by omega) (by omega)).mono ?_
  rintro e w1 ⟨A1, n1, c1, F1, m1, d1, rfl, ho1, hb1⟩
  have k1 : n1 ≤ 1048576 ∧ m1 ≤ 1048576 := by have := ho1.oi.len; have := ho1.oe.len; have := hla.out; have := hle.out; omega
  have q2 := q1.after hb1
  have b1 := below_then b0 hb1
  clear q1 b0 hb1 u0 u1
  go_wp2_with fail
  refine (HS.out A1 n1 c1 F1 m1 d1 _ ho1.reads (by omega) (by omega)).mono ?_
  rintro e w2 ⟨A2, n2, c2, F2, m2, d2, P2, p2, r2, rfl, hoc2, hoe2, hop2, -, hb2⟩
  have bw2 := below_then b1 hb2
  have r2g := RG.mk hoc2.reads hoe2.reads
  have r2q := hop2.reads
  have k2 : n2 ≤ 1048576 ∧ m2 ≤ 1048576 ∧ p2 ≤ 1048576 := by have := hoc2.len; have := hoe2.len; have := hop2.len; omega
  have x4 := Blk.new w2 31 #[.slice A2 n2 c2, .slice F2 m2 d2]
  have b2 := below_alloc w2 (.cells #[.slice A2 n2 c2, .slice F2 m2 d2] 31)
  have q3 := (q2.after hb2).after b2
  clear ho1 q2 b1 hoc2 hoe2 hop2 hb2
  obtain ⟨u0, u1⟩ := q3.cells2
  go_wp2_with fail
  refine (toGraph_any A n c F m d cs es _ (ha.keep (below_then bw2 b2)) (by omega) (by omega)).mono ?_
  rintro e w3 ⟨A3, n3, c3, F3, m3, d3, rfl, ho3, hb3⟩
  have k3 : n3 ≤ 1048576 ∧ m3 ≤ 1048576 := by have := ho3.oi.len; have := ho3.oe.len; have := hla.out; have := hle.out; omega
  have od3 := ho3
  have e3 : (w2.alloc (.cells #[.slice A2 n2 c2, .slice F2 m2 d2] 31)).heap.size = w2.heap.size + 1 := by simp
  rw [e3] at od3
  have b3 := below_then b2 hb3
  have x4' := x4.after hb3
  have z3 := hb3.size
  rw [e3] at z3
  have b6 := below_alloc w3 (.cells #[.slice A3 n3 c3, .slice F3 m3 d3] 31)
  have z6 : (w3.alloc (.cells #[.slice A3 n3 c3, .slice F3 m3 d3] 31)).heap.size = w3.heap.size + 1 := by simp
  have p6 := Blk.new w3 31 #[.slice A3 n3 c3, .slice F3 m3 d3]
  have q4 := (q3.after hb3).after b6
  have od3' := od3.below b6
  have b3' := below_then b3 b6
  have x4 := x4'.after b6
  have hg1 := q3.lt
  rw [e3] at hg1
  have hra := ha.keep (below_then bw2 b3')
  clear ho3 hb3 x4' b2 b3 e3 q3 od3 u0 u1
  obtain ⟨u0, u1⟩ := p6.cells2
  go_wp2_with fail
  refine (HI.out A3 n3 c3 F3 m3 d3 _ od3'.reads (by omega) (by omega)).mono ?_
  rintro e w4 ⟨A4, n4, c4, F4, m4, d4, P4, p4, r4, rfl, hoc4, hoe4, hop4, hap4, hb4⟩
  have k4 : n4 ≤ 1048576 ∧ m4 ≤ 1048576 ∧ p4 ≤ 1048576 := by have := hoc4.len; have := hoe4.len; have := hop4.len; omega
  have od4 := OGP.of hoc4 hoe4 hop4 hap4
  rw [z6] at od4
  have b4 := below_then b3' hb4
  have b7 := below_alloc w4 (.cells #[.slice A4 n4 c4, .slice F4 m4 d4] 31)
  have z4 := hb4.size
  rw [z6] at z4
  have L0 : LCan w w2 (w4.alloc (.cells #[.slice A4 n4 c4, .slice F4 m4 d4] 31)) gc ge q gc ge q w2.heap.size w4.heap.size (w3.heap.size + 1) w4.heap.size A2 n2 c2 F2 m2 d2 P2 p2 A4 n4 c4 F4 m4 d4 P4 p4 r4 :=
    ⟨bw2, below_then b4 b7, r2g, r2q, (x4.after hb4).after b7, Blk.new _ _ _, od4.below b7, by omega⟩
  have o3 := (od3'.below hb4).below b7
  have M0 : GSt w.heap.size w3.heap.size A F A3 F3 n c m d n3 c3 m3 d3 cs es (w4.alloc (.cells #[.slice A4 n4 c4, .slice F4 m4 d4] 31)) := ⟨(q4.after hb4).after b7, (p6.after hb4).after b7, (hra.keep hb4).keep b7, o3.reads⟩
  clear hoc4 hoe4 hop4 hap4 hb4 od4 od3' b4 b3' x4 bw2 r2g r2q q4 p6 b6 b7 z6 u0 u1 hra
  generalize w3.heap.size = s3 at *
  obtain ⟨v1, v2⟩ := L0.cells
  go_wp2_with fail
  refine (eqGraph_same A4 F4 n4 c4 m4 d4 A2 F2 n2 c2 m2 d2 gc ge _ L0.o4.g.reads L0.rd (by omega) (by omega) (by omega)).mono ?_
  rintro e w5 ⟨rfl, hb5⟩
  have L1 := L0.step hb5
  have M1 := M0.step hb5
  have o5 := o3.below hb5
  clear L0 M0 o3 hb5 v1 v2
  go_wp2_with fail
  refine (eqInt64S_any P4 P2 p4 p2 _ _ q q _ L1.o4.p.reads L1.rq (by omega) (by omega)).mono ?_
  rintro e w5' ⟨rfl, hd5⟩
  rw [dec_self q]
  have L1 := L1.step hd5.below
  have M1 := M1.step hd5.below
  have o5 := o5.below hd5.below
  have bb5 := L1.below
  clear hd5
  go_wp2_with fail
  go_region_held3 (fun w' => (GSt w.heap.size s3 A F A3 F3 n c m d n3 c3 m3 d3 cs es w' ∧ Below w.heap.size w w') ∧ w'.cell? ⟨w.heap.size, 0, none⟩ = some (.slice A n c) ∧ w'.cell? ⟨w.heap.size, 1, none⟩ = some (.slice F m d) ∧ w'.cell? ⟨s3, 0, none⟩ = some (.slice A3 n3 c3) ∧ w'.cell? ⟨s3, 1, none⟩ = some (.slice F3 m3 d3))
    (first | exact (M1.step (below_drewn _ 1)).full (bb5.trans ((below_drewn _ 1).mono bb5.size)) | exact (GSt.step (And.left (And.left (by assumption))) (by assumption)).full (below_then (And.right (And.left (by assumption))) (by assumption)))
    (first
      | (go_at_call 12; (with_reducible refine (toGraph_any A n c F m d cs es _ ?_ (by omega) (by omega)).mono ?_); (exact ha.keep (And.right (And.left (by assumption)))); rintro e w6 ⟨A6, n6, c6, F6, m6, d6, rfl, ho6, hb6⟩)
      | (go_at_call 14; (with_reducible refine (eqGraph_same A3 F3 n3 c3 m3 d3 A6 F6 n6 c6 m6 d6 cs es _ ?_ ?_ ?_ ?_ ?_).mono ?_); (exact GSt.r3 (And.left (And.left (by assumption)))); (exact ho6.reads); (omega); (omega); (have := ho6.oi.len; have := hla.out; omega); rintro e w7 ⟨rfl, hb7⟩))
  have hh7 : (GSt w.heap.size s3 A F A3 F3 n c m d n3 c3 m3 d3 cs es w7 ∧ Below w.heap.size w w7) := And.left (by assumption)
  have hb67 : Below w5'.heap.size w5' w7 := ((below_drewn w5' 1).trans (hb6.mono (Nat.le_refl _))).trans (hb7.mono ((below_drewn w5' 1).trans (hb6.mono (Nat.le_refl _))).size)
  have L3 := L1.step hb67
  have M3 := hh7.1
  have o7 := o5.below hb67
  clear L1 M1 o5 hb6 hb7 hb67 hh7 ho6 bb5
  obtain ⟨u0, u1⟩ := M3.p6.cells2
  go_wp2_with fail
  refine (markGraph_any _ _ A3 F3 n3 c3 m3 d3 1 cs es _ o7 (by omega)).mono ?_
  rintro e w8 ⟨rfl, _, hm8⟩
  have L4 := L3.mid hm8 (by omega) (by omega) (by omega) (by omega)
  have M4 := M3.p1.mid hm8 (by omega)
  clear L3 o7 hm8 M3 u0 u1
  obtain ⟨v1, v2⟩ := L4.cells
  go_wp2_with fail
  refine (eqGraph_same A4 F4 n4 c4 m4 d4 A2 F2 n2 c2 m2 d2 gc ge _ L4.o4.g.reads L4.rd (by omega) (by omega) (by omega)).mono ?_
  rintro e w9 ⟨rfl, hb9⟩
  have L5 := L4.step hb9
  have M5 := M4.after hb9
  clear L4 hb9 v1 v2 M4
  go_wp2_with fail
  refine (eqInt64S_any P4 P2 p4 p2 _ _ q q _ L5.o4.p.reads L5.rq (by omega) (by omega)).mono ?_
  rintro e w9' ⟨rfl, hd9⟩
  rw [dec_self q]
  have L5 := L5.step hd9.below
  have M5 := M5.after hd9.below
  clear hd9
  obtain ⟨v1, v2⟩ := L5.cells
  go_wp2_with fail
  refine (markGraph_with _ _ A4 F4 n4 c4 m4 d4 1 P4 p4 r4 gc ge q _ L5.o4 (by omega)).mono ?_
  rintro e w10 ⟨rfl, ho10, hm10⟩
  have L6 := L5.marked hm10 ho10 (by omega) (by omega)
  have M6 := M5.mid hm10 (by omega)
  clear L5 ho10 hm10 v1 v2 M5
  generalize hk1 : 1 + n4 + 2 * m4 = kk at *
  have hkk : kk ≤ 4194304 := by omega
  have HK1 := Lib.hid hk1
  clear hk1
  go_wp2_with fail
  refine (markList_with _ _ A4 F4 n4 c4 m4 d4 kk P4 p4 r4 _ _ q _ L6.o4 (by omega)).mono ?_
  rintro e w10' ⟨rfl, ho11, hm11⟩
  have L6 := L6.marked hm11 ho11 (by omega) (by omega)
  have M6 := M6.mid hm11 (by omega)
  clear ho11 hm11
  obtain ⟨v1, v2⟩ := L6.cells
  go_wp2_with fail
  refine (heldGraph_any A4 F4 n4 c4 m4 d4 1 _ L6.o4.g.reads (by have := HK1.out; omega)).mono ?_
  rintro e w11 ⟨rfl, hb11⟩
  rw [HK1.out]
  have L7 := L6.step hb11
  have M7 := M6.after hb11
  clear L6 hb11 v1 v2 M6
  go_wp2_with fail
  refine (heldInt64S_any P4 p4 r4 kk _ L7.o4.p.reads (by omega)).mono ?_
  rintro e w11' ⟨rfl, rfl⟩
  obtain ⟨u0, u1⟩ := M7.cells2
  go_wp2_with fail
  refine (toGraph_any A n c F m d cs es _ (ha.keep L7.below) (by omega) (by omega)).mono ?_
  rintro e w12 ⟨A12, n12, c12, F12, m12, d12, rfl, ho12, hb12⟩
  have k12 : n12 ≤ 1048576 ∧ m12 ≤ 1048576 := by have := ho12.oi.len; have := ho12.oe.len; have := hla.out; have := hle.out; omega
  have L8 := L7.step hb12
  clear L7 hb12 M7 u0 u1
  go_wp2_with fail
  refine (HI.out A12 n12 c12 F12 m12 d12 _ ho12.reads (by omega) (by omega)).mono ?_
  rintro e w13 ⟨A13, n13, c13, F13, m13, d13, P13, p13, r13, rfl, hoc13, hoe13, hop13, -, hb13⟩
  have k13 : n13 ≤ 1048576 ∧ m13 ≤ 1048576 ∧ p13 ≤ 1048576 := by have := hoc13.len; have := hoe13.len; have := hop13.len; omega
  have b13 := below_alloc w13 (.cells #[.slice A13 n13 c13, .slice F13 m13 d13] 31)
  have L9 := (L8.step hb13).step b13
  have X13 := (Blk.new w13 31 #[.slice A13 n13 c13, .slice F13 m13 d13]).cells2
  have r13g := (RG.mk hoc13.reads hoe13.reads).keep b13
  have r13q := hop13.reads.keep b13
  clear L8 hb13 hoc13 hoe13 hop13 ho12 b13
  obtain ⟨v1, v2⟩ := L9.cells
  go_wp2_with fail
  refine (eqGraph_same A13 F13 n13 c13 m13 d13 A2 F2 n2 c2 m2 d2 gc ge _ r13g L9.rd (by omega) (by omega) (by omega)).mono ?_
  rintro e w14 ⟨rfl, hb14⟩
  have L10 := L9.step hb14
  have r13q := r13q.keep hb14
  clear L9 hb14 v1 v2 X13 r13g
  go_wp2_with fail
  refine (eqInt64S_any P13 P2 p13 p2 _ _ q q _ r13q L10.rq (by omega) (by omega)).mono ?_
  rintro e w14' ⟨rfl, hd14⟩
  rw [dec_self q]
  have L10 := L10.step hd14.below
  clear hd14 r13q
  obtain ⟨v1, v2⟩ := L10.cells
  go_wp2_with fail
  refine (heldGraph_any A4 F4 n4 c4 m4 d4 1 _ L10.o4.g.reads (by have := HK1.out; omega)).mono ?_
  rintro e w15 ⟨rfl, hb15⟩
  rw [HK1.out]
  have L11 := L10.step hb15
  clear L10 hb15 v1 v2
  go_wp2_with fail
  refine (heldInt64S_any P4 p4 r4 kk _ L11.o4.p.reads (by omega)).mono ?_
  rintro e w16 ⟨rfl, rfl⟩
  go_wp2
  go_ret
  exact ⟨rfl, L11.below⟩
set_option maxHeartbeats 1000000 in
theorem law_CanonicalGraph_big (A : Option Addr) (n c : Nat) (F : Option Addr) (m d : Nat) (cs : List Int) (es : List Ed) (b : Int) (w : World) (ha : RG w A n F m cs es) (hn : n ≤ 9223372036854775807) (hm : m ≤ 9223372036854775807) (hs : ¬ (n : Int) + m ≤ 1048576) :
    Calls Tryz.prog 6 #[.agg #[.slice A n c, .slice F m d], .int .i64 b] w fun e w' => e = .returned (.bool true) ∧ Below w.heap.size w w' := by
  have E1 := Lib.hid (show szF 1048576 ((n : Int) + m) = -1 by simp [szF, hs])
  clear hs
  have b1 := below_alloc w (.cells #[.slice A n c, .slice F m d] 25)
  go_enter Tryz.func6, Tryz.ntmps6
  go_wp2_with fail
  refine (szGraph_any 1048576 A n c F m d _ (by omega) (by omega) (by omega) (by omega)).mono ?_
  rintro e w0 ⟨rfl, hb0⟩
  rw [E1.out]
  go_wp2
  go_ret
  exact ⟨rfl, below_then b1 hb0⟩
theorem law_CanonicalGraph (A : Option Addr) (n c : Nat) (F : Option Addr) (m d : Nat) (cs : List Int) (es : List Ed) (b : Int) (w : World) (ha : RG w A n F m cs es) (hn : n ≤ 9223372036854775807) (hm : m ≤ 9223372036854775807) (_ : I64 b) :
    Calls Tryz.prog 6 #[.agg #[.slice A n c, .slice F m d], .int .i64 b] w fun e w' => e = .returned (.bool true) ∧ Below w.heap.size w w' := by
  by_cases hs : (n : Int) + m ≤ 1048576
  · exact law_CanonicalGraph_ok A n c F m d cs es b w ha hs (canC cs es b) (canE cs es b) (canQ cs es b) (codeP cs es b) (can_len cs es b)
      (fun A n c F m d w h1 h2 h3 => spec_CanonicalGraph A n c F m d cs es b w h1 (by omega) (by omega))
      (fun A n c F m d w h1 h2 h3 => impl_CanonicalGraph A n c F m d cs es b w h1 (by omega) (by omega))
  · exact law_CanonicalGraph_big A n c F m d cs es b w ha hn hm hs
end Go.Proofs.YtjgihhnplckjoaaGreat
