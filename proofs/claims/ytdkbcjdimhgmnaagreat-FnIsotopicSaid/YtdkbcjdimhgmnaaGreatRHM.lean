/- The graph of a design, the reference's. No condition beyond those stated. -/
import Derived.Test.YtdkbcjdimhgmnaaGreatRHL
import Derived.Test.YtdkbcjdimhgmnaaGreatRHI
set_option linter.unusedVariables false
set_option linter.unusedSimpArgs false
namespace Go.Proofs.YtdkbcjdimhgmnaaGreat
open Go.RowKit
theorem ds_graphOk {v : Nat} {bs : List (List Int)} (h1 : v + bs.length ≤ 64) (h2 : (dsE v bs v).length ≤ 512) : GraphOk (dsC v bs.length) (dsE v bs v) := by
  refine ⟨by rw [dsC_len]; exact h1, h2, fun k hk => ?_, fun i hi => ?_, fun i hi => ?_⟩
  · rw [nth_get hk]
    have := List.getElem_mem hk
    generalize (dsC v bs.length)[k] = x at this
    unfold dsC at this
    rcases List.mem_append.1 this with h | h
    · rw [List.eq_of_mem_replicate h]; omega
    · rw [List.eq_of_mem_replicate h]; omega
  · rw [nthE_get hi]
    obtain ⟨x, j, hx, hj, -, he⟩ := (dsE_mem _).1 (List.getElem_mem hi)
    rw [he, dsC_len]
    simp only []
    omega
  · have := List.pairwise_iff_getElem.1 (dsE_strict (v := v) (bs := bs)) i (i + 1) (by omega) hi (by omega)
    rw [nthE_get (by omega), nthE_get hi]
    exact (cmpE_neg _ _).1 this
set_option maxRecDepth 100000 in
set_option maxHeartbeats 1000000 in
theorem designGraph_any (v : Nat) (A : Option Addr) (n c : Nat) (bs : List (List Int)) (w : World) (ha : RR w A n bs) (hD : Design (v : Int) bs) :
    Calls Tryz.prog 25 #[.agg #[.int .i64 v, .slice A n c]] w (fun e w' => ∃ A' n' c' F' m' d', e = .returned (.tuple #[.agg #[.slice A' n' c', .slice F' m' d'], .int .i64 (dgK v bs)]) ∧ RG w' A' n' F' m' (dgC v bs) (dgE v bs) ∧ n' ≤ 64 ∧ m' ≤ 512 ∧ Below w.heap.size w w') := by
  have hn : n ≤ 128 := by rw [← ha.len]; exact hD.len
  have hb1 := below_then (below_alloc w (.cells #[.int .i64 v, .slice A n c] 56)) (below_alloc _ (.cells #[.slice none 0 0, .slice none 0 0] 46))
  have X := (Blk.new w 56 #[.int .i64 v, .slice A n c]).alloc (.cells #[.slice none 0 0, .slice none 0 0] 46)
  have Y : Blk ((w.alloc (.cells #[.int .i64 v, .slice A n c] 56)).alloc (.cells #[.slice none 0 0, .slice none 0 0] 46)) (w.heap.size + 1) 46 #[.slice none 0 0, .slice none 0 0] := by
    have := Blk.new (w.alloc (.cells #[.int .i64 v, .slice A n c] 56)) 46 #[.slice none 0 0, .slice none 0 0]
    simpa using this
  have hv := validDesign_any v A n c bs _ (ha.keep hb1) (by omega)
  rw [tB_yes hD] at hv
  have HS := Lib.hid (fun (w' : World) (h : Below w.heap.size w w') => setGraph_any v A n c bs w' (ha.keep h) hD.sets)
  clear hD
  generalize hW1 : (w.alloc (.cells #[.int .i64 v, .slice A n c] 56)).alloc (.cells #[.slice none 0 0, .slice none 0 0] 46) = W1 at *
  obtain ⟨x0, x1⟩ := X.cells2
  go_enter Tryz.func25, Tryz.ntmps25
  go_wp2_with fail
  clear x0 x1
  refine hv.mono ?_
  rintro e w2 ⟨rfl, hb2⟩
  have X2 := X.after hb2
  have Y2 := Y.after hb2
  obtain ⟨x0, x1⟩ := X2.cells2
  have hw2 := hb1.trans (hb2.mono hb1.size)
  clear hv hb1 hb2 X Y
  go_wp2_with fail
  refine (HS.out w2 hw2).mono ?_
  rintro e w3 ⟨A', n', c', F', m', d', rfl, o1, o2, q1, q2, hb3⟩
  have Y3 := Y2.after hb3
  obtain ⟨y0, y1⟩ := Y3.cells2
  have f0 := Y3.frozen 0
  have f1 := Y3.frozen 1
  have YF := (Y3.set_ 0 (.slice A' n' c')).set_ 1 (.slice F' m' d')
  obtain ⟨z0, z1⟩ : (((w3.setCell ⟨w.heap.size + 1, 0, none⟩ (.slice A' n' c')).setCell ⟨w.heap.size + 1, 1, none⟩ (.slice F' m' d')).cell? ⟨w.heap.size + 1, 0, none⟩ = some (.slice A' n' c')) ∧ (((w3.setCell ⟨w.heap.size + 1, 0, none⟩ (.slice A' n' c')).setCell ⟨w.heap.size + 1, 1, none⟩ (.slice F' m' d')).cell? ⟨w.heap.size + 1, 1, none⟩ = some (.slice F' m' d')) := ⟨YF.cell 0, YF.cell 1⟩
  generalize hqq : dgK v bs = qq at *
  have e1 : some (w.heap.size + 1) ≠ blk A' := OS.typed' o1.os Y3 (by decide)
  have e2 : some (w.heap.size + 1) ≠ blk F' := OS.typed' o2.os Y3 (by decide)
  clear x0 x1 X2 Y2
  go_wp2
  have hw3 := hw2.trans (hb3.mono hw2.size)
  have o1 := (o1.kept (grown_set (g := w.heap.size + 1) (p := 0) (u := .slice A' n' c')) (.inr fun e => e1 e.symm)).kept (grown_set (g := w.heap.size + 1) (p := 1) (u := .slice F' m' d')) (.inr fun e => e1 e.symm)
  have o2 := (o2.kept (grown_set (g := w.heap.size + 1) (p := 0) (u := .slice A' n' c')) (.inr fun e => e2 e.symm)).kept (grown_set (g := w.heap.size + 1) (p := 1) (u := .slice F' m' d')) (.inr fun e => e2 e.symm)
  subst hqq
  refine bodyPost_ret (v := .tuple #[.agg #[.slice A' n' c', .slice F' m' d'], .int .i64 (dgK v bs)]) (by simp [results, Tryz.results25, go_sem, z0, z1]) rfl ?_
  exact ⟨A', n', c', F', m', d', rfl, ⟨o1.reads, o2.reads⟩, q1, q2, (hw3.setCell (p := ⟨w.heap.size + 1, 0, none⟩) (by simp) _).setCell (p := ⟨w.heap.size + 1, 1, none⟩) (by simp) _⟩
end Go.Proofs.YtdkbcjdimhgmnaaGreat
