/- The graph of a design, the reference's. No condition beyond those stated. -/
import Derived.Test.YtdkbcjdimhgmnaaGreatRHL
import Derived.Test.YtdkbcjdimhgmnaaGreatRHI
set_option linter.unusedVariables false
set_option linter.unusedSimpArgs false
namespace Go.Proofs.YtdkbcjdimhgmnaaGreat
open Go.RowKit
theorem ds_graphOk {v : Nat} {bs : List (List Int)} (h1 : v + bs.length ≤ 64) (h2 : (dsE v bs v).length ≤ 512) : GraphOk (dsC v bs.length) (dsE v bs v) := by
  refine ⟨by rw [dsC_len]; exact h1, h2, fun k hk => ?_, fun i hi => ?_, fun i hi => ?_⟩
  · rw [nth_get hk]
    have := List.getElem_mem hk
    generalize (dsC v bs.length)[k] = x at this
    unfold dsC at this
    rcases List.mem_append.1 this with h | h
    · rw [List.eq_of_mem_replicate h]; omega
    · rw [List.eq_of_mem_replicate h]; omega
  · rw [nthE_get hi]
    obtain ⟨x, j, hx, hj, -, he⟩ := (dsE_mem _).1 (List.getElem_mem hi)
    rw [he, dsC_len]
    simp only []
    omega
  · have := List.pairwise_iff_getElem.1 (dsE_strict (v := v) (bs := bs)) i (i + 1) (by omega) hi (by omega)
    rw [nthE_get (by omega), nthE_get hi]
    exact (cmpE_neg _ _).1 this
theorem dgK_cases (v : Nat) (bs : List (List Int)) : (dgK v bs = 0 ∧ GraphOk (dgC v bs) (dgE v bs)) ∨ dgK v bs = 5 := by
  by_cases h : 64 < v + bs.length ∨ 512 < (dsE v bs v).length
  · exact .inr (dg_yes h).2.2
  · obtain ⟨e1, e2, e3⟩ := dg_no (v := v) (bs := bs) (by omega) (by omega)
    rw [e1, e2]
    exact .inl ⟨e3, ds_graphOk (by omega) (by omega)⟩
noncomputable def fK (v : Nat) (bs : List (List Int)) (b : Int) : Int := if dgK v bs ≠ 0 then dgK v bs else codeP (dgC v bs) (dgE v bs) b
theorem fK_full {v : Nat} {bs : List (List Int)} (h : dgK v bs = 5) (b : Int) : fK v bs b = 5 := by simp [fK, h]
theorem fK_ok {v : Nat} {bs : List (List Int)} (h : dgK v bs = 0) (b : Int) : fK v bs b = codeP (dgC v bs) (dgE v bs) b := by simp [fK, h]
theorem codeP_two {cs : List Int} {es : List Ed} {b : Int} (h : GraphOk cs es) (hb : inB b 1 20000 = true) : codeP cs es b = 0 ∨ codeP cs es b = 5 := by
  unfold codeP
  rw [tB_yes h, hb]
  cases (runP cs es b.toNat).spent <;> simp
noncomputable def dsgK (v : Int) (bs : List (List Int)) (u : Int) (ds : List (List Int)) (b : Int) : Int := if tB (Design v bs) && tB (Design u ds) then samC (inB b 1 20000) (dgK v.toNat bs) (dgK u.toNat ds) (code2P (dgC v.toNat bs) (dgE v.toNat bs) (dgC u.toNat ds) (dgE u.toNat ds) b) else 1
noncomputable def dsgR (v : Int) (bs : List (List Int)) (u : Int) (ds : List (List Int)) (b : Int) : Bool := if tB (Design v bs) && tB (Design u ds) then samB (inB b 1 20000) (dgK v.toNat bs) (dgK u.toNat ds) (isoP (dgC v.toNat bs) (dgE v.toNat bs) (dgC u.toNat ds) (dgE u.toNat ds) b) else false
set_option maxRecDepth 100000 in
set_option maxHeartbeats 1000000 in
theorem designGraph_any (v : Nat) (A : Option Addr) (n c : Nat) (bs : List (List Int)) (w : World) (ha : RR w A n bs) (hD : Design (v : Int) bs) :
    Calls Tryz.prog 25 #[.agg #[.int .i64 v, .slice A n c]] w (fun e w' => ∃ A' n' c' F' m' d', e = .returned (.tuple #[.agg #[.slice A' n' c', .slice F' m' d'], .int .i64 (dgK v bs)]) ∧ RG w' A' n' F' m' (dgC v bs) (dgE v bs) ∧ n' ≤ 64 ∧ m' ≤ 512 ∧ Below w.heap.size w w') := by
  have hn : n ≤ 128 := by rw [← ha.len]; exact hD.len
  have hb1 := below_then (below_alloc w (.cells #[.int .i64 v, .slice A n c] 56)) (below_alloc _ (.cells #[.slice none 0 0, .slice none 0 0] 46))
  have X := (Blk.new w 56 #[.int .i64 v, .slice A n c]).alloc (.cells #[.slice none 0 0, .slice none 0 0] 46)
  have Y : Blk ((w.alloc (.cells #[.int .i64 v, .slice A n c] 56)).alloc (.cells #[.slice none 0 0, .slice none 0 0] 46)) (w.heap.size + 1) 46 #[.slice none 0 0, .slice none 0 0] := by
    have := Blk.new (w.alloc (.cells #[.int .i64 v, .slice A n c] 56)) 46 #[.slice none 0 0, .slice none 0 0]
    simpa using this
  have hv := validDesign_any v A n c bs _ (ha.keep hb1) (by omega)
  rw [tB_yes hD] at hv
  have HS := Lib.hid (fun (w' : World) (h : Below w.heap.size w w') => setGraph_any v A n c bs w' (ha.keep h) hD.sets)
  clear hD
  generalize hW1 : (w.alloc (.cells #[.int .i64 v, .slice A n c] 56)).alloc (.cells #[.slice none 0 0, .slice none 0 0] 46) = W1 at *
  obtain ⟨x0, x1⟩ := X.cells2
  go_enter Tryz.func25, Tryz.ntmps25
  go_wp2_with fail
  clear x0 x1
  refine hv.mono ?_
  rintro e w2 ⟨rfl, hb2⟩
  have X2 := X.after hb2
  have Y2 := Y.after hb2
  obtain ⟨x0, x1⟩ := X2.cells2
  have hw2 := hb1.trans (hb2.mono hb1.size)
  clear hv hb1 hb2 X Y
  go_wp2_with fail
  refine (HS.out w2 hw2).mono ?_
  rintro e w3 ⟨A', n', c', F', m', d', rfl, o1, o2, q1, q2, hb3⟩
  have Y3 := Y2.after hb3
  obtain ⟨y0, y1⟩ := Y3.cells2
  have f0 := Y3.frozen 0
  have f1 := Y3.frozen 1
  have YF := (Y3.set_ 0 (.slice A' n' c')).set_ 1 (.slice F' m' d')
  obtain ⟨z0, z1⟩ : (((w3.setCell ⟨w.heap.size + 1, 0, none⟩ (.slice A' n' c')).setCell ⟨w.heap.size + 1, 1, none⟩ (.slice F' m' d')).cell? ⟨w.heap.size + 1, 0, none⟩ = some (.slice A' n' c')) ∧ (((w3.setCell ⟨w.heap.size + 1, 0, none⟩ (.slice A' n' c')).setCell ⟨w.heap.size + 1, 1, none⟩ (.slice F' m' d')).cell? ⟨w.heap.size + 1, 1, none⟩ = some (.slice F' m' d')) := ⟨YF.cell 0, YF.cell 1⟩
  generalize hqq : dgK v bs = qq at *
  have e1 : some (w.heap.size + 1) ≠ blk A' := OS.typed' o1.os Y3 (by decide)
  have e2 : some (w.heap.size + 1) ≠ blk F' := OS.typed' o2.os Y3 (by decide)
  clear x0 x1 X2 Y2
  go_wp2
  have hw3 := hw2.trans (hb3.mono hw2.size)
  have o1 := (o1.kept (grown_set (g := w.heap.size + 1) (p := 0) (u := .slice A' n' c')) (.inr fun e => e1 e.symm)).kept (grown_set (g := w.heap.size + 1) (p := 1) (u := .slice F' m' d')) (.inr fun e => e1 e.symm)
  have o2 := (o2.kept (grown_set (g := w.heap.size + 1) (p := 0) (u := .slice A' n' c')) (.inr fun e => e2 e.symm)).kept (grown_set (g := w.heap.size + 1) (p := 1) (u := .slice F' m' d')) (.inr fun e => e2 e.symm)
  subst hqq
  refine bodyPost_ret (v := .tuple #[.agg #[.slice A' n' c', .slice F' m' d'], .int .i64 (dgK v bs)]) (by simp [results, Tryz.results25, go_sem, z0, z1]) rfl ?_
  exact ⟨A', n', c', F', m', d', rfl, ⟨o1.reads, o2.reads⟩, q1, q2, (hw3.setCell (p := ⟨w.heap.size + 1, 0, none⟩) (by simp) _).setCell (p := ⟨w.heap.size + 1, 1, none⟩) (by simp) _⟩
set_option maxRecDepth 100000 in
set_option maxHeartbeats 2000000 in
theorem impl_IsomorphicDesigns (v : Int) (A : Option Addr) (n c : Nat) (bs : List (List Int)) (u : Int) (B : Option Addr) (m d : Nat) (ds : List (List Int)) (b : Int) (w : World) (ha : RR w A n bs) (hb : RR w B m ds) (hn : n ≤ 1048576) (hm : m ≤ 1048576) :
    Calls Tryz.prog 31 #[.agg #[.int .i64 v, .slice A n c], .agg #[.int .i64 u, .slice B m d], .int .i64 b] w (fun e w' => e = .returned (.tuple #[.bool (dsgR v bs u ds b), .int .i64 (dsgK v bs u ds b)]) ∧ Below w.heap.size w w') := by
  have hb1 := below_then (below_alloc w (.cells #[.int .i64 v, .slice A n c] 56)) (below_alloc _ (.cells #[.int .i64 u, .slice B m d] 56))
  have X := (Blk.new w 56 #[.int .i64 v, .slice A n c]).alloc (.cells #[.int .i64 u, .slice B m d] 56)
  have Y : Blk ((w.alloc (.cells #[.int .i64 v, .slice A n c] 56)).alloc (.cells #[.int .i64 u, .slice B m d] 56)) (w.heap.size + 1) 56 #[.int .i64 u, .slice B m d] := by
    have := Blk.new (w.alloc (.cells #[.int .i64 v, .slice A n c] 56)) 56 #[.int .i64 u, .slice B m d]
    simpa using this
  have hv1 := validDesign_any v A n c bs _ (ha.keep hb1) (by omega)
  have HV2 := Lib.hid (fun (w' : World) (h : Below w.heap.size w w') => validDesign_any u B m d ds w' (hb.keep h) (by omega))
  generalize hW1 : (w.alloc (.cells #[.int .i64 v, .slice A n c] 56)).alloc (.cells #[.int .i64 u, .slice B m d] 56) = W1 at *
  obtain ⟨x0, x1⟩ := X.cells2
  by_cases h1 : Design v bs
  · rw [tB_yes h1] at hv1
    by_cases h2 : Design u ds
    · have HY := Lib.hid (tB_yes h2)
      obtain ⟨V, rfl⟩ : ∃ V : Nat, v = (V : Int) := ⟨v.toNat, by have := h1.v1; omega⟩
      obtain ⟨U, rfl⟩ : ∃ U : Nat, u = (U : Int) := ⟨u.toNat, by have := h2.v1; omega⟩
      have HK := Lib.hid (show dsgK (V : Int) bs (U : Int) ds b = samC (inB b 1 20000) (dgK V bs) (dgK U ds) (code2P (dgC V bs) (dgE V bs) (dgC U ds) (dgE U ds) b) by rw [dsgK, tB_yes h1, tB_yes h2]; rfl)
      have HR := Lib.hid (show dsgR (V : Int) bs (U : Int) ds b = samB (inB b 1 20000) (dgK V bs) (dgK U ds) (isoP (dgC V bs) (dgE V bs) (dgC U ds) (dgE U ds) b) by rw [dsgR, tB_yes h1, tB_yes h2]; rfl)
      have HG1 := Lib.hid (fun (w' : World) (h : Below w.heap.size w w') => designGraph_any V A n c bs w' (ha.keep h) h1)
      have HG2 := Lib.hid (fun (w' : World) (h : Below w.heap.size w w') => designGraph_any U B m d ds w' (hb.keep h) h2)
      clear h1 h2
      go_enter Tryz.func31, Tryz.ntmps31
      go_wp2_with fail
      clear x0 x1
      refine hv1.mono ?_
      rintro e w1 ⟨rfl, hb2⟩
      have hw1 := hb1.trans (hb2.mono hb1.size)
      have X1 := X.after hb2
      have Y1 := Y.after hb2
      obtain ⟨y0, y1⟩ := Y1.cells2
      clear hv1 hb1 hb2 X Y
      go_wp2_with fail
      clear y0 y1
      refine (HV2.out w1 hw1).mono ?_
      rintro e w2 ⟨rfl, hb2⟩
      rw [HY.out]
      have hw2 := hw1.trans (hb2.mono hw1.size)
      have X2 := X1.after hb2
      have Y2 := Y1.after hb2
      obtain ⟨x0, x1⟩ := X2.cells2
      clear hw1 hb2 X1 Y1
      go_wp2_with fail
      clear x0 x1
      refine (HG1.out w2 hw2).mono ?_
      rintro e w3 ⟨A1, n1, c1, F1, m1, d1, rfl, hG1, q1, q2, hb3⟩
      have hw3 := hw2.trans (hb3.mono hw2.size)
      have Y3 := Y2.after hb3
      have hal := below_alloc w3 (.cells #[.slice A1 n1 c1, .slice F1 m1 d1] 46)
      have hX := Blk.new w3 46 #[.slice A1 n1 c1, .slice F1 m1 d1]
      obtain ⟨y0, y1⟩ := (Y3.after hal).cells2
      clear hw2 hb3 X2 Y2
      go_wp2_with fail
      clear y0 y1
      refine (HG2.out _ (hw3.trans (hal.mono hw3.size))).mono ?_
      rintro e w4 ⟨A2, n2, c2, F2, m2, d2, rfl, hG2, q3, q4, hb4⟩
      have hX4 := hX.after hb4
      have hb34 := hal.trans (hb4.mono (by simp))
      have hG1' := hG1.keep hb34
      have hw4 := hw3.trans (hb34.mono hw3.size)
      have hal4 := below_alloc w4 (.cells #[.slice A2 n2 c2, .slice F2 m2 d2] 46)
      have hY := Blk.new w4 46 #[.slice A2 n2 c2, .slice F2 m2 d2]
      have hX5 := hX4.after hal4
      obtain ⟨x0, x1⟩ := hX5.cells2
      obtain ⟨y0, y1⟩ := hY.cells2
      have hsf := sameForms_any (w4.alloc (.cells #[.slice A2 n2 c2, .slice F2 m2 d2] 46)) A1 n1 c1 F1 m1 d1 (dgC V bs) (dgE V bs) A2 n2 c2 F2 m2 d2 (dgC U ds) (dgE U ds) (dgK V bs) (dgK U ds) b (hG1'.keep hal4) (hG2.keep hal4) (by omega) (by omega) (by omega) (by omega)
      rw [← HK.out, ← HR.out] at hsf
      have hw5 := hw4.trans (hal4.mono hw4.size)
      clear hX hX4 hX5 hY hG1 hG1' hG2 hal hal4 hb34 hb4 hw3 hw4
      go_wp2_with fail
      refine hsf.mono ?_
      rintro e w6 ⟨rfl, hb6⟩
      go_wp2
      go_ret2
      exact ⟨rfl, hw5.trans (hb6.mono hw5.size)⟩
    · have HY := Lib.hid (tB_no h2)
      have HK := Lib.hid (show dsgK v bs u ds b = 1 by rw [dsgK, tB_no h2]; simp)
      have HR := Lib.hid (show dsgR v bs u ds b = false by rw [dsgR, tB_no h2]; simp)
      clear h1 h2
      go_enter Tryz.func31, Tryz.ntmps31
      go_wp2_with fail
      clear x0 x1
      refine hv1.mono ?_
      rintro e w1 ⟨rfl, hb2⟩
      have hw1 := hb1.trans (hb2.mono hb1.size)
      have Y1 := Y.after hb2
      obtain ⟨y0, y1⟩ := Y1.cells2
      clear hv1
      go_wp2_with fail
      clear y0 y1
      refine (HV2.out w1 hw1).mono ?_
      rintro e w2 ⟨rfl, hb2⟩
      rw [HY.out]
      go_wp2
      go_ret2
      exact ⟨by rw [HK.out, HR.out]; rfl, hw1.trans (hb2.mono hw1.size)⟩
  · rw [tB_no h1] at hv1
    have HK := Lib.hid (show dsgK v bs u ds b = 1 by rw [dsgK, tB_no h1]; simp)
    have HR := Lib.hid (show dsgR v bs u ds b = false by rw [dsgR, tB_no h1]; simp)
    clear h1
    go_enter Tryz.func31, Tryz.ntmps31
    go_wp2_with fail
    clear x0 x1
    refine hv1.mono ?_
    rintro e w1 ⟨rfl, hb2⟩
    go_wp2
    go_ret2
    exact ⟨by rw [HK.out, HR.out]; rfl, hb1.trans (hb2.mono hb1.size)⟩
end Go.Proofs.YtdkbcjdimhgmnaaGreat
