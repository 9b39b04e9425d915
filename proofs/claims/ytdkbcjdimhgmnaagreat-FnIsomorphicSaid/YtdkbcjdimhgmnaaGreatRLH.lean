/- spec.V8Image, spec.RelabelDesign, spec.ValidGroup. No condition beyond those stated. -/
import Derived.Test.YtdkbcjdimhgmnaaGreatRLG
import Derived.Test.YtdkbcjdimhgmnaaGreatRLF
import Derived.Test.YtdkbcjdimhgmnaaGreatRIH
import Derived.Test.YtdkbcjdimhgmnaaGreatRJH
import Derived.Deep.DeepCutAuto
set_option linter.unusedVariables false
set_option linter.unusedSimpArgs false
namespace Go.Proofs.YtdkbcjdimhgmnaaGreat
open Go.RowKit
set_option maxRecDepth 100000 in
set_option maxHeartbeats 2000000 in
theorem v8Image_any (A : Option Addr) (n c : Nat) (bs : List Int) (V : Nat) (D : Option Addr) (m dc : Nat) (zss : List (List Int)) (w : World) (ha : RS EByte w A n bs) (hn : n ≤ 9223372036854775807) (hd : RR w D m zss) (hD : Design (V : Int) zss) :
    Calls Tryz.prog 28 #[.slice A n c, .agg #[.int .i64 V, .slice D m dc]] w (fun e w' => ∃ p A' c' vs, e = .returned (.agg #[.int .i64 V, .slice A' m c']) ∧ PermN V p ∧ OB w' w.heap.size A' m c' vs (imgD p zss) ∧ Below w.heap.size w w') := by
  have hlz := Lib.hid hd.len
  have hm : m ≤ 128 := by rw [← hlz.out]; exact hD.len
  have hV := hD.v2
  have hb0 := below_then (below_alloc w (.cells #[.int .i64 V, .slice D m dc] 56)) (below_alloc _ (.cells #[.int .i64 0, .slice none 0 0] 56))
  have X := (Blk.new w 56 #[.int .i64 V, .slice D m dc]).alloc (.cells #[.int .i64 0, .slice none 0 0] 56)
  have Y : Blk ((w.alloc (.cells #[.int .i64 V, .slice D m dc] 56)).alloc (.cells #[.int .i64 0, .slice none 0 0] 56)) (w.heap.size + 1) 56 #[.int .i64 0, .slice none 0 0] := by
    have := Blk.new (w.alloc (.cells #[.int .i64 V, .slice D m dc] 56)) 56 #[.int .i64 0, .slice none 0 0]
    simpa using this
  have hsz := Lib.hid (show ((w.alloc (.cells #[.int .i64 V, .slice D m dc] 56)).alloc (.cells #[.int .i64 0, .slice none 0 0] 56)).heap.size = w.heap.size + 2 by simp)
  have hfr := l00From_any A n c bs _ (EBytes.keep ha hb0) hn
  generalize hW1 : (w.alloc (.cells #[.int .i64 V, .slice D m dc] 56)).alloc (.cells #[.int .i64 0, .slice none 0 0] 56) = W1 at *
  go_enter Tryz.func28, Tryz.ntmps28
  go_wp2_with fail
  refine hfr.mono ?_
  rintro e w1 ⟨rfl, hs1, hb1⟩
  have S := SrW.start hs1
  have hgl := S.gl
  have X := X.after hb1
  have Y := Y.after hb1
  have hw1 := hb0.trans (hb1.mono hb0.size)
  obtain ⟨x0, x1⟩ := X.cells2
  clear hfr
  go_wp2_with fail
  refine (l04DrawPerm_any W1.heap.size 0 V w1 S.src (by omega) (by omega)).mono ?_
  rintro e w3 ⟨P, pc, p, q3, rfl, hop, hlp, hpp, S3, hq3⟩
  have hne := hsz.out
  have X := X.grown S3.grown (fun e => by injection e with e; omega)
  have Y := Y.grown S3.grown (fun e => by injection e with e; omega)
  have hw3 : Below w.heap.size w w3 := ⟨S3.grown.os.trans hw1.os, S3.grown.tape.trans hw1.tape, S3.grown.output.trans hw1.output, Nat.le_trans hw1.size S3.size, fun j hj => by
    rw [S3.grown.block j (Nat.lt_of_lt_of_le hj hw1.size) (fun e => by injection e with e; omega)]
    exact hw1.block j hj⟩
  have hpN : PermN V p := ⟨hlp, hpp⟩
  have himg := l10Image_any w.heap.size V D m dc zss P V pc p w3 X (hd.keep hw3) hop.reads (fun k hk => (ds_block hD (by rw [hlz.out]; exact hk)).2) (fun k hk => by have := block_len hD (k := k) (by rw [hlz.out]; exact hk); omega) (by omega) (by omega)
  have hlt : w.heap.size + 1 < w3.heap.size := Y.lt
  clear S S3 hs1 hb1 x0 x1 hne hop
  go_wp2_with fail
  refine himg.mono ?_
  rintro e w5 ⟨A5, c5, vs5, rfl, ho5, hb5⟩
  have Y := Y.after hb5
  obtain ⟨y0, y1⟩ := Y.cells2
  have f0 := Y.frozen 0
  have f1 := Y.frozen 1
  have YF := (Y.set_ 0 (.int .i64 V)).set_ 1 (.slice A5 m c5)
  obtain ⟨z0, z1⟩ : ((w5.setCell ⟨w.heap.size + 1, 0, none⟩ (.int .i64 V)).setCell ⟨w.heap.size + 1, 1, none⟩ (.slice A5 m c5)).cell? ⟨w.heap.size + 1, 0, none⟩ = some (.int .i64 V) ∧ ((w5.setCell ⟨w.heap.size + 1, 0, none⟩ (.int .i64 V)).setCell ⟨w.heap.size + 1, 1, none⟩ (.slice A5 m c5)).cell? ⟨w.heap.size + 1, 1, none⟩ = some (.slice A5 m c5) := ⟨YF.cell 0, YF.cell 1⟩
  have hw5 := hw3.trans (hb5.mono hw3.size)
  have hres := ((ho5.setLow (p := ⟨w.heap.size + 1, 0, none⟩) hlt (.int .i64 V)).setLow (p := ⟨w.heap.size + 1, 1, none⟩) hlt (.slice A5 m c5)).more (B' := w.heap.size) hw3.size
  have hend := (hw5.setCell (p := ⟨w.heap.size + 1, 0, none⟩) (by simp) (.int .i64 V)).setCell (p := ⟨w.heap.size + 1, 1, none⟩) (by simp) (.slice A5 m c5)
  clear himg YF ho5 hb5 X Y
  go_wp2
  exact bodyPost_ret (v := .agg #[.int .i64 V, .slice A5 m c5]) (by simp [results, Tryz.results28, go_sem, z0, z1]) rfl ⟨p, A5, c5, vs5, rfl, hpN, hres, hend⟩
set_option maxRecDepth 100000 in
set_option maxHeartbeats 2000000 in
theorem specRelabelDesign_any (V : Nat) (D : Option Addr) (m dc : Nat) (zss : List (List Int)) (P : Option Addr) (pc : Nat) (p : List Int) (w : World) (hd : RR w D m zss) (hD : Design (V : Int) zss) (hp : RI w P V p) (hpc : V ≤ pc) (hpc2 : pc ≤ 9223372036854775807) (hP : PermN V p) :
    Calls Tryz.prog 30 #[.agg #[.int .i64 V, .slice D m dc], .slice P V pc] w (fun e w' => ∃ A' c' vs, e = .returned (.tuple #[.agg #[.int .i64 V, .slice A' m c'], .int .i64 0]) ∧ OB w' w.heap.size A' m c' vs (imgD p zss) ∧ Below w.heap.size w w') := by
  have hlz := Lib.hid hd.len
  have hm : m ≤ 128 := by rw [← hlz.out]; exact hD.len
  have hV := hD.v2
  have hb0 := below_then (below_alloc w (.cells #[.int .i64 V, .slice D m dc] 56)) (below_alloc _ (.cells #[.int .i64 0, .slice none 0 0] 56))
  have X := (Blk.new w 56 #[.int .i64 V, .slice D m dc]).alloc (.cells #[.int .i64 0, .slice none 0 0] 56)
  have Y : Blk ((w.alloc (.cells #[.int .i64 V, .slice D m dc] 56)).alloc (.cells #[.int .i64 0, .slice none 0 0] 56)) (w.heap.size + 1) 56 #[.int .i64 0, .slice none 0 0] := by
    have := Blk.new (w.alloc (.cells #[.int .i64 V, .slice D m dc] 56)) 56 #[.int .i64 0, .slice none 0 0]
    simpa using this
  generalize hW1 : (w.alloc (.cells #[.int .i64 V, .slice D m dc] 56)).alloc (.cells #[.int .i64 0, .slice none 0 0] 56) = W1 at *
  have hok := l10Ok_any w.heap.size V D m dc zss W1 X (hd.keep hb0) (by omega)
  rw [tB_yes hD] at hok
  have hpo : PermOk p := ⟨by rw [hP.1]; omega, hP.2⟩
  go_enter Tryz.func30, Tryz.ntmps30
  go_wp2_with fail
  refine hok.mono ?_
  rintro e w2 ⟨rfl, q2, rfl⟩
  have hd2 := below_drewn W1 q2
  have hw2 := hb0.trans (hd2.mono hb0.size)
  have X := X.after hd2
  have Y := Y.after hd2
  clear hok hd2
  generalize W1.drewN q2 = W2 at *
  have hpk := l04Ok_any P V pc p W2 (hp.keep hw2) hpc hpc2
  rw [tB_yes hpo] at hpk
  go_wp2_with fail
  refine hpk.mono ?_
  rintro e w3 ⟨rfl, q3, rfl⟩
  have hd3 := below_drewn W2 q3
  have hw3 := hw2.trans (hd3.mono hw2.size)
  have X := X.after hd3
  have Y := Y.after hd3
  clear hpk hd3 hw2
  generalize W2.drewN q3 = W3 at *
  obtain ⟨x0, x1⟩ := X.cells2
  have himg := l10Image_any w.heap.size V D m dc zss P V pc p W3 X (hd.keep hw3) (hp.keep hw3) (fun k hk => (ds_block hD (by rw [hlz.out]; exact hk)).2) (fun k hk => by have := block_len hD (k := k) (by rw [hlz.out]; exact hk); omega) (by omega) (by omega)
  have hlt : w.heap.size + 1 < W3.heap.size := Y.lt
  go_wp2_with fail
  refine himg.mono ?_
  rintro e w5 ⟨A5, c5, vs5, rfl, ho5, hb5⟩
  have Y := Y.after hb5
  obtain ⟨y0, y1⟩ := Y.cells2
  have f0 := Y.frozen 0
  have f1 := Y.frozen 1
  have YF := (Y.set_ 0 (.int .i64 V)).set_ 1 (.slice A5 m c5)
  obtain ⟨z0, z1⟩ : ((w5.setCell ⟨w.heap.size + 1, 0, none⟩ (.int .i64 V)).setCell ⟨w.heap.size + 1, 1, none⟩ (.slice A5 m c5)).cell? ⟨w.heap.size + 1, 0, none⟩ = some (.int .i64 V) ∧ ((w5.setCell ⟨w.heap.size + 1, 0, none⟩ (.int .i64 V)).setCell ⟨w.heap.size + 1, 1, none⟩ (.slice A5 m c5)).cell? ⟨w.heap.size + 1, 1, none⟩ = some (.slice A5 m c5) := ⟨YF.cell 0, YF.cell 1⟩
  have hw5 := hw3.trans (hb5.mono hw3.size)
  have hres := ((ho5.setLow (p := ⟨w.heap.size + 1, 0, none⟩) hlt (.int .i64 V)).setLow (p := ⟨w.heap.size + 1, 1, none⟩) hlt (.slice A5 m c5)).more (B' := w.heap.size) hw3.size
  have hend := (hw5.setCell (p := ⟨w.heap.size + 1, 0, none⟩) (by simp) (.int .i64 V)).setCell (p := ⟨w.heap.size + 1, 1, none⟩) (by simp) (.slice A5 m c5)
  clear himg YF ho5 hb5 X Y x0 x1
  go_wp2
  exact bodyPost_ret (v := .tuple #[.agg #[.int .i64 V, .slice A5 m c5], .int .i64 0]) (by simp [results, Tryz.results30, go_sem, z0, z1]) rfl ⟨A5, c5, vs5, rfl, hres, hend⟩
set_option maxHeartbeats 1000000 in
theorem specValidGroup_any (d : Int) (A : Option Addr) (n c : Nat) (L : List (List Int)) (w : World) (hL : RR w A n L) (hn : n ≤ 9223372036854775807) :
    Calls Tryz.prog 33 #[.agg #[.int .i64 d, .slice A n c]] w (fun e w' => e = .returned (.bool (tB (GroupOk d L))) ∧ Below w.heap.size w w') := by
  have hb0 := below_alloc w (.cells #[.int .i64 d, .slice A n c] 68)
  have X := Blk.new w 68 #[.int .i64 d, .slice A n c]
  have hok := l05Ok_any w.heap.size d A n c L _ X (hL.keep hb0) hn
  go_enter Tryz.func33, Tryz.ntmps33
  go_wp2_with fail
  refine hok.mono ?_
  rintro e w2 ⟨rfl, hb2⟩
  have hw2 := hb0.trans (hb2.mono hb0.size)
  clear hok
  go_wp2
  go_ret
  exact ⟨rfl, hw2⟩
structure IsoD (W : World) (g : Nat) (V : Nat) (D : Option Addr) (m dc : Nat) (zss : List (List Int)) : Prop where
  b : Blk W g 56 #[.int .i64 V, .slice D m dc]
  r : RR W D m zss
  cap : m ≤ dc ∧ dc ≤ 9223372036854775807
theorem IsoD.keep {W W' : World} {g V : Nat} {D : Option Addr} {m dc : Nat} {zss : List (List Int)} (h : IsoD W g V D m dc zss) (hb : Below W.heap.size W W') : IsoD W' g V D m dc zss := ⟨h.b.after hb, h.r.keep hb, h.cap⟩
theorem canon_ok (V : Nat) (A : Option Addr) (n c : Nat) (bs : List (List Int)) (w : World) (ha : RR w A n bs) (hn : n ≤ 1048576) (h0 : dK (V : Int) bs 400 = 0) :
    Calls Tryz.prog 29 #[.agg #[.int .i64 V, .slice A n c], .int .i64 400] w (fun e w' => ∃ A' n' c' P m d, e = .returned (.tuple #[.agg #[.int .i64 V, .slice A' n' c'], .slice P m d, .int .i64 0]) ∧ (RR w' A' n' (cdB (V : Int) bs 400) ∧ n' ≤ c' ∧ c' ≤ 9223372036854775807) ∧ (RI w' P m (cdP (V : Int) bs 400) ∧ m ≤ d ∧ d ≤ 9223372036854775807) ∧ Below w.heap.size w w') :=
  (impl_CanonicalDesign (V : Int) A n c bs 400 w ha hn).mono fun e w' ⟨A', n', c', P, m, d, D, h1, h2, h3, _, _, h6⟩ => by
    rw [(cd_ok h0).1, h0] at h1
    exact ⟨A', n', c', P, m, d, h1, ⟨h2.reads, h2.own.os_cap⟩, ⟨h3.reads, h3.os.cap⟩, h6⟩
theorem canon_err (V : Nat) (A : Option Addr) (n c : Nat) (bs : List (List Int)) (w : World) (ha : RR w A n bs) (hn : n ≤ 1048576) (h0 : dK (V : Int) bs 400 = 5) :
    Calls Tryz.prog 29 #[.agg #[.int .i64 V, .slice A n c], .int .i64 400] w (fun e w' => ∃ A' n' c' P m d, e = .returned (.tuple #[.agg #[.int .i64 0, .slice A' n' c'], .slice P m d, .int .i64 5]) ∧ Below w.heap.size w w') :=
  (impl_CanonicalDesign (V : Int) A n c bs 400 w ha hn).mono fun e w' ⟨A', n', c', P, m, d, D, h1, h2, h3, _, _, h6⟩ => by
    rw [(cd_err (b := 400) (by rw [h0]; decide)).1, h0] at h1
    exact ⟨A', n', c', P, m, d, h1, h6⟩
theorem group_ok (V : Nat) (A : Option Addr) (n c : Nat) (bs : List (List Int)) (w : World) (ha : RR w A n bs) (hn : n ≤ 1048576) (h0 : dK (V : Int) bs 400 = 0) (hl : ¬ 720 < (grL (V : Int) bs 400).length) :
    Calls Tryz.prog 32 #[.agg #[.int .i64 V, .slice A n c], .int .i64 400] w (fun e w' => ∃ A' n' c', e = .returned (.tuple #[.agg #[.int .i64 V, .slice A' n' c'], .int .i64 0]) ∧ (RR w' A' n' (grL (V : Int) bs 400) ∧ n' ≤ c' ∧ c' ≤ 9223372036854775807) ∧ Below w.heap.size w w') :=
  (impl_DesignGroup (V : Int) A n c bs 400 w ha hn).mono fun e w' ⟨A', n', c', h1, h2, h3⟩ => by
    obtain ⟨e1, e2, e3⟩ := gr_ok h0 hl
    rw [e1, e2] at h1
    rw [e3] at h2
    exact ⟨A', n', c', h1, ⟨h2.reads, h2.os_cap⟩, h3⟩
theorem group_big (V : Nat) (A : Option Addr) (n c : Nat) (bs : List (List Int)) (w : World) (ha : RR w A n bs) (hn : n ≤ 1048576) (h0 : dK (V : Int) bs 400 = 0) (hl : 720 < (grL (V : Int) bs 400).length) :
    Calls Tryz.prog 32 #[.agg #[.int .i64 V, .slice A n c], .int .i64 400] w (fun e w' => ∃ A' n' c', e = .returned (.tuple #[.agg #[.int .i64 0, .slice A' n' c'], .int .i64 5]) ∧ Below w.heap.size w w') :=
  (impl_DesignGroup (V : Int) A n c bs 400 w ha hn).mono fun e w' ⟨A', n', c', h1, h2, h3⟩ => by
    obtain ⟨e1, e2, e3⟩ := gr_big h0 hl
    rw [e1, e2] at h1
    exact ⟨A', n', c', h1, h3⟩
def CutO (wr wx : World) (V m : Nat) (us : List Sl) (s24 : Value) : Prop := ∃ y A' c', s24 = .pointer (some ⟨y, 0, none⟩) ∧ Below wr.heap.size wr wx ∧ Blk wx y 56 #[.int .i64 V, .slice A' m c'] ∧ OS wx wr.heap.size 22 1 A' m c' (us.map slv) ∧ wr.heap.size ≤ y
theorem other_done {wr w6 : World} {y V m : Nat} {us : List Sl} {A' : Option Addr} {c' : Nat} (hb : Below wr.heap.size wr w6) (Y : Blk w6 y 56 #[.int .i64 0, .slice none 0 0]) (hy : wr.heap.size ≤ y) (ho : OS w6 wr.heap.size 22 1 A' m c' (us.map slv)) :
    CutO wr ((w6.setCell ⟨y, 0, none⟩ (.int .i64 V)).setCell ⟨y, 1, none⟩ (.slice A' m c')) V m us (.pointer (some ⟨y, 0, none⟩)) := by
  have e1 : some y ≠ blk A' := OS.typed' ho Y (by decide)
  refine ⟨y, A', c', rfl, (hb.setCell (p := ⟨y, 0, none⟩) hy _).setCell (p := ⟨y, 1, none⟩) hy _, ?_, (ho.kept grown_set (.inr fun e => e1 e.symm)).kept grown_set (.inr fun e => e1 e.symm), hy⟩
  simpa using (Y.set_ 0 (.int .i64 V)).set_ 1 (.slice A' m c')
theorem rows_RR {w : World} {B : Nat} {A : Option Addr} {n c : Nat} {us : List Sl} {zss : List (List Int)} (ho : OS w B 22 1 A n c (us.map slv)) (hr : Rows w us zss) (hn : zss.length = n) : RR w A n zss :=
  ⟨hn, fun j z hz => by
    have hj : j < us.length := by rw [hr.len]; exact (List.getElem?_eq_some_iff.1 hz).1
    obtain ⟨h1, h2, h3⟩ := hr.row j _ _ (List.getElem?_eq_getElem hj) hz
    obtain ⟨ad, e, hc⟩ := ho.cells j (slv us[j]) (by rw [List.getElem?_map, List.getElem?_eq_getElem hj]; rfl)
    exact ⟨ad, _, e, hc, _, _, _, rfl, h1, h2, h3⟩⟩
theorem less_drop {V : Nat} {bs : List (List Int)} {b : Int} (h : Design (V : Int) bs) (hm : bs.length ≤ 13) (hb : inB b 1 20000 = true) (h0 : 0 < bs.length) : dsgK (V : Int) bs (V : Int) (bs.drop 1) b = 5 ∨ (dsgK (V : Int) bs (V : Int) (bs.drop 1) b = 0 ∧ dsgR (V : Int) bs (V : Int) (bs.drop 1) b = false) := by
  cases bs with
  | nil => exact absurd h0 (by simp)
  | cons z r => exact (less_iso h hm hb).2
theorem mem_rowL {L : List (List Int)} {j : Nat} (h : j < L.length) : row L j ∈ L := by rw [row_get h]; exact List.getElem_mem h
def CutR (W wx : World) (V : Nat) (m : Nat) (zss : List (List Int)) (s22 s23 : Value) : Prop := ∃ y A' c', s22 = .pointer (some ⟨y, 0, none⟩) ∧ s23 = .int .i64 0 ∧ Below W.heap.size W wx ∧ IsoD wx y V A' m c' zss
set_option maxRecDepth 100000 in
set_option maxHeartbeats 10000000 in
theorem law_Isomorphic_ok (A0 : Option Addr) (n0 c0 : Nat) (bs : List Int) (A1 : Option Addr) (n1 c1 : Nat) (ys : List Int) (w : World) (ha : RS EByte w A0 n0 bs) (hn0 : n0 ≤ 1048576) (hb : RS EByte w A1 n1 ys) (hn1 : n1 ≤ 1048576) :
    Calls Tryz.prog 6 #[.slice A0 n0 c0, .slice A1 n1 c1] w fun e w' => e = .returned (.bool true) ∧ Below w.heap.size w w' := by
  go_enter Tryz.func6, Tryz.ntmps6
  go_wp2_with fail
  refine (v8Long_no A0 n0 c0 A1 n1 c1 w hn0 hn1).mono ?_
  rintro e w0 ⟨rfl, rfl⟩
  go_wp2_with fail
  refine (v8Small_any A0 n0 c0 bs _ ha (by omega)).mono ?_
  rintro e w1 ⟨V, D, m, dc, vs, zss, rfl, hod, hD, hm, hb1⟩
  have hlz := hod.lenZ
  subst hlz
  have hba := below_alloc w1 (.cells #[.int .i64 (V : Int), .slice D zss.length dc] 56)
  have Id : IsoD (w1.alloc (.cells #[.int .i64 (V : Int), .slice D zss.length dc] 56)) w1.heap.size V D zss.length dc zss := ⟨Blk.new w1 56 _, hod.reads.keep hba, hod.os.cap⟩
  have hw2 := hb1.trans (hba.mono hb1.size)
  obtain ⟨x0, x1⟩ := Id.b.cells2
  clear hod hba hb1
  go_wp2_with fail
  clear x0 x1
  generalize w1.alloc (.cells #[.int .i64 (V : Int), .slice D zss.length dc] 56) = W2 at *
  generalize w1.heap.size = gd at *
  refine (v8Image_any A1 n1 c1 ys V D zss.length dc zss W2 (EBytes.keep hb hw2) (by omega) Id.r hD).mono ?_
  rintro e w3 ⟨p, E, ec, evs, rfl, hp, hoe, hb3⟩
  have hba := below_alloc w3 (.cells #[.int .i64 (V : Int), .slice E zss.length ec] 56)
  have Ie : IsoD (w3.alloc (.cells #[.int .i64 (V : Int), .slice E zss.length ec] 56)) w3.heap.size V E zss.length ec (imgD p zss) := ⟨Blk.new w3 56 _, hoe.reads.keep hba, hoe.os.cap⟩
  have Id := (Id.keep hb3).keep hba
  have hw4 := hw2.trans ((hb3.trans (hba.mono hb3.size)).mono hw2.size)
  have hDe := imgD_design hD hp
  have hle := imgD_len p zss
  have hce := img_code hD hm b400 hp
  obtain ⟨x0, x1⟩ := Id.b.cells2
  clear hoe hba hb3 hb ha hw2
  rcases dK_two hD hm b400 with h0 | h5
  · have k0 := hce.trans h0
    have hfm := img_form hD hm h0 hp
    obtain ⟨hI1, hI2⟩ := img_iso hD hm h0 hp
    obtain ⟨hG1, hG2⟩ := gr_same hD hm h0 hp
    obtain ⟨-, -, hq⟩ := cd_form hD hm h0
    have hqB : imgD (cdP (V : Int) zss 400) zss = cdB (V : Int) zss 400 := (cd_ok h0).2.1.symm
    have hdE := dsg_few hD hm hDe (by omega) b400
    have HC := Lib.hid (fun W (h : RR W D zss.length zss) => canon_ok V D zss.length dc zss W h (by omega) h0)
    have HE := Lib.hid (fun W (h : RR W E zss.length (imgD p zss)) => canon_ok V E zss.length ec (imgD p zss) W h (by omega) k0)
    rw [hfm] at HE
    have HI := Lib.hid (fun W (h : RR W D zss.length zss) (k : RR W E zss.length (imgD p zss)) => impl_IsomorphicDesigns (V : Int) D zss.length dc zss (V : Int) E zss.length ec (imgD p zss) 400 W h k (by omega) (by omega))
    rw [hI1, hI2] at HI
    clear hfm hI1 hI2 hdE hce
    generalize cdP (V : Int) zss 400 = q at *
    generalize cdB (V : Int) zss 400 = cb at *
    go_wp2_with fail
    clear x0 x1
    generalize w3.alloc (.cells #[.int .i64 (V : Int), .slice E zss.length ec] 56) = W4 at *
    generalize w3.heap.size = ge at *
    refine (HC.out W4 Id.r).mono ?_
    rintro e w5 ⟨CA, cn, cc, P, pm, pd, rfl, ⟨hrc, hcc⟩, ⟨hrp, hpc⟩, hb5⟩
    have hba := below_alloc w5 (.cells #[.int .i64 (V : Int), .slice CA cn cc] 56)
    have Ix : IsoD (w5.alloc (.cells #[.int .i64 (V : Int), .slice CA cn cc] 56)) w5.heap.size V CA cn cc cb := ⟨Blk.new w5 56 _, hrc.keep hba, hcc⟩
    have hrp := hrp.keep hba
    have Id := (Id.keep hb5).keep hba
    have Ie := (Ie.keep hb5).keep hba
    have hw6 := hw4.trans ((hb5.trans (hba.mono hb5.size)).mono hw4.size)
    obtain ⟨x0, x1⟩ := Ie.b.cells2
    clear hb5 hba hw4 hrc hcc
    go_wp2_with fail
    clear x0 x1
    generalize w5.alloc (.cells #[.int .i64 (V : Int), .slice CA cn cc] 56) = W6 at *
    generalize w5.heap.size = gx at *
    refine (HE.out W6 Ie.r).mono ?_
    rintro e w7 ⟨YA, yn, yc, YP, ym, yd, rfl, ⟨hry, hyc⟩, -, hb7⟩
    have hba := below_alloc w7 (.cells #[.int .i64 (V : Int), .slice YA yn yc] 56)
    have Iy : IsoD (w7.alloc (.cells #[.int .i64 (V : Int), .slice YA yn yc] 56)) w7.heap.size V YA yn yc cb := ⟨Blk.new w7 56 _, hry.keep hba, hyc⟩
    have hrp := (hrp.keep hb7).keep hba
    have Id := (Id.keep hb7).keep hba
    have Ie := (Ie.keep hb7).keep hba
    have Ix := (Ix.keep hb7).keep hba
    have hw8 := hw6.trans ((hb7.trans (hba.mono hb7.size)).mono hw6.size)
    obtain ⟨x0, x1⟩ := Id.b.cells2
    clear hb7 hba hw6 hry hyc HC HE
    go_wp2_with fail
    clear x0 x1
    generalize w7.alloc (.cells #[.int .i64 (V : Int), .slice YA yn yc] 56) = W8 at *
    generalize w7.heap.size = gy at *
    have hpm : pm = V := by rw [← hrp.len, hq.1]
    subst hpm
    refine (specRelabelDesign_any pm D zss.length dc zss P pd q W8 Id.r hD hrp hpc.1 hpc.2 hq).mono ?_
    rintro e w9 ⟨ZA, zc, zvs, rfl, hoz, hb9⟩
    rw [hqB] at hoz
    have hba := below_alloc w9 (.cells #[.int .i64 (pm : Int), .slice ZA zss.length zc] 56)
    have Iz : IsoD (w9.alloc (.cells #[.int .i64 (pm : Int), .slice ZA zss.length zc] 56)) w9.heap.size pm ZA zss.length zc cb := ⟨Blk.new w9 56 _, hoz.reads.keep hba, hoz.os.cap⟩
    have Id := (Id.keep hb9).keep hba
    have Ie := (Ie.keep hb9).keep hba
    have Ix := (Ix.keep hb9).keep hba
    have Iy := (Iy.keep hb9).keep hba
    have hw10 := hw8.trans ((hb9.trans (hba.mono hb9.size)).mono hw8.size)
    obtain ⟨x0, x1⟩ := Id.b.cells2
    obtain ⟨x2, x3⟩ := Ie.b.cells2
    clear hb9 hba hw8 hoz hrp
    go_wp2_with fail
    clear x0 x1 x2 x3
    generalize w9.alloc (.cells #[.int .i64 (pm : Int), .slice ZA zss.length zc] 56) = W10 at *
    generalize w9.heap.size = gz at *
    refine (HI.out W10 Id.r Ie.r).mono ?_
    rintro e W11 ⟨rfl, hb11⟩
    have Id := Id.keep hb11
    have Ie := Ie.keep hb11
    have Ix := Ix.keep hb11
    have Iy := Iy.keep hb11
    have Iz := Iz.keep hb11
    have hw11 := hw10.trans (hb11.mono hw10.size)
    obtain ⟨x0, x1⟩ := Id.b.cells2
    clear hb11 hw10 HI
    by_cases hl : 720 < (grL (pm : Int) zss 400).length
    · have HC := Lib.hid (fun W (h : RR W D zss.length zss) => group_big pm D zss.length dc zss W h (by omega) h0 hl)
      have HE := Lib.hid (fun W (h : RR W E zss.length (imgD p zss)) => group_big pm E zss.length ec (imgD p zss) W h (by omega) k0 (by rw [hG1]; exact hl))
      clear hl hG1 hG2
      go_wp2_with fail
      clear x0 x1
      refine (HC.out W11 Id.r).mono ?_
      rintro e w12 ⟨GA, gn, gc, rfl, hb12⟩
      have hba := below_alloc w12 (.cells #[.int .i64 0, .slice GA gn gc] 68)
      have hbb := hb12.trans (hba.mono hb12.size)
      have Ie := Ie.keep hbb
      have Ix := Ix.keep hbb
      have Iy := Iy.keep hbb
      have Iz := Iz.keep hbb
      have hw13 := hw11.trans (hbb.mono hw11.size)
      obtain ⟨x0, x1⟩ := Ie.b.cells2
      clear hb12 hba hbb hw11 HC
      go_wp2_with fail
      clear x0 x1
      generalize w12.alloc (.cells #[.int .i64 0, .slice GA gn gc] 68) = W13 at *
      generalize w12.heap.size = gg at *
      refine (HE.out W13 Ie.r).mono ?_
      rintro e w14 ⟨KA, kn, kc, rfl, hb14⟩
      have hba := below_alloc w14 (.cells #[.int .i64 0, .slice KA kn kc] 68)
      have hbb := hb14.trans (hba.mono hb14.size)
      have Ix := Ix.keep hbb
      have Iy := Iy.keep hbb
      have Iz := Iz.keep hbb
      have hw15 := hw13.trans (hbb.mono hw13.size)
      obtain ⟨x0, x1⟩ := Ix.b.cells2
      obtain ⟨y0, y1⟩ := Iy.b.cells2
      clear hb14 hba hbb hw13 HE
      have H1 := Lib.hid (fun W (h : RR W CA cn cb) (k : RR W YA yn cb) => sameDesign_eq (pm : Int) CA cn cc YA yn yc cb W h k (by have := Ix.cap; omega) (by have := Iy.cap; omega))
      have H2 := Lib.hid (fun W (h : RR W CA cn cb) (k : RR W ZA zss.length cb) => sameDesign_eq (pm : Int) CA cn cc ZA zss.length zc cb W h k (by have := Ix.cap; omega) (by have := Iz.cap; omega))
      go_wp2_with fail
      clear x0 x1 y0 y1
      generalize w14.alloc (.cells #[.int .i64 0, .slice KA kn kc] 68) = W15 at *
      generalize w14.heap.size = gk at *
      refine (H1.out W15 Ix.r Iy.r).mono ?_
      rintro e w16 ⟨rfl, hb16⟩
      have Ix := Ix.keep hb16
      have Iz := Iz.keep hb16
      have hw16 := hw15.trans (hb16.mono hw15.size)
      obtain ⟨x0, x1⟩ := Ix.b.cells2
      obtain ⟨y0, y1⟩ := Iz.b.cells2
      clear hb16 hw15
      go_wp2_with fail
      clear x0 x1 y0 y1
      refine (H2.out w16 Ix.r Iz.r).mono ?_
      rintro e w17 ⟨rfl, hb17⟩
      have hw17 := hw16.trans (hb17.mono hw16.size)
      go_wp2
      go_ret
      exact ⟨rfl, hw17⟩
    · have hgrp := gr_group hD hm h0 hl
      have HC := Lib.hid (fun W (h : RR W D zss.length zss) => group_ok pm D zss.length dc zss W h (by omega) h0 hl)
      have HE := Lib.hid (fun W (h : RR W E zss.length (imgD p zss)) => group_ok pm E zss.length ec (imgD p zss) W h (by omega) k0 (by rw [hG1]; exact hl))
      have HM := Lib.hid (gr_mem hD hm h0)
      generalize grL (pm : Int) zss 400 = L at *
      generalize grL (pm : Int) (imgD p zss) 400 = L' at *
      clear hG2
      go_wp2_with fail
      clear x0 x1
      refine (HC.out W11 Id.r).mono ?_
      rintro e w12 ⟨GA, gn, gc, rfl, ⟨hrg, hgc⟩, hb12⟩
      have hba := below_alloc w12 (.cells #[.int .i64 (pm : Int), .slice GA gn gc] 68)
      have Xg := Blk.new w12 68 #[.int .i64 (pm : Int), .slice GA gn gc]
      have hbb := hb12.trans (hba.mono hb12.size)
      have hrg := hrg.keep hba
      have Id := Id.keep hbb
      have Ie := Ie.keep hbb
      have Ix := Ix.keep hbb
      have Iy := Iy.keep hbb
      have Iz := Iz.keep hbb
      have hw13 := hw11.trans (hbb.mono hw11.size)
      obtain ⟨x0, x1⟩ := Ie.b.cells2
      clear hb12 hba hbb hw11 HC
      go_wp2_with fail
      clear x0 x1
      generalize w12.alloc (.cells #[.int .i64 (pm : Int), .slice GA gn gc] 68) = W13 at *
      generalize w12.heap.size = gg at *
      refine (HE.out W13 Ie.r).mono ?_
      rintro e w14 ⟨KA, kn, kc, rfl, ⟨hrk, hkc⟩, hb14⟩
      have hba := below_alloc w14 (.cells #[.int .i64 (pm : Int), .slice KA kn kc] 68)
      have Xk := Blk.new w14 68 #[.int .i64 (pm : Int), .slice KA kn kc]
      have hbb := hb14.trans (hba.mono hb14.size)
      have hgk : kn = gn := by rw [← hrk.len, hG1, hrg.len]
      subst hgk
      have Xg := Xg.after hbb
      have hrg := hrg.keep hbb
      have Id := Id.keep hbb
      have Ix := Ix.keep hbb
      have Iy := Iy.keep hbb
      have Iz := Iz.keep hbb
      have hw15 := hw13.trans (hbb.mono hw13.size)
      obtain ⟨x0, x1⟩ := Ix.b.cells2
      obtain ⟨y0, y1⟩ := Iy.b.cells2
      clear hb14 hba hbb hw13 HE hrk hG1
      have H1 := Lib.hid (fun W (h : RR W CA cn cb) (k : RR W YA yn cb) => sameDesign_eq (pm : Int) CA cn cc YA yn yc cb W h k (by have := Ix.cap; omega) (by have := Iy.cap; omega))
      have H2 := Lib.hid (fun W (h : RR W CA cn cb) (k : RR W ZA zss.length cb) => sameDesign_eq (pm : Int) CA cn cc ZA zss.length zc cb W h k (by have := Ix.cap; omega) (by have := Iz.cap; omega))
      go_wp2_with fail
      clear x0 x1 y0 y1
      generalize w14.alloc (.cells #[.int .i64 (pm : Int), .slice KA kn kc] 68) = W15 at *
      generalize w14.heap.size = gk at *
      refine (H1.out W15 Ix.r Iy.r).mono ?_
      rintro e w16 ⟨rfl, hb16⟩
      have Xg := Xg.after hb16
      have Xk := Xk.after hb16
      have hrg := hrg.keep hb16
      have Id := Id.keep hb16
      have Ix := Ix.keep hb16
      have Iz := Iz.keep hb16
      have hw16 := hw15.trans (hb16.mono hw15.size)
      obtain ⟨x0, x1⟩ := Ix.b.cells2
      obtain ⟨y0, y1⟩ := Iz.b.cells2
      clear hb16 hw15
      go_wp2_with fail
      clear x0 x1 y0 y1
      refine (H2.out w16 Ix.r Iz.r).mono ?_
      rintro e w17 ⟨rfl, hb17⟩
      have Xg := Xg.after hb17
      have Xk := Xk.after hb17
      have hrg := hrg.keep hb17
      have Id := Id.keep hb17
      have hw17 := hw16.trans (hb17.mono hw16.size)
      obtain ⟨x0, x1⟩ := Xg.cells2
      obtain ⟨y0, y1⟩ := Xk.cells2
      have hvg := specValidGroup_any (pm : Int) GA kn gc L w17 hrg (by omega)
      rw [tB_yes hgrp] at hvg
      clear hb17 hw16 H1 H2 Ix Iy Iz Ie
      go_wp2_with fail
      clear x0 x1 y0 y1
      refine hvg.mono ?_
      rintro e w18 ⟨rfl, hb18⟩
      have Xg := Xg.after hb18
      have hrg := hrg.keep hb18
      have Id := Id.keep hb18
      have hw18 := hw17.trans (hb18.mono hw17.size)
      clear hb18 hw17 Xk hvg
      go_wp2
      go_loopw [21] (fun i wr => ∃ j : Nat, i = .int .i64 j ∧ j ≤ kn ∧ Below w18.heap.size w18 wr) (fun i _ => kn - (intOf i).toNat)
      case atStart => exact ⟨0, rfl, Nat.zero_le _, Below.refl _ _⟩
      case round =>
        obtain ⟨j, rfl, hj, hwr⟩ := hrel
        have Xg := Xg.after hwr
        have hrg := hrg.keep hwr
        have Id := Id.keep hwr
        obtain ⟨x0, x1⟩ := Xg.cells2
        obtain ⟨y0, y1⟩ := Id.b.cells2
        by_cases hlt : j < kn
        · obtain ⟨ga, B1, n1, c1, rfl, g1, g2, g3, g4⟩ := hrg.get hlt
          obtain ⟨hr1, hr2⟩ := (HM.out (row L j)).1 (mem_rowL (by rw [hrg.len]; exact hlt))
          have hn1 : n1 = pm := by rw [← g4.len, hr1.1]
          subst hn1
          have HR := Lib.hid (fun (W : World) (hb : Below wr.heap.size wr W) => specRelabelDesign_any n1 D zss.length dc zss B1 c1 (row L j) W (Id.r.keep hb) hD (g4.keep hb) g2 g3 hr1)
          rw [hr2] at HR
          have hIc := Id.cap
          have HL := Lib.hid (fun (W : World) (hb : Below wr.heap.size wr W) => show W.cell? ⟨gg, 1, none⟩ = some (.slice (some ga) kn gc) ∧ W.cell? (ga.add j) = some (.slice B1 n1 c1) ∧ W.cell? ⟨gd, 0, none⟩ = some (.int .i64 n1) ∧ W.cell? ⟨gd, 1, none⟩ = some (.slice D zss.length dc) from ⟨below_cell hb x1, below_cell hb g1, below_cell hb y0, below_cell hb y1⟩)
          go_upto_region 24 with (fail)
          go_cut [22, 23] (fun s22 s23 wx => CutR wr wx n1 zss.length zss s22 s23)
          case first =>
            refine wp_region_held_drew (S := fun w' => w'.cell? ⟨gg, 1, none⟩ = some (.slice (some ga) kn gc) ∧ w'.cell? (ga.add j) = some (.slice B1 n1 c1) ∧ w'.cell? ⟨gd, 0, none⟩ = some (.int .i64 n1) ∧ w'.cell? ⟨gd, 1, none⟩ = some (.slice D zss.length dc)) (by kernel_rfl) ?_ ?_
            · have := HL.out _ (below_drewn wr 1)
              rwa [← World.drew_is_drewN] at this
            intro hS
            clear x0 x1 y0 y1 g1
            refine wpAnyH_take (i := 0) (v := ?_) rfl (by kernel_rfl) (by kernel_rfl) (by kernel_rfl) (fun _ _ _ h => h) (Or.inl ⟨by rfl, ?_⟩) (by assumption) ?_
            rotate_left
            · (intro w hSw; (try dsimp only at hSw); go_simp; (try with_reducible rfl))
            simp only [Act.put, List.setIfInBounds_toArray, List.set_cons_zero, List.set_cons_succ]
            refine wpAnyH_take (i := 1) (v := ?_) rfl (by kernel_rfl) (by kernel_rfl) (by kernel_rfl) (fun _ _ _ h => h) (Or.inl ⟨by rfl, ?_⟩) (by assumption) ?_
            rotate_left
            · (intro w hSw; (try dsimp only at hSw); go_simp; (try with_reducible rfl))
            simp only [Act.put, List.setIfInBounds_toArray, List.set_cons_zero, List.set_cons_succ]
            refine wpAnyH_take (i := 2) (v := ?_) rfl (by kernel_rfl) (by kernel_rfl) (by kernel_rfl) (fun _ _ _ h => h) (Or.inl ⟨by rfl, ?_⟩) (by assumption) ?_
            rotate_left
            · (intro w hSw; (try dsimp only at hSw); go_simp; (try with_reducible rfl))
            simp only [Act.put, List.setIfInBounds_toArray, List.set_cons_zero, List.set_cons_succ]
            refine wpAnyH_take (i := 3) (v := ?_) rfl (by kernel_rfl) (by kernel_rfl) (by kernel_rfl) (fun _ _ _ h => h) (Or.inl ⟨by rfl, ?_⟩) (by assumption) ?_
            rotate_left
            · (intro w hSw; (try dsimp only at hSw); go_simp; (try with_reducible rfl))
            simp only [Act.put, List.setIfInBounds_toArray, List.set_cons_zero, List.set_cons_succ]
            refine wpAnyH_take (i := 4) (v := ?_) rfl (by kernel_rfl) (by kernel_rfl) (by kernel_rfl) (fun _ _ _ h => h) (Or.inl ⟨by rfl, ?_⟩) (by assumption) ?_
            rotate_left
            · (intro w hSw; (try dsimp only at hSw); go_simp; (try with_reducible rfl))
            simp only [Act.put, List.setIfInBounds_toArray, List.set_cons_zero, List.set_cons_succ]
            refine wpAnyH_take (i := 5) (v := ?_) rfl (by kernel_rfl) (by kernel_rfl) (by kernel_rfl) (fun _ _ _ h => h) (Or.inl ⟨by rfl, ?_⟩) (by assumption) ?_
            rotate_left
            · (intro w hSw; (try dsimp only at hSw); go_simp; (try with_reducible rfl))
            simp only [Act.put, List.setIfInBounds_toArray, List.set_cons_zero, List.set_cons_succ]
            simp only [List.getElem_toArray, List.getElem_cons_succ, List.getElem_cons_zero]
            have hdr := below_drewn wr 1
            rw [← World.drew_is_drewN] at hdr
            generalize wr.drew = W at *
            refine wpAnyH_ready (rs := [6, 10]) (by kernel_rfl) (by simp) ?_
            refine AllReadyH.cons rfl (fun K hK => ?_) (AllReadyH.cons rfl (fun K hK => ?_) AllReadyH.nil)
            · go_simp
              refine (HR.out W hdr).mono ?_
              rintro e w5 ⟨A5, c5, vs5, rfl, ho5, hb5⟩
              dsimp only
              have hX5 := hdr.trans (hb5.mono hdr.size)
              refine hK.out _ _ (HL.out _ hX5) (fun hS1 => ?_)
              clear hK K hS
              refine wpAnyH_take (i := 7) (v := ?_) rfl (by kernel_rfl) (by kernel_rfl) (by kernel_rfl) (fun _ _ _ h => h) (Or.inl ⟨by rfl, ?_⟩) (by assumption) ?_
              rotate_left
              · (intro w hSw; (try dsimp only at hSw); go_simp; (try with_reducible rfl))
              simp only [Act.put, List.setIfInBounds_toArray, List.set_cons_zero, List.set_cons_succ]
              refine wpAnyH_take (i := 8) (v := ?_) rfl (by kernel_rfl) (by kernel_rfl) (by kernel_rfl) (fun _ _ _ h => h) (Or.inl ⟨by rfl, ?_⟩) (by assumption) ?_
              rotate_left
              · (intro w hSw; (try dsimp only at hSw); go_simp; (try with_reducible rfl))
              simp only [Act.put, List.setIfInBounds_toArray, List.set_cons_zero, List.set_cons_succ]
              refine wpAnyH_take (i := 9) (v := ?_) rfl (by kernel_rfl) (by kernel_rfl) (by kernel_rfl) (fun _ _ _ h => h) (Or.inl ⟨by rfl, ?_⟩) (by assumption) ?_
              rotate_left
              · (intro w hSw; (try dsimp only at hSw); go_simp; (try with_reducible rfl))
              simp only [Act.put, List.setIfInBounds_toArray, List.set_cons_zero, List.set_cons_succ]
              refine wpAnyH_ready (rs := [10]) (by kernel_rfl) (by simp) ?_
              refine AllReadyH.cons rfl (fun K hK => ?_) AllReadyH.nil
              go_simp
              have hba := below_alloc w5 (.cells #[.int .i64 0, .slice none 0 0] 56)
              have Y := Blk.new w5 56 #[.int .i64 0, .slice none 0 0]
              have hX6 := hX5.trans (hba.mono hX5.size)
              have hr5 := Lib.hid (fun (w' : World) (h : Below w5.heap.size (w5.alloc (.cells #[.int .i64 0, .slice none 0 0] 56)) w') => ho5.reads.keep (hba.trans (h.mono (Nat.le_refl _))))
              have hcap5 := ho5.os.cap
              have hy := hX5.size
              refine hK.out _ _ (HL.out _ hX6) (fun hS2 => ?_)
              clear hK K hS1 hba ho5 hb5
              generalize w5.alloc (.cells #[.int .i64 0, .slice none 0 0] 56) = w6 at *
              generalize w5.heap.size = y at *
              obtain ⟨y0, y1⟩ := Y.cells2
              have f0 := Y.frozen 0
              have f1 := Y.frozen 1
              have YF := (Y.set_ 0 (.int .i64 n1)).set_ 1 (.slice A5 zss.length c5)
              have hX7 := (hX6.setCell (p := ⟨y, 0, none⟩) hy (.int .i64 n1)).setCell (p := ⟨y, 1, none⟩) hy (.slice A5 zss.length c5)
              have hr7 := hr5.out _ (((Below.refl y w6).setCell (p := ⟨y, 0, none⟩) (Nat.le_refl _) (.int .i64 n1)).setCell (p := ⟨y, 1, none⟩) (Nat.le_refl _) (.slice A5 zss.length c5))
              refine wpAnyH_ready (rs := [11]) (by kernel_rfl) (by simp) ?_
              refine AllReadyH.cons rfl (fun K hK => ?_) AllReadyH.nil
              go_simp
              refine hK.out _ _ (HL.out _ hX7) (fun hS3 => ?_)
              clear hK K hS2
              refine wpAnyH_ready (rs := [12]) (by kernel_rfl) (by simp) ?_
              refine AllReadyH.cons rfl (fun K hK => ?_) AllReadyH.nil
              go_simp
              refine hK.out _ _ hS3 (fun _ => ?_)
              clear hK K
              refine wpAnyH_done (by kernel_rfl) ?_ _
              go_wp2
              go_meet
              exact ⟨y, A5, c5, rfl, rfl, hX7, ⟨by simpa using YF, hr7, hcap5⟩⟩
            · go_simp
              have hba := below_alloc W (.cells #[.int .i64 0, .slice none 0 0] 56)
              have Y := Blk.new W 56 #[.int .i64 0, .slice none 0 0]
              have hX6 := hdr.trans (hba.mono hdr.size)
              have hy := hdr.size
              refine hK.out _ _ (HL.out _ hX6) (fun hS2 => ?_)
              clear hK K hS hba
              generalize W.alloc (.cells #[.int .i64 0, .slice none 0 0] 56) = w6 at *
              generalize W.heap.size = y at *
              refine wpAnyH_ready (rs := [6]) (by kernel_rfl) (by simp) ?_
              refine AllReadyH.cons rfl (fun K hK => ?_) AllReadyH.nil
              go_simp
              refine (HR.out w6 hX6).mono ?_
              rintro e w5 ⟨A5, c5, vs5, rfl, ho5, hb5⟩
              dsimp only
              have hX5 := hX6.trans (hb5.mono hX6.size)
              refine hK.out _ _ (HL.out _ hX5) (fun hS1 => ?_)
              clear hK K hS2
              refine wpAnyH_take (i := 7) (v := ?_) rfl (by kernel_rfl) (by kernel_rfl) (by kernel_rfl) (fun _ _ _ h => h) (Or.inl ⟨by rfl, ?_⟩) (by assumption) ?_
              rotate_left
              · (intro w hSw; (try dsimp only at hSw); go_simp; (try with_reducible rfl))
              simp only [Act.put, List.setIfInBounds_toArray, List.set_cons_zero, List.set_cons_succ]
              refine wpAnyH_take (i := 8) (v := ?_) rfl (by kernel_rfl) (by kernel_rfl) (by kernel_rfl) (fun _ _ _ h => h) (Or.inl ⟨by rfl, ?_⟩) (by assumption) ?_
              rotate_left
              · (intro w hSw; (try dsimp only at hSw); go_simp; (try with_reducible rfl))
              simp only [Act.put, List.setIfInBounds_toArray, List.set_cons_zero, List.set_cons_succ]
              refine wpAnyH_take (i := 9) (v := ?_) rfl (by kernel_rfl) (by kernel_rfl) (by kernel_rfl) (fun _ _ _ h => h) (Or.inl ⟨by rfl, ?_⟩) (by assumption) ?_
              rotate_left
              · (intro w hSw; (try dsimp only at hSw); go_simp; (try with_reducible rfl))
              simp only [Act.put, List.setIfInBounds_toArray, List.set_cons_zero, List.set_cons_succ]
              have hyl := Y.lt
              have Y := Y.after hb5
              obtain ⟨y0, y1⟩ := Y.cells2
              have f0 := Y.frozen 0
              have f1 := Y.frozen 1
              have YF := (Y.set_ 0 (.int .i64 n1)).set_ 1 (.slice A5 zss.length c5)
              have hX7 := (hX5.setCell (p := ⟨y, 0, none⟩) hy (.int .i64 n1)).setCell (p := ⟨y, 1, none⟩) hy (.slice A5 zss.length c5)
              have hr7 := ((ho5.setLow (p := ⟨y, 0, none⟩) hyl (.int .i64 n1)).setLow (p := ⟨y, 1, none⟩) hyl (.slice A5 zss.length c5)).reads
              have hcap5 := ho5.os.cap
              refine wpAnyH_ready (rs := [11]) (by kernel_rfl) (by simp) ?_
              refine AllReadyH.cons rfl (fun K hK => ?_) AllReadyH.nil
              go_simp
              refine hK.out _ _ (HL.out _ hX7) (fun hS3 => ?_)
              clear hK K hS1
              refine wpAnyH_ready (rs := [12]) (by kernel_rfl) (by simp) ?_
              refine AllReadyH.cons rfl (fun K hK => ?_) AllReadyH.nil
              go_simp
              refine hK.out _ _ hS3 (fun _ => ?_)
              clear hK K
              refine wpAnyH_done (by kernel_rfl) ?_ _
              go_wp2
              go_meet
              exact ⟨y, A5, c5, rfl, rfl, hX7, ⟨by simpa using YF, hr7, hcap5⟩⟩
          case rest =>
            obtain ⟨y, A5, c5, rfl, rfl, hwc, Iy⟩ := hcut
            have Id := Id.keep hwc
            clear x0 x1 y0 y1 HR HL
            obtain ⟨x0, x1⟩ := Iy.b.cells2
            obtain ⟨y0, y1⟩ := Id.b.cells2
            have hsd := sameDesign_eq (n1 : Int) A5 zss.length c5 D zss.length dc zss wc Iy.r Id.r (by omega) (by omega)
            have hw6 := hwr.trans (hwc.mono hwr.size)
            go_wp2_with fail
            clear x0 x1 y0 y1
            refine hsd.mono ?_
            rintro e w6 ⟨rfl, hb6⟩
            have hw7 := hw6.trans (hb6.mono hw6.size)
            clear hsd
            go_wp2
            go_roundw
            case rel => exact ⟨j + 1, by go_num, by omega, hw7⟩
            case measure => simp [intOf]; omega
        · obtain rfl : j = kn := by omega
          have hIc := Id.cap
          obtain ⟨us, hus, huc⟩ := Id.r.sls
          have hul := Lib.hid hus.len
          have HU := Lib.hid (fun (W : World) (hb : Below wr.heap.size wr W) (i : Nat) (v : Sl) (hv : us[i]? = some v) => show ∃ ad, D = some ad ∧ W.cell? (ad.add i) = some (slv v) from by
            obtain ⟨ad, e, hc⟩ := huc i v hv
            exact ⟨ad, e, below_cell hb hc⟩)
          have HL := Lib.hid (fun (W : World) (hb : Below wr.heap.size wr W) => show W.cell? ⟨gd, 0, none⟩ = some (.int .i64 pm) ∧ W.cell? ⟨gd, 1, none⟩ = some (.slice D zss.length dc) from ⟨below_cell hb y0, below_cell hb y1⟩)
          clear huc
          go_upto_region 27 with (fail)
          go_cut [24] (fun s24 wx => CutO wr wx pm zss.length us s24)
          case first =>
            refine region_last (P := Tryz.prog) (S := fun w' => w'.cell? ⟨gd, 0, none⟩ = some (.int .i64 pm) ∧ w'.cell? ⟨gd, 1, none⟩ = some (.slice D zss.length dc)) (by kernel_rfl) (by simp only [List.getLast?_cons_cons, List.getLast?_singleton]; rfl) (by dsimp only [List.dropLast]) (by kernel_rfl) ?_ ?_
            · have := HL.out _ (below_drewn wr 1)
              rwa [← World.drew_is_drewN] at this
            intro hS
            clear x0 x1 y0 y1
            refine wpAnyH_take (i := 0) (v := ?_) rfl (by kernel_rfl) (by kernel_rfl) (by kernel_rfl) (fun _ _ _ h => h) (Or.inl ⟨by rfl, ?_⟩) (by assumption) ?_
            rotate_left
            · (intro w hSw; (try dsimp only at hSw); go_simp; (try with_reducible rfl))
            simp only [Act.put, List.setIfInBounds_toArray, List.set_cons_zero, List.set_cons_succ]
            refine wpAnyH_take (i := 1) (v := ?_) rfl (by kernel_rfl) (by kernel_rfl) (by kernel_rfl) (fun _ _ _ h => h) (Or.inl ⟨by rfl, ?_⟩) (by assumption) ?_
            rotate_left
            · (intro w hSw; (try dsimp only at hSw); go_simp; (try with_reducible rfl))
            simp only [Act.put, List.setIfInBounds_toArray, List.set_cons_zero, List.set_cons_succ]
            refine wpAnyH_take (i := 3) (v := ?_) rfl (by kernel_rfl) (by kernel_rfl) (by kernel_rfl) (fun _ _ _ h => h) (Or.inl ⟨by rfl, ?_⟩) (by assumption) ?_
            rotate_left
            · (intro w hSw; (try dsimp only at hSw); go_simp; (try with_reducible rfl))
            simp only [Act.put, List.setIfInBounds_toArray, List.set_cons_zero, List.set_cons_succ]
            refine wpAnyH_take (i := 4) (v := ?_) rfl (by kernel_rfl) (by kernel_rfl) (by kernel_rfl) (fun _ _ _ h => h) (Or.inl ⟨by rfl, ?_⟩) (by assumption) ?_
            rotate_left
            · (intro w hSw; (try dsimp only at hSw); go_simp; (try with_reducible rfl))
            simp only [Act.put, List.setIfInBounds_toArray, List.set_cons_zero, List.set_cons_succ]
            simp only [List.getElem_toArray, List.getElem_cons_succ, List.getElem_cons_zero]
            have hdr := below_drewn wr 1
            rw [← World.drew_is_drewN] at hdr
            generalize wr.drew = W at *
            refine wpAnyH_ready (rs := [2, 7]) (by kernel_rfl) (by simp) ?_
            refine AllReadyH.cons rfl (fun K hK => ?_) (AllReadyH.cons rfl (fun K hK => ?_) AllReadyH.nil)
            · go_simp
              have hba := below_alloc W (.cells #[] 22)
              have o0 : OS (W.alloc (.cells #[] 22)) wr.heap.size 22 1 (some ⟨W.heap.size, 0, none⟩) 0 0 (([] : List Sl).map slv) := OS.lit W wr.heap.size 22 1 0 #[] hdr.size rfl (by omega)
              have hb1 := hdr.trans (hba.mono hdr.size)
              refine hK.out _ _ (HL.out _ hb1) (fun hS1 => ?_)
              clear hK K hS hba
              generalize W.alloc (.cells #[] 22) = w1 at *
              generalize W.heap.size = g0 at *
              refine wpAnyH_ready (rs := [5, 7]) (by kernel_rfl) (by simp) ?_
              refine AllReadyH.cons rfl (fun K hK => ?_) (AllReadyH.cons rfl (fun K hK => ?_) AllReadyH.nil)
              · refine step_of_list (by rfl) ?_
                refine app_sls _ (by rfl) (.tmp 146) (.tmp 148) (by rfl) wr.heap.size _ 0 0 [] (by rfl) o0 D zss.length dc us (by rfl) hul.out (HU.out _ hb1) (by omega) hb1.size ?_
                intro A6 c6 w6 ho6 hg6 hf6
                refine list_onlyK ?_
                have hb6 := hb1.grown hg6 hb1.size (fun b hb => (o0.lt hb).1)
                rw [Nat.zero_add, List.nil_append] at ho6
                refine hK.out _ _ (HL.out _ hb6) (fun hS2 => ?_)
                clear hK K hS1
                refine wpAnyH_take (i := 6) (v := ?_) rfl (by kernel_rfl) (by kernel_rfl) (by kernel_rfl) (fun _ _ _ h => h) (Or.inl ⟨by rfl, ?_⟩) (by assumption) ?_
                rotate_left
                · (intro w hSw; (try dsimp only at hSw); go_simp; (try with_reducible rfl))
                simp only [Act.put, List.setIfInBounds_toArray, List.set_cons_zero, List.set_cons_succ]
                refine wpAnyH_ready (rs := [7]) (by kernel_rfl) (by simp) ?_
                refine AllReadyH.cons rfl (fun K hK => ?_) AllReadyH.nil
                go_simp
                have hba := below_alloc w6 (.cells #[.int .i64 0, .slice none 0 0] 56)
                have Y := Blk.new w6 56 #[.int .i64 0, .slice none 0 0]
                have hb7 := hb6.trans (hba.mono hb6.size)
                have hy := hb6.size
                refine hK.out _ _ (HL.out _ hb7) (fun hS3 => ?_)
                clear hK K hS2
                have ho7 := ho6.below hba
                generalize w6.alloc (.cells #[.int .i64 0, .slice none 0 0] 56) = w7 at *
                generalize w6.heap.size = y at *
                refine wpAnyH_done (by kernel_rfl) ?_ _
                dsimp only [atEnd]
                obtain ⟨y0, y1⟩ := Y.cells2
                have f0 := Y.frozen 0
                have f1 := Y.frozen 1
                go_wp2
                go_meet
                exact other_done hb7 Y hy ho7
              · go_simp
                have hba := below_alloc w1 (.cells #[.int .i64 0, .slice none 0 0] 56)
                have Y := Blk.new w1 56 #[.int .i64 0, .slice none 0 0]
                have hb2 := hb1.trans (hba.mono hb1.size)
                have hy := hb1.size
                refine hK.out _ _ (HL.out _ hb2) (fun hS2 => ?_)
                clear hK K hS1
                have o0 := o0.below hba
                generalize w1.alloc (.cells #[.int .i64 0, .slice none 0 0] 56) = w2 at *
                generalize w1.heap.size = y at *
                refine wpAnyH_ready (rs := [5]) (by kernel_rfl) (by simp) ?_
                refine AllReadyH.cons rfl (fun K hK => ?_) AllReadyH.nil
                refine step_of_list (by rfl) ?_
                refine app_sls _ (by rfl) (.tmp 146) (.tmp 148) (by rfl) wr.heap.size _ 0 0 [] (by rfl) o0 D zss.length dc us (by rfl) hul.out (HU.out _ hb2) (by omega) hb2.size ?_
                intro A6 c6 w6 ho6 hg6 hf6
                refine list_onlyK ?_
                have hb6 := hb2.grown hg6 hb2.size (fun b hb => (o0.lt hb).1)
                rw [Nat.zero_add, List.nil_append] at ho6
                refine hK.out _ _ (HL.out _ hb6) (fun hS3 => ?_)
                clear hK K hS2
                refine wpAnyH_take (i := 6) (v := ?_) rfl (by kernel_rfl) (by kernel_rfl) (by kernel_rfl) (fun _ _ _ h => h) (Or.inl ⟨by rfl, ?_⟩) (by assumption) ?_
                rotate_left
                · (intro w hSw; (try dsimp only at hSw); go_simp; (try with_reducible rfl))
                simp only [Act.put, List.setIfInBounds_toArray, List.set_cons_zero, List.set_cons_succ]
                have Y := Y.grown hg6 (fun e => OS.typed' o0 Y (by decide) e)
                refine wpAnyH_done (by kernel_rfl) ?_ _
                dsimp only [atEnd]
                obtain ⟨y0, y1⟩ := Y.cells2
                have f0 := Y.frozen 0
                have f1 := Y.frozen 1
                go_wp2
                go_meet
                exact other_done hb6 Y hy ho6
            · go_simp
              have hba := below_alloc W (.cells #[.int .i64 0, .slice none 0 0] 56)
              have Y := Blk.new W 56 #[.int .i64 0, .slice none 0 0]
              have hb1 := hdr.trans (hba.mono hdr.size)
              have hy := hdr.size
              refine hK.out _ _ (HL.out _ hb1) (fun hS1 => ?_)
              clear hK K hS hba
              generalize W.alloc (.cells #[.int .i64 0, .slice none 0 0] 56) = w1 at *
              generalize W.heap.size = y at *
              refine wpAnyH_ready (rs := [2]) (by kernel_rfl) (by simp) ?_
              refine AllReadyH.cons rfl (fun K hK => ?_) AllReadyH.nil
              go_simp
              have hba := below_alloc w1 (.cells #[] 22)
              have o0 : OS (w1.alloc (.cells #[] 22)) wr.heap.size 22 1 (some ⟨w1.heap.size, 0, none⟩) 0 0 (([] : List Sl).map slv) := OS.lit w1 wr.heap.size 22 1 0 #[] hb1.size rfl (by omega)
              have hb2 := hb1.trans (hba.mono hb1.size)
              refine hK.out _ _ (HL.out _ hb2) (fun hS2 => ?_)
              clear hK K hS1
              have Y := Y.after hba
              generalize w1.alloc (.cells #[] 22) = w2 at *
              generalize w1.heap.size = g0 at *
              refine wpAnyH_ready (rs := [5]) (by kernel_rfl) (by simp) ?_
              refine AllReadyH.cons rfl (fun K hK => ?_) AllReadyH.nil
              refine step_of_list (by rfl) ?_
              refine app_sls _ (by rfl) (.tmp 146) (.tmp 148) (by rfl) wr.heap.size _ 0 0 [] (by rfl) o0 D zss.length dc us (by rfl) hul.out (HU.out _ hb2) (by omega) hb2.size ?_
              intro A6 c6 w6 ho6 hg6 hf6
              refine list_onlyK ?_
              have hb6 := hb2.grown hg6 hb2.size (fun b hb => (o0.lt hb).1)
              rw [Nat.zero_add, List.nil_append] at ho6
              refine hK.out _ _ (HL.out _ hb6) (fun hS3 => ?_)
              clear hK K hS2
              refine wpAnyH_take (i := 6) (v := ?_) rfl (by kernel_rfl) (by kernel_rfl) (by kernel_rfl) (fun _ _ _ h => h) (Or.inl ⟨by rfl, ?_⟩) (by assumption) ?_
              rotate_left
              · (intro w hSw; (try dsimp only at hSw); go_simp; (try with_reducible rfl))
              simp only [Act.put, List.setIfInBounds_toArray, List.set_cons_zero, List.set_cons_succ]
              have Y := Y.grown hg6 (fun e => OS.typed' o0 Y (by decide) e)
              refine wpAnyH_done (by kernel_rfl) ?_ _
              dsimp only [atEnd]
              obtain ⟨y0, y1⟩ := Y.cells2
              have f0 := Y.frozen 0
              have f1 := Y.frozen 1
              go_wp2
              go_meet
              exact other_done hb6 Y hy ho6
          case rest =>
            obtain ⟨y, A6, c6, rfl, hwc, Yb, ho6, hy⟩ := hcut
            have hcap6 := ho6.cap
            have hw6 := hwr.trans (hwc.mono hwr.size)
            have hw7 := hw18.trans (hw6.mono hw18.size)
            clear x0 x1 y0 y1 HL HU
            obtain ⟨x0, x1⟩ := Yb.cells2
            by_cases hz : zss.length = 0
            · have hz2 : ((zss.length : Int) == 0) = true := by simp [hz]
              go_wp2
              go_ret
              exact ⟨rfl, hw7⟩
            · have hz1 : ¬ (zss.length : Int) = 0 := by omega
              have HS := Lib.hid (less_drop hD hm b400 (by omega))
              obtain ⟨g6, rfl, hg61, hg62⟩ := ho6.form (by omega)
              have e1 : some y ≠ blk (some ⟨g6, 0, none⟩) := OS.typed' ho6 Yb (by decide)
              have f1 := Yb.frozen 1
              have hgd := Id.b.lt
              by_cases hc1 : c6 = 1
              · have hz11 : zss.length = 1 := by omega
                have hbs := hwc.setCell (p := ⟨y, 1, none⟩) hy (.slice (some ⟨g6, 0, none⟩) 0 0)
                have Id := Id.keep hbs
                have hdr1 : zss.drop 1 = [] := List.drop_eq_nil_of_le (by omega)
                have hr7 : RR (wc.setCell ⟨y, 1, none⟩ (.slice (some ⟨g6, 0, none⟩) 0 0)) (some ⟨g6, 0, none⟩) 0 (zss.drop 1) := by rw [hdr1]; exact RS.nil_ _ _ _
                have Y7 : Blk (wc.setCell ⟨y, 1, none⟩ (.slice (some ⟨g6, 0, none⟩) 0 0)) y 56 #[.int .i64 pm, .slice (some ⟨g6, 0, none⟩) 0 0] := by simpa using Yb.set_ 1 (.slice (some ⟨g6, 0, none⟩) 0 0)
                have HI := impl_IsomorphicDesigns (pm : Int) D zss.length dc zss (pm : Int) _ 0 0 (zss.drop 1) 400 _ Id.r hr7 (by omega) (by omega)
                rw [hz11] at HI
                obtain ⟨x0, x1⟩ := Id.b.cells2
                obtain ⟨y0, y1⟩ := Y7.cells2
                have hbf := hw7.size
                go_wp2_with fail
                with_reducible refine HI.mono ?_
                rintro e w8 ⟨rfl, hb8⟩
                have hw8 := (hw18.trans ((hwr.trans (hbs.mono hwr.size)).mono hw18.size))
                have hw9 := hw8.trans (hb8.mono hw8.size)
                rcases HS.out with h5 | ⟨h5, h6⟩
                · rw [h5]
                  generalize dsgR (pm : Int) zss (pm : Int) (zss.drop 1) 400 = Rb at *
                  clear HS HI x0 x1 y0 y1
                  go_wp2
                  go_ret
                  exact ⟨rfl, hw9⟩
                · rw [h5, h6]
                  clear HS HI x0 x1 y0 y1
                  go_wp2
                  go_ret
                  exact ⟨rfl, hw9⟩
              · have h1c : 1 < c6 := by omega
                have hbs := hwc.setCell (p := ⟨y, 1, none⟩) hy (.slice (some ⟨g6, 1, none⟩) (zss.length - 1) (c6 - 1))
                have Id := Id.keep hbs
                have ho7 := ho6.kept (grown_set (p := 1) (u := .slice (some ⟨g6, 1, none⟩) (zss.length - 1) (c6 - 1))) (.inr fun e => e1 e.symm)
                have hr7 := (rows_RR ho7 (hus.keep hbs) rfl).drop_ (k := 1) (by omega)
                rw [Addr.add_lit, Nat.zero_add] at hr7
                have Y7 : Blk (wc.setCell ⟨y, 1, none⟩ (.slice (some ⟨g6, 1, none⟩) (zss.length - 1) (c6 - 1))) y 56 #[.int .i64 pm, .slice (some ⟨g6, 1, none⟩) (zss.length - 1) (c6 - 1)] := by simpa using Yb.set_ 1 (.slice (some ⟨g6, 1, none⟩) (zss.length - 1) (c6 - 1))
                have HI := impl_IsomorphicDesigns (pm : Int) D zss.length dc zss (pm : Int) _ (zss.length - 1) (c6 - 1) (zss.drop 1) 400 _ Id.r hr7 (by omega) (by omega)
                obtain ⟨x0, x1⟩ := Id.b.cells2
                obtain ⟨y0, y1⟩ := Y7.cells2
                have hbf := hw7.size
                go_wp2_with fail
                with_reducible refine HI.mono ?_
                rintro e w8 ⟨rfl, hb8⟩
                have hw8 := (hw18.trans ((hwr.trans (hbs.mono hwr.size)).mono hw18.size))
                have hw9 := hw8.trans (hb8.mono hw8.size)
                rcases HS.out with h5 | ⟨h5, h6⟩
                · rw [h5]
                  generalize dsgR (pm : Int) zss (pm : Int) (zss.drop 1) 400 = Rb at *
                  clear HS HI x0 x1 y0 y1
                  go_wp2
                  go_ret
                  exact ⟨rfl, hw9⟩
                · rw [h5, h6]
                  clear HS HI x0 x1 y0 y1
                  go_wp2
                  go_ret
                  exact ⟨rfl, hw9⟩
  · have k5 := hce.trans h5
    have HC := Lib.hid (fun W (h : RR W D zss.length zss) => canon_err V D zss.length dc zss W h (by omega) h5)
    have HE := Lib.hid (fun W (h : RR W E zss.length (imgD p zss)) => canon_err V E zss.length ec (imgD p zss) W h (by omega) k5)
    clear hce h5 k5
    go_wp2_with fail
    clear x0 x1
    generalize w3.alloc (.cells #[.int .i64 (V : Int), .slice E zss.length ec] 56) = W4 at *
    generalize w3.heap.size = ge at *
    refine (HC.out W4 Id.r).mono ?_
    rintro e w5 ⟨CA, cn, cc, P, pm, pd, rfl, hb5⟩
    have hba := below_alloc w5 (.cells #[.int .i64 0, .slice CA cn cc] 56)
    have Ie := (Ie.keep hb5).keep hba
    have hw6 := hw4.trans ((hb5.trans (hba.mono hb5.size)).mono hw4.size)
    obtain ⟨x0, x1⟩ := Ie.b.cells2
    clear hb5 hba hw4
    go_wp2_with fail
    clear x0 x1
    generalize w5.alloc (.cells #[.int .i64 0, .slice CA cn cc] 56) = W6 at *
    generalize w5.heap.size = gx at *
    refine (HE.out W6 Ie.r).mono ?_
    rintro e w7 ⟨YA, yn, yc, YP, ym, yd, rfl, hb7⟩
    have hw8 := hw6.trans ((hb7.trans ((below_alloc w7 (.cells #[.int .i64 0, .slice YA yn yc] 56)).mono hb7.size)).mono hw6.size)
    go_wp2
    go_ret
    exact ⟨rfl, hw8⟩
set_option maxRecDepth 100000 in
theorem law_Isomorphic (A : Option Addr) (n c : Nat) (zs : List Int) (B : Option Addr) (m d : Nat) (ys : List Int) (w : World) (ha : RS EByte w A n zs) (hn : n ≤ c) (hc : c ≤ 9223372036854775807) (hb : RS EByte w B m ys) (hm : m ≤ d) (hd : d ≤ 9223372036854775807) :
    Calls Tryz.prog 6 #[.slice A n c, .slice B m d] w fun e w' => e = .returned (.bool true) ∧ Below w.heap.size w w' := by
  by_cases h1 : n ≤ 1048576
  · by_cases h2 : m ≤ 1048576
    · exact law_Isomorphic_ok A n c zs B m d ys w ha h1 hb h2
    · go_enter Tryz.func6, Tryz.ntmps6
      go_wp2_with fail
      refine (v8Long_two A n c B m d _ h1 (by omega)).mono ?_
      rintro e w' ⟨rfl, rfl⟩
      go_wp2
      go_ret
      exact ⟨rfl, Below.refl _ _⟩
  · go_enter Tryz.func6, Tryz.ntmps6
    go_wp2_with fail
    refine (v8Long_one A n c B m d _ (by omega)).mono ?_
    rintro e w' ⟨rfl, rfl⟩
    go_wp2
    go_ret
    exact ⟨rfl, Below.refl _ _⟩
end Go.Proofs.YtdkbcjdimhgmnaaGreat
