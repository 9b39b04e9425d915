/- Two searches, both sides; whether two graphs are isomorphic. No condition beyond those stated. -/
import Derived.Test.YtjgihhnplckjoaaGreatGV
import Derived.Test.YtjgihhnplckjoaaGreatGY
import Derived.Deep.RegionHeldLaw
import Derived.Test.YtjgihhnplckjoaaGreatGC
import Derived.Deep.RegionHeld3
set_option linter.unusedVariables false
set_option linter.unusedSimpArgs false
namespace Go.Proofs.YtjgihhnplckjoaaGreat
open Go.RowKit

/-- the code of two searches -/
noncomputable def code2P (cs : List Int) (es : List Ed) (ds : List Int) (fs : List Ed) (b : Int) : Int := if tB (GraphOk cs es) && tB (GraphOk ds fs) then (if codeP cs es b ≠ 0 then codeP cs es b else codeP ds fs b) else 1
theorem code2_no1 {cs : List Int} {es : List Ed} (ds : List Int) (fs : List Ed) (b : Int) (h : ¬ GraphOk cs es) : code2P cs es ds fs b = 1 := by rw [code2P, tB_no h]; simp
theorem code2_no2 (cs : List Int) (es : List Ed) {ds : List Int} {fs : List Ed} (b : Int) (h : ¬ GraphOk ds fs) : code2P cs es ds fs b = 1 := by rw [code2P, tB_no h]; simp
theorem code2_ne {cs : List Int} {es : List Ed} {ds : List Int} {fs : List Ed} {b : Int} (h : GraphOk cs es) (k : GraphOk ds fs) (h1 : codeP cs es b ≠ 0) : code2P cs es ds fs b = codeP cs es b := by rw [code2P, tB_yes h, tB_yes k]; simp [h1]
theorem code2_eq {cs : List Int} {es : List Ed} {ds : List Int} {fs : List Ed} {b : Int} (h : GraphOk cs es) (k : GraphOk ds fs) (h1 : codeP cs es b = 0) : code2P cs es ds fs b = codeP ds fs b := by rw [code2P, tB_yes h, tB_yes k]; simp [h1]
theorem code2_zero {cs : List Int} {es : List Ed} {ds : List Int} {fs : List Ed} {b : Int} (h : code2P cs es ds fs b = 0) : GraphOk cs es ∧ GraphOk ds fs ∧ codeP cs es b = 0 ∧ codeP ds fs b = 0 := by
  by_cases h1 : GraphOk cs es
  · by_cases h2 : GraphOk ds fs
    · by_cases h3 : codeP cs es b = 0
      · rw [code2_eq h1 h2 h3] at h
        exact ⟨h1, h2, h3, h⟩
      · rw [code2_ne h1 h2 h3] at h
        exact absurd h h3
    · rw [code2_no2 cs es b h2] at h; cases h
  · rw [code2_no1 ds fs b h1] at h; cases h
theorem codeP_ok {cs : List Int} {es : List Ed} {b : Int} (h : codeP cs es b = 0) : (runP cs es b.toNat).spent = false ∧ GraphOk cs es ∧ b.toNat ≤ 20000 := by
  unfold codeP at h
  cases h1 : tB (GraphOk cs es) with
  | false => rw [h1] at h; simp at h
  | true =>
    cases h2 : inB b 1 20000 with
    | false => rw [h1, h2] at h; simp at h
    | true =>
      cases h3 : (runP cs es b.toNat).spent with
      | true => rw [h1, h2, h3] at h; simp at h
      | false => exact ⟨rfl, tB_true.1 h1, by have := inB_true h2; omega⟩
/-- a search's state, the program's -/
def OneX (w w' : World) (v : Option Addr) (A : Option Addr) (n c : Nat) (F : Option Addr) (m d : Nat) (s : St) : Prop := ∃ w0 : World, v = some ⟨w0.heap.size, 0, none⟩ ∧ Below w.heap.size w w0 ∧ ∃ N cN BA bn bc FA fn fk FF fm fd, XS w0 w' A n c F m d N n cN BA bn bc FA fn fk FF fm fd s
/-- .. the reference's -/
def OneF (w w' : World) (v : Option Addr) (A : Option Addr) (n c : Nat) (F : Option Addr) (m d : Nat) (s : St) : Prop := ∃ w0 : World, v = some ⟨w0.heap.size, 0, none⟩ ∧ Below w.heap.size w w0 ∧ ∃ N cN BA bn bc FA fn fk FF fm fd, RFd w0 w' A n c F m d N n cN BA bn bc FA fn fk FF fm fd s
theorem OneX.step {w w' w'' : World} {v : Option Addr} {A : Option Addr} {n c : Nat} {F : Option Addr} {m d : Nat} {s : St} (h : OneX w w' v A n c F m d s) (hb : Below w'.heap.size w' w'') : OneX w w'' v A n c F m d s := by
  obtain ⟨w0, h1, h2, N, cN, BA, bn, bc, FA, fn, fk, FF, fm, fd, hX⟩ := h
  exact ⟨w0, h1, h2, N, cN, BA, bn, bc, FA, fn, fk, FF, fm, fd, hX.step hb⟩
theorem OneX.from {w w' w1 : World} {v : Option Addr} {A : Option Addr} {n c : Nat} {F : Option Addr} {m d : Nat} {s : St} (h : OneX w w' v A n c F m d s) (hb : Below w1.heap.size w1 w) : OneX w1 w' v A n c F m d s := by
  obtain ⟨w0, h1, h2, r⟩ := h
  exact ⟨w0, h1, hb.trans (h2.mono hb.size), r⟩
theorem OneF.step {w w' w'' : World} {v : Option Addr} {A : Option Addr} {n c : Nat} {F : Option Addr} {m d : Nat} {s : St} (h : OneF w w' v A n c F m d s) (hb : Below w'.heap.size w' w'') : OneF w w'' v A n c F m d s := by
  obtain ⟨w0, h1, h2, N, cN, BA, bn, bc, FA, fn, fk, FF, fm, fd, hX⟩ := h
  exact ⟨w0, h1, h2, N, cN, BA, bn, bc, FA, fn, fk, FF, fm, fd, hX.step hb⟩
theorem OneF.from {w w' w1 : World} {v : Option Addr} {A : Option Addr} {n c : Nat} {F : Option Addr} {m d : Nat} {s : St} (h : OneF w w' v A n c F m d s) (hb : Below w1.heap.size w1 w) : OneF w1 w' v A n c F m d s := by
  obtain ⟨w0, h1, h2, r⟩ := h
  exact ⟨w0, h1, hb.trans (h2.mono hb.size), r⟩
theorem RetY.one {w w' : World} {A : Option Addr} {n c : Nat} {F : Option Addr} {m d : Nat} {cs : List Int} {es : List Ed} {b : Int} {e : Ending} (h : RetY w A n c F m d cs es b e w') :
    Below w.heap.size w w' ∧ ∃ v, e = .returned (.tuple #[.pointer v, .int .i64 (codeP cs es b)]) ∧ (codeP cs es b = 0 → OneX w w' v A n c F m d (runP cs es b.toNat)) := by
  obtain ⟨h1, v, h2, h3⟩ := h
  refine ⟨h1, v, h2, fun h0 => ?_⟩
  obtain ⟨w0, h4, h5, _, _, _, h6⟩ := h3 h0
  exact ⟨w0, h4, h5, h6⟩
theorem RetT.one {w w' : World} {A : Option Addr} {n c : Nat} {F : Option Addr} {m d : Nat} {cs : List Int} {es : List Ed} {b : Int} {e : Ending} (h : RetT w A n c F m d cs es b e w') :
    Below w.heap.size w w' ∧ ∃ v, e = .returned (.tuple #[.pointer v, .int .i64 (codeP cs es b)]) ∧ (codeP cs es b = 0 → OneF w w' v A n c F m d (runP cs es b.toNat)) := by
  obtain ⟨h1, v, h2, h3⟩ := h
  refine ⟨h1, v, h2, fun h0 => ?_⟩
  obtain ⟨w0, h4, h5, _, _, _, h6⟩ := h3 h0
  exact ⟨w0, h4, h5, h6⟩
/-- what two searches hand back -/
def Ret2X (w : World) (A : Option Addr) (n c : Nat) (F : Option Addr) (m d : Nat) (cs : List Int) (es : List Ed) (A' : Option Addr) (n' c' : Nat) (F' : Option Addr) (m' d' : Nat) (ds : List Int) (fs : List Ed) (b : Int) (e : Ending) (w' : World) : Prop :=
  Below w.heap.size w w' ∧ ∃ v u, e = .returned (.tuple #[.pointer v, .pointer u, .int .i64 (code2P cs es ds fs b)]) ∧ (code2P cs es ds fs b = 0 → OneX w w' v A n c F m d (runP cs es b.toNat) ∧ OneX w w' u A' n' c' F' m' d' (runP ds fs b.toNat))
def Ret2F (w : World) (A : Option Addr) (n c : Nat) (F : Option Addr) (m d : Nat) (cs : List Int) (es : List Ed) (A' : Option Addr) (n' c' : Nat) (F' : Option Addr) (m' d' : Nat) (ds : List Int) (fs : List Ed) (b : Int) (e : Ending) (w' : World) : Prop :=
  Below w.heap.size w w' ∧ ∃ v u, e = .returned (.tuple #[.pointer v, .pointer u, .int .i64 (code2P cs es ds fs b)]) ∧ (code2P cs es ds fs b = 0 → OneF w w' v A n c F m d (runP cs es b.toNat) ∧ OneF w w' u A' n' c' F' m' d' (runP ds fs b.toNat))
set_option maxRecDepth 100000 in
set_option maxHeartbeats 4000000 in
theorem bothExplored_any (w : World) (A : Option Addr) (n c : Nat) (F : Option Addr) (m d : Nat) (cs : List Int) (es : List Ed) (A' : Option Addr) (n' c' : Nat) (F' : Option Addr) (m' d' : Nat) (ds : List Int) (fs : List Ed) (b : Int) (hG : RG w A n F m cs es) (hH : RG w A' n' F' m' ds fs) (hn : n ≤ 9223372036854775807) (hm : m ≤ 9223372036854775807) (hn' : n' ≤ 9223372036854775807) (hm' : m' ≤ 9223372036854775807) :
    Calls Tryz.prog 45 #[.agg #[.slice A n c, .slice F m d], .agg #[.slice A' n' c', .slice F' m' d'], .int .i64 b] w (Ret2X w A n c F m d cs es A' n' c' F' m' d' ds fs b) := by
  have hb1 := below_then (below_alloc w (.cells #[.slice A n c, .slice F m d] 31)) (below_alloc _ (.cells #[.slice A' n' c', .slice F' m' d'] 31))
  have X := (Blk.new w 31 #[.slice A n c, .slice F m d]).alloc (.cells #[.slice A' n' c', .slice F' m' d'] 31)
  have Y : Blk ((w.alloc (.cells #[.slice A n c, .slice F m d] 31)).alloc (.cells #[.slice A' n' c', .slice F' m' d'] 31)) (w.heap.size + 1) 31 #[.slice A' n' c', .slice F' m' d'] := by
    have := Blk.new (w.alloc (.cells #[.slice A n c, .slice F m d] 31)) 31 #[.slice A' n' c', .slice F' m' d']
    simpa using this
  have hG1 := hG.keep hb1
  have hH1 := hH.keep hb1
  generalize hW1 : (w.alloc (.cells #[.slice A n c, .slice F m d] 31)).alloc (.cells #[.slice A' n' c', .slice F' m' d'] 31) = W1 at *
  have hv1 := validGraph_any A n c F m d cs es W1 hG1 hn hm
  have HV2 := Lib.hid (fun (W' : World) (hb : Below W1.heap.size W1 W') => validGraph_any A' n' c' F' m' d' ds fs W' (hH1.keep hb) hn' hm')
  have HX1 := Lib.hid (fun (W' : World) (hb : Below W1.heap.size W1 W') => explored_any' W' A n c F m d cs es b (hG1.keep hb) hn hm)
  have HX2 := Lib.hid (fun (W' : World) (hb : Below W1.heap.size W1 W') => explored_any' W' A' n' c' F' m' d' ds fs b (hH1.keep hb) hn' hm')
  obtain ⟨x0, x1⟩ := X.cells2
  obtain ⟨y0, y1⟩ := Y.cells2
  by_cases hg : GraphOk cs es
  · rw [tB_yes hg] at hv1
    by_cases hh : GraphOk ds fs
    · have HB := Lib.hid (tB_yes hh)
      rcases codeP_cases cs es b with h0 | ⟨h0, h1⟩
      · have HC := Lib.hid (code2_eq hg hh h0)
        have H0 := Lib.hid h0
        clear hg hh h0
        go_enter Tryz.func45, Tryz.ntmps45
        go_wp2_with fail
        refine hv1.mono ?_
        rintro e w2 ⟨rfl, hb2⟩
        have y0' := below_cell hb2 y0
        have y1' := below_cell hb2 y1
        go_wp2_with fail
        clear y0' y1'
        refine (HV2.out w2 hb2).mono ?_
        rintro e w3 ⟨rfl, hb3⟩
        rw [HB.out]
        have hb3 := hb2.trans (hb3.mono hb2.size)
        have x0' := below_cell hb3 x0
        have x1' := below_cell hb3 x1
        go_wp2_with fail
        clear x0' x1'
        refine (HX1.out w3 hb3).mono ?_
        rintro e w4 h4
        obtain ⟨hb4, v, rfl, hv4⟩ := h4.one
        have O4 := hv4 H0.out
        rw [H0.out]
        have hb4 := hb3.trans (hb4.mono hb3.size)
        have y0' := below_cell hb4 y0
        have y1' := below_cell hb4 y1
        have HO4 := Lib.hid O4
        clear hv4 h4 O4
        go_wp2_with fail
        clear y0' y1'
        refine (HX2.out w4 hb4).mono ?_
        rintro e w5 h5
        obtain ⟨hb5, u, rfl, hv5⟩ := h5.one
        have HO5 := Lib.hid hv5
        clear hv5 h5
        go_wp2
        go_ret3
        refine ⟨hb1.trans ((hb4.trans (hb5.mono hb4.size)).mono hb1.size), v, u, by rw [HC.out]; rfl, fun h => ?_⟩
        rw [HC.out] at h
        exact ⟨(HO4.out.from (hb1.trans (hb3.mono hb1.size))).step hb5, (HO5.out h).from (hb1.trans (hb4.mono hb1.size))⟩
      · have HC := Lib.hid (code2_ne hg hh h0)
        have H0 := Lib.hid h0
        clear hg hh h0
        go_enter Tryz.func45, Tryz.ntmps45
        go_wp2_with fail
        refine hv1.mono ?_
        rintro e w2 ⟨rfl, hb2⟩
        have y0' := below_cell hb2 y0
        have y1' := below_cell hb2 y1
        go_wp2_with fail
        clear y0' y1'
        refine (HV2.out w2 hb2).mono ?_
        rintro e w3 ⟨rfl, hb3⟩
        rw [HB.out]
        have hb3 := hb2.trans (hb3.mono hb2.size)
        have x0' := below_cell hb3 x0
        have x1' := below_cell hb3 x1
        go_wp2_with fail
        clear x0' x1'
        refine (HX1.out w3 hb3).mono ?_
        rintro e w4 h4
        obtain ⟨hb4, v, rfl, -⟩ := h4.one
        have hb4 := hb3.trans (hb4.mono hb3.size)
        clear h4
        go_wp2
        go_ret3
        refine ⟨hb1.trans (hb4.mono hb1.size), none, none, by rw [HC.out]; rfl, fun h => ?_⟩
        rw [HC.out] at h
        exact absurd h H0.out
    · have HB := Lib.hid (tB_no hh)
      have HC := Lib.hid (code2_no2 cs es b hh)
      clear hg hh
      go_enter Tryz.func45, Tryz.ntmps45
      go_wp2_with fail
      refine hv1.mono ?_
      rintro e w2 ⟨rfl, hb2⟩
      have y0' := below_cell hb2 y0
      have y1' := below_cell hb2 y1
      go_wp2_with fail
      clear y0' y1'
      refine (HV2.out w2 hb2).mono ?_
      rintro e w3 ⟨rfl, hb3⟩
      rw [HB.out]
      have hb3 := hb2.trans (hb3.mono hb2.size)
      go_wp2
      go_ret3
      refine ⟨hb1.trans (hb3.mono hb1.size), none, none, by rw [HC.out]; rfl, fun h => ?_⟩
      rw [HC.out] at h
      cases h
  · rw [tB_no hg] at hv1
    have HC := Lib.hid (code2_no1 ds fs b hg)
    clear hg
    go_enter Tryz.func45, Tryz.ntmps45
    go_wp2_with fail
    refine hv1.mono ?_
    rintro e w2 ⟨rfl, hb2⟩
    go_wp2
    go_ret3
    refine ⟨hb1.trans (hb2.mono hb1.size), none, none, by rw [HC.out]; rfl, fun h => ?_⟩
    rw [HC.out] at h
    cases h
set_option maxRecDepth 100000 in
set_option maxHeartbeats 4000000 in
theorem l22Two_any (w : World) (A : Option Addr) (n c : Nat) (F : Option Addr) (m d : Nat) (cs : List Int) (es : List Ed) (A' : Option Addr) (n' c' : Nat) (F' : Option Addr) (m' d' : Nat) (ds : List Int) (fs : List Ed) (b : Int) (hG : RG w A n F m cs es) (hH : RG w A' n' F' m' ds fs) (hn : n ≤ 9223372036854775807) (hm : m ≤ 9223372036854775807) (hn' : n' ≤ 9223372036854775807) (hm' : m' ≤ 9223372036854775807) :
    Calls Tryz.prog 43 #[.agg #[.slice A n c, .slice F m d], .agg #[.slice A' n' c', .slice F' m' d'], .int .i64 b] w (Ret2F w A n c F m d cs es A' n' c' F' m' d' ds fs b) := by
  have hb1 := below_then (below_alloc w (.cells #[.slice A n c, .slice F m d] 31)) (below_alloc _ (.cells #[.slice A' n' c', .slice F' m' d'] 31))
  have X := (Blk.new w 31 #[.slice A n c, .slice F m d]).alloc (.cells #[.slice A' n' c', .slice F' m' d'] 31)
  have Y : Blk ((w.alloc (.cells #[.slice A n c, .slice F m d] 31)).alloc (.cells #[.slice A' n' c', .slice F' m' d'] 31)) (w.heap.size + 1) 31 #[.slice A' n' c', .slice F' m' d'] := by
    have := Blk.new (w.alloc (.cells #[.slice A n c, .slice F m d] 31)) 31 #[.slice A' n' c', .slice F' m' d']
    simpa using this
  have hG1 := hG.keep hb1
  have hH1 := hH.keep hb1
  generalize hW1 : (w.alloc (.cells #[.slice A n c, .slice F m d] 31)).alloc (.cells #[.slice A' n' c', .slice F' m' d'] 31) = W1 at *
  have hv1 := l21Ok_any A n c F m d cs es W1 hG1 hn hm
  have HV2 := Lib.hid (fun (W' : World) (hb : Below W1.heap.size W1 W') => l21Ok_any A' n' c' F' m' d' ds fs W' (hH1.keep hb) hn' hm')
  have HX1 := Lib.hid (fun (W' : World) (hb : Below W1.heap.size W1 W') => l22Start_any W' A n c F m d cs es b (hG1.keep hb) hn hm)
  have HX2 := Lib.hid (fun (W' : World) (hb : Below W1.heap.size W1 W') => l22Start_any W' A' n' c' F' m' d' ds fs b (hH1.keep hb) hn' hm')
  obtain ⟨x0, x1⟩ := X.cells2
  obtain ⟨y0, y1⟩ := Y.cells2
  by_cases hg : GraphOk cs es
  · rw [tB_yes hg] at hv1
    by_cases hh : GraphOk ds fs
    · have HB := Lib.hid (tB_yes hh)
      rcases codeP_cases cs es b with h0 | ⟨h0, h1⟩
      · have HC := Lib.hid (code2_eq hg hh h0)
        have H0 := Lib.hid h0
        clear hg hh h0
        go_enter Tryz.func43, Tryz.ntmps43
        go_wp2_with fail
        refine hv1.mono ?_
        rintro e w2 ⟨rfl, hb2⟩
        have y0' := below_cell hb2 y0
        have y1' := below_cell hb2 y1
        go_wp2_with fail
        clear y0' y1'
        refine (HV2.out w2 hb2).mono ?_
        rintro e w3 ⟨rfl, hb3⟩
        rw [HB.out]
        have hb3 := hb2.trans (hb3.mono hb2.size)
        have x0' := below_cell hb3 x0
        have x1' := below_cell hb3 x1
        go_wp2_with fail
        clear x0' x1'
        refine (HX1.out w3 hb3).mono ?_
        rintro e w4 h4
        obtain ⟨hb4, v, rfl, hv4⟩ := h4.one
        have O4 := hv4 H0.out
        rw [H0.out]
        have hb4 := hb3.trans (hb4.mono hb3.size)
        have y0' := below_cell hb4 y0
        have y1' := below_cell hb4 y1
        have HO4 := Lib.hid O4
        clear hv4 h4 O4
        go_wp2_with fail
        clear y0' y1'
        refine (HX2.out w4 hb4).mono ?_
        rintro e w5 h5
        obtain ⟨hb5, u, rfl, hv5⟩ := h5.one
        have HO5 := Lib.hid hv5
        clear hv5 h5
        go_wp2
        go_ret3
        refine ⟨hb1.trans ((hb4.trans (hb5.mono hb4.size)).mono hb1.size), v, u, by rw [HC.out]; rfl, fun h => ?_⟩
        rw [HC.out] at h
        exact ⟨(HO4.out.from (hb1.trans (hb3.mono hb1.size))).step hb5, (HO5.out h).from (hb1.trans (hb4.mono hb1.size))⟩
      · have HC := Lib.hid (code2_ne hg hh h0)
        have H0 := Lib.hid h0
        clear hg hh h0
        go_enter Tryz.func43, Tryz.ntmps43
        go_wp2_with fail
        refine hv1.mono ?_
        rintro e w2 ⟨rfl, hb2⟩
        have y0' := below_cell hb2 y0
        have y1' := below_cell hb2 y1
        go_wp2_with fail
        clear y0' y1'
        refine (HV2.out w2 hb2).mono ?_
        rintro e w3 ⟨rfl, hb3⟩
        rw [HB.out]
        have hb3 := hb2.trans (hb3.mono hb2.size)
        have x0' := below_cell hb3 x0
        have x1' := below_cell hb3 x1
        go_wp2_with fail
        clear x0' x1'
        refine (HX1.out w3 hb3).mono ?_
        rintro e w4 h4
        obtain ⟨hb4, v, rfl, -⟩ := h4.one
        have hb4 := hb3.trans (hb4.mono hb3.size)
        clear h4
        go_wp2
        go_ret3
        refine ⟨hb1.trans (hb4.mono hb1.size), v, v, by rw [HC.out]; rfl, fun h => ?_⟩
        rw [HC.out] at h
        exact absurd h H0.out
    · have HB := Lib.hid (tB_no hh)
      have HC := Lib.hid (code2_no2 cs es b hh)
      clear hg hh
      go_enter Tryz.func43, Tryz.ntmps43
      go_wp2_with fail
      refine hv1.mono ?_
      rintro e w2 ⟨rfl, hb2⟩
      have y0' := below_cell hb2 y0
      have y1' := below_cell hb2 y1
      go_wp2_with fail
      clear y0' y1'
      refine (HV2.out w2 hb2).mono ?_
      rintro e w3 ⟨rfl, hb3⟩
      rw [HB.out]
      have hb3 := hb2.trans (hb3.mono hb2.size)
      have hw3 := hb1.trans (hb3.mono hb1.size)
      go_wp2
      go_ret3
      refine ⟨(hw3.alloc hw3.size _).alloc (by simp; have := hw3.size; omega) _, _, _, by rw [HC.out]; rfl, fun h => ?_⟩
      rw [HC.out] at h
      cases h
  · rw [tB_no hg] at hv1
    have HC := Lib.hid (code2_no1 ds fs b hg)
    clear hg
    go_enter Tryz.func43, Tryz.ntmps43
    go_wp2_with fail
    refine hv1.mono ?_
    rintro e w2 ⟨rfl, hb2⟩
    have hw2 := hb1.trans (hb2.mono hb1.size)
    go_wp2
    go_ret3
    refine ⟨(hw2.alloc hw2.size _).alloc (by simp; have := hw2.size; omega) _, _, _, by rw [HC.out]; rfl, fun h => ?_⟩
    rw [HC.out] at h
    cases h
/-- whether the forms of two searches are the same -/
def sameP (s t : St) : Bool := sameG s.fc s.fe t.fc t.fe
noncomputable def isoP (cs : List Int) (es : List Ed) (ds : List Int) (fs : List Ed) (b : Int) : Bool := if code2P cs es ds fs b = 0 then sameP (runP cs es b.toNat) (runP ds fs b.toNat) else false
theorem code2_cases (cs : List Int) (es : List Ed) (ds : List Int) (fs : List Ed) (b : Int) : code2P cs es ds fs b = 0 ∨ (code2P cs es ds fs b ≠ 0 ∧ (code2P cs es ds fs b != 0) = true) := by
  by_cases h : code2P cs es ds fs b = 0
  · exact .inl h
  · exact .inr ⟨h, by simp [h]⟩
set_option maxRecDepth 100000 in
set_option maxHeartbeats 2000000 in
theorem impl_IsomorphicGraphs (A : Option Addr) (n c : Nat) (F : Option Addr) (m d : Nat) (cs : List Int) (es : List Ed) (A' : Option Addr) (n' c' : Nat) (F' : Option Addr) (m' d' : Nat) (ds : List Int) (fs : List Ed) (b : Int) (w : World) (hG : RG w A n F m cs es) (hH : RG w A' n' F' m' ds fs) (hn : n ≤ 9223372036854775807) (hm : m ≤ 9223372036854775807) (hn' : n' ≤ 9223372036854775807) (hm' : m' ≤ 9223372036854775807) :
    Calls Tryz.prog 18 #[.agg #[.slice A n c, .slice F m d], .agg #[.slice A' n' c', .slice F' m' d'], .int .i64 b] w (fun e w' => e = .returned (.tuple #[.bool (isoP cs es ds fs b), .int .i64 (code2P cs es ds fs b)]) ∧ Below w.heap.size w w') := by
  have hb1 := below_then (below_alloc w (.cells #[.slice A n c, .slice F m d] 31)) (below_alloc _ (.cells #[.slice A' n' c', .slice F' m' d'] 31))
  have hx := bothExplored_any _ A n c F m d cs es A' n' c' F' m' d' ds fs b (hG.keep hb1) (hH.keep hb1) hn hm hn' hm'
  rcases code2_cases cs es ds fs b with h0 | ⟨h0, h1⟩
  · have HC := Lib.hid h0
    have HR := Lib.hid (show isoP cs es ds fs b = sameG (runP cs es b.toNat).fc (runP cs es b.toNat).fe (runP ds fs b.toNat).fc (runP ds fs b.toNat).fe by rw [isoP, if_pos h0]; rfl)
    clear h0
    obtain ⟨ii, hi, hi0, hi1, hi2⟩ := info_parts graph_info
    go_enter Tryz.func18, Tryz.ntmps18
    go_wp2_with fail
    refine hx.mono ?_
    rintro e w2 ⟨hb2, v, u, rfl, hv⟩
    obtain ⟨hX, hY⟩ := hv HC.out
    obtain ⟨w0, rfl, hb0, N, cN, BA, bn, bc, FA, fn, fk, FF, fm, fd, hX⟩ := hX
    obtain ⟨w0', rfl, hb0', N', cN', BA', bn', bc', FA', fn', fk', FF', fm', fd', hY⟩ := hY
    rw [HC.out]
    have p7 := hX.cells.2.2.2.1
    have p8 := hX.cells.2.2.2.2.1
    have q7 := hY.cells.2.2.2.1
    have q8 := hY.cells.2.2.2.2.1
    have l1 := hX.sb.fc.len
    have l2 := hX.sb.fe.len
    have l3 := hY.sb.fc.len
    have l4 := hY.sb.fe.len
    have l5 := hX.sb.lc
    have l6 := hX.sb.le_
    have l7 := hY.sb.lc
    have l8 := hY.sb.le_
    have rX := RG.mk hX.sb.fc.reads hX.sb.fe.reads
    have rY := RG.mk hY.sb.fc.reads hY.sb.fe.reads
    have HSm := Lib.hid (fun (W' : World) (hb : Below w2.heap.size w2 W') => sameGraph_any FA fn fk FF fm fd _ _ FA' fn' fk' FF' fm' fd' _ _ W' (rX.keep hb) (rY.keep hb) (by omega) (by omega) (by omega) (by omega))
    clear hv hX hY rX rY l1 l2 l3 l4 l5 l6 l7 l8 hx
    generalize runP cs es b.toNat = s1 at *
    generalize runP ds fs b.toNat = s2 at *
    go_wp2
    go_region_held_law (fun w' => Below w2.heap.size w2 w' ∧ w'.cell? ⟨w0.heap.size, 7, none⟩ = some (.slice FA fn fk) ∧ w'.cell? ⟨w0.heap.size, 8, none⟩ = some (.slice FF fm fd) ∧ w'.cell? ⟨w0'.heap.size, 7, none⟩ = some (.slice FA' fn' fk') ∧ w'.cell? ⟨w0'.heap.size, 8, none⟩ = some (.slice FF' fm' fd'))
      (first | exact keep4 (below_drewn _ 1) p7 p8 q7 q8 | exact keep4 (by assumption) p7 p8 q7 q8)
      (first | (go_at_call 46; (with_reducible refine (HSm.out _ ?_).mono ?_); (exact below_drewn _ 1); rintro e w4 ⟨rfl, hb4⟩; have hX4 : Below w2.heap.size w2 w4 := (below_drewn _ 1).trans (hb4.mono (Nat.le_refl _))))
    go_wp2
    go_ret2
    exact ⟨by rw [HR.out, HC.out]; rfl, (hb1.trans (hb2.mono hb1.size)).trans (hX4.mono (Nat.le_trans hb1.size hb2.size))⟩
  · have HC := Lib.hid h0
    have HR := Lib.hid (show isoP cs es ds fs b = false by rw [isoP, if_neg h0])
    clear h0
    go_enter Tryz.func18, Tryz.ntmps18
    go_wp2_with fail
    refine hx.mono ?_
    rintro e w2 ⟨hb2, v, u, rfl, -⟩
    go_wp2
    go_ret2
    exact ⟨by rw [HR.out]; rfl, hb1.trans (hb2.mono hb1.size)⟩
set_option maxRecDepth 100000 in
set_option maxHeartbeats 2000000 in
theorem spec_IsomorphicGraphs (A : Option Addr) (n c : Nat) (F : Option Addr) (m d : Nat) (cs : List Int) (es : List Ed) (A' : Option Addr) (n' c' : Nat) (F' : Option Addr) (m' d' : Nat) (ds : List Int) (fs : List Ed) (b : Int) (w : World) (hG : RG w A n F m cs es) (hH : RG w A' n' F' m' ds fs) (hn : n ≤ 9223372036854775807) (hm : m ≤ 9223372036854775807) (hn' : n' ≤ 9223372036854775807) (hm' : m' ≤ 9223372036854775807) :
    Calls Tryz.prog 17 #[.agg #[.slice A n c, .slice F m d], .agg #[.slice A' n' c', .slice F' m' d'], .int .i64 b] w (fun e w' => e = .returned (.tuple #[.bool (isoP cs es ds fs b), .int .i64 (code2P cs es ds fs b)]) ∧ Below w.heap.size w w') := by
  have hb1 := below_then (below_alloc w (.cells #[.slice A n c, .slice F m d] 31)) (below_alloc _ (.cells #[.slice A' n' c', .slice F' m' d'] 31))
  have hx := l22Two_any _ A n c F m d cs es A' n' c' F' m' d' ds fs b (hG.keep hb1) (hH.keep hb1) hn hm hn' hm'
  rcases code2_cases cs es ds fs b with h0 | ⟨h0, h1⟩
  · have HC := Lib.hid h0
    have HR := Lib.hid (show isoP cs es ds fs b = sameG (runP cs es b.toNat).fc (runP cs es b.toNat).fe (runP ds fs b.toNat).fc (runP ds fs b.toNat).fe by rw [isoP, if_pos h0]; rfl)
    clear h0
    obtain ⟨ii, hi, hi0, hi1, hi2⟩ := info_parts graph_info
    go_enter Tryz.func17, Tryz.ntmps17
    go_wp2_with fail
    refine hx.mono ?_
    rintro e w2 ⟨hb2, v, u, rfl, hv⟩
    obtain ⟨hX, hY⟩ := hv HC.out
    obtain ⟨w0, rfl, hb0, N, cN, BA, bn, bc, FA, fn, fk, FF, fm, fd, hX⟩ := hX
    obtain ⟨w0', rfl, hb0', N', cN', BA', bn', bc', FA', fn', fk', FF', fm', fd', hY⟩ := hY
    rw [HC.out]
    have p7 := hX.cells.1.2.2.2.1
    have p8 := hX.cells.1.2.2.2.2
    have q7 := hY.cells.1.2.2.2.1
    have q8 := hY.cells.1.2.2.2.2
    have l1 := hX.sb.fc.len
    have l2 := hX.sb.fe.len
    have l3 := hY.sb.fc.len
    have l4 := hY.sb.fe.len
    have l5 := hX.sb.lc
    have l6 := hX.sb.le_
    have l7 := hY.sb.lc
    have l8 := hY.sb.le_
    have rX := RG.mk hX.sb.fc.reads hX.sb.fe.reads
    have rY := RG.mk hY.sb.fc.reads hY.sb.fe.reads
    have HSm := Lib.hid (fun (W' : World) (hb : Below w2.heap.size w2 W') => l21Same_any FA fn fk FF fm fd _ _ FA' fn' fk' FF' fm' fd' _ _ W' (rX.keep hb) (rY.keep hb) (by omega) (by omega) (by omega) (by omega))
    clear hv hX hY rX rY l1 l2 l3 l4 l5 l6 l7 l8 hx
    generalize runP cs es b.toNat = s1 at *
    generalize runP ds fs b.toNat = s2 at *
    go_wp2
    go_region_held_law (fun w' => Below w2.heap.size w2 w' ∧ w'.cell? ⟨w0.heap.size, 3, none⟩ = some (.slice FA fn fk) ∧ w'.cell? ⟨w0.heap.size, 4, none⟩ = some (.slice FF fm fd) ∧ w'.cell? ⟨w0'.heap.size, 3, none⟩ = some (.slice FA' fn' fk') ∧ w'.cell? ⟨w0'.heap.size, 4, none⟩ = some (.slice FF' fm' fd'))
      (first | exact keep4 (below_drewn _ 1) p7 p8 q7 q8 | exact keep4 (by assumption) p7 p8 q7 q8)
      (first | (go_at_call 44; (with_reducible refine (HSm.out _ ?_).mono ?_); (exact below_drewn _ 1); rintro e w4 ⟨rfl, hb4⟩; have hX4 : Below w2.heap.size w2 w4 := (below_drewn _ 1).trans (hb4.mono (Nat.le_refl _))))
    go_wp2
    go_ret2
    exact ⟨by rw [HR.out, HC.out]; rfl, (hb1.trans (hb2.mono hb1.size)).trans (hX4.mono (Nat.le_trans hb1.size hb2.size))⟩
  · have HC := Lib.hid h0
    have HR := Lib.hid (show isoP cs es ds fs b = false by rw [isoP, if_neg h0])
    clear h0
    go_enter Tryz.func17, Tryz.ntmps17
    go_wp2_with fail
    refine hx.mono ?_
    rintro e w2 ⟨hb2, v, u, rfl, -⟩
    go_wp2
    go_ret2
    exact ⟨by rw [HR.out]; rfl, hb1.trans (hb2.mono hb1.size)⟩
end Go.Proofs.YtjgihhnplckjoaaGreat
/- The law on IsomorphicGraphs. No condition beyond those stated. -/
namespace Go.Proofs.YtjgihhnplckjoaaGreat
open Go.RowKit

theorem below_or {W w1 w2 : World} (h : Below W.heap.size W w1) (k : Below w1.heap.size w1 w2) : Below W.heap.size W w2 := h.trans (k.mono h.size)
set_option maxRecDepth 100000 in
set_option maxHeartbeats 4000000 in
theorem law_IsomorphicGraphs_ok (A : Option Addr) (n c : Nat) (F : Option Addr) (m d : Nat) (cs : List Int) (es : List Ed) (A' : Option Addr) (n' c' : Nat) (F' : Option Addr) (m' d' : Nat) (ds : List Int) (fs : List Ed) (b : Int) (w : World) (ha : RG w A n F m cs es) (hh : RG w A' n' F' m' ds fs) (hs : (n : Int) + m ≤ 1048576) (hs' : (n' : Int) + m' ≤ 1048576 - (n + m)) (r : Bool) (cd : Int)
    (hspec : ∀ (A : Option Addr) (n c : Nat) (F : Option Addr) (m d : Nat) (A' : Option Addr) (n' c' : Nat) (F' : Option Addr) (m' d' : Nat) (w : World), RG w A n F m cs es → RG w A' n' F' m' ds fs → n ≤ 1048576 → m ≤ 1048576 → n' ≤ 1048576 → m' ≤ 1048576 → Calls Tryz.prog 17 #[.agg #[.slice A n c, .slice F m d], .agg #[.slice A' n' c', .slice F' m' d'], .int .i64 b] w (fun e w' => e = .returned (.tuple #[.bool r, .int .i64 cd]) ∧ Below w.heap.size w w'))
    (himpl : ∀ (A : Option Addr) (n c : Nat) (F : Option Addr) (m d : Nat) (A' : Option Addr) (n' c' : Nat) (F' : Option Addr) (m' d' : Nat) (w : World), RG w A n F m cs es → RG w A' n' F' m' ds fs → n ≤ 1048576 → m ≤ 1048576 → n' ≤ 1048576 → m' ≤ 1048576 → Calls Tryz.prog 18 #[.agg #[.slice A n c, .slice F m d], .agg #[.slice A' n' c', .slice F' m' d'], .int .i64 b] w (fun e w' => e = .returned (.tuple #[.bool r, .int .i64 cd]) ∧ Below w.heap.size w w')) :
    Calls Tryz.prog 5 #[.agg #[.slice A n c, .slice F m d], .agg #[.slice A' n' c', .slice F' m' d'], .int .i64 b] w fun e w' => e = .returned (.bool true) ∧ Below w.heap.size w w' := by
  have hla := Lib.hid ha.ri.len
  have hle := Lib.hid ha.re.len
  have hla' := Lib.hid hh.ri.len
  have hle' := Lib.hid hh.re.len
  obtain ⟨bz1, bz2, bz3, bz4⟩ : n ≤ 1048576 ∧ m ≤ 1048576 ∧ n' ≤ 1048576 ∧ m' ≤ 1048576 := by omega
  have E1 := Lib.hid (szF_parts hs)
  have hbp : (0 : Int) ≤ 1048576 - (n + m) ∧ (1048576 - (n + m) : Int) ≤ 1048576 := by omega
  generalize hbk : (1048576 - ((n : Int) + m)) = bk at *
  have E2 := Lib.hid (szF_parts hs')
  have hbp2 : (0 : Int) ≤ bk - (n' + m') := by omega
  generalize hbk2 : (bk - ((n' : Int) + m')) = bk2 at *
  have HS := Lib.hid hspec
  have HI := Lib.hid himpl
  obtain ⟨hbp, hbp'⟩ := hbp
  clear hbk hbk2 hspec himpl
  have p1 := (Blk.new w 25 #[.slice A n c, .slice F m d]).alloc (.cells #[.slice A' n' c', .slice F' m' d'] 25)
  have p2 : Blk ((w.alloc (.cells #[.slice A n c, .slice F m d] 25)).alloc (.cells #[.slice A' n' c', .slice F' m' d'] 25)) (w.heap.size + 1) 25 #[.slice A' n' c', .slice F' m' d'] := by
    have := Blk.new (w.alloc (.cells #[.slice A n c, .slice F m d] 25)) 25 #[.slice A' n' c', .slice F' m' d']
    simpa using this
  have b1 := below_then (below_alloc w (.cells #[.slice A n c, .slice F m d] 25)) (below_alloc _ (.cells #[.slice A' n' c', .slice F' m' d'] 25))
  go_enter Tryz.func5, Tryz.ntmps5
  go_wp2_with fail
  refine (szGraph_any 1048576 A n c F m d _ (by omega) (by omega) (by omega) (by omega)).mono ?_
  rintro e w0 ⟨rfl, hb0⟩
  rw [E1.out]
  have q1 := p1.after hb0
  have q2 := p2.after hb0
  have b0 := below_then b1 hb0
  clear p1 p2 b1 hb0
  obtain ⟨u0, u1⟩ := q1.cells2
  obtain ⟨v0, v1⟩ := q2.cells2
  go_wp2_with fail
  refine (szGraph_any bk A' n' c' F' m' d' _ (by omega) (by omega) (by omega) (by omega)).mono ?_
  rintro e w1 ⟨rfl, hb1⟩
  rw [E2.out]
  have q1 := q1.after hb1
  have q2 := q2.after hb1
  have b1 := below_then b0 hb1
  clear b0 hb1 u0 u1 v0 v1
  obtain ⟨u0, u1⟩ := q1.cells2
  obtain ⟨v0, v1⟩ := q2.cells2
  have HT := Lib.hid (fun (W' : World) (hb : Below w1.heap.size w1 W') => toGraph_any A n c F m d cs es W' (ha.keep (below_or b1 hb)) (by omega) (by omega))
  have HT' := Lib.hid (fun (W' : World) (hb : Below w1.heap.size w1 W') => toGraph_any A' n' c' F' m' d' ds fs W' (hh.keep (below_or b1 hb)) (by omega) (by omega))
  go_wp2
  go_region_held3 (fun w' => Below w1.heap.size w1 w' ∧ w'.cell? ⟨w.heap.size, 0, none⟩ = some (.slice A n c) ∧ w'.cell? ⟨w.heap.size, 1, none⟩ = some (.slice F m d) ∧ w'.cell? ⟨w.heap.size + 1, 0, none⟩ = some (.slice A' n' c') ∧ w'.cell? ⟨w.heap.size + 1, 1, none⟩ = some (.slice F' m' d'))
    (first | exact keep4' (below_drewn _ 1) u0 u1 v0 v1 | exact keep4' (below_or (And.left (by assumption)) (by assumption)) u0 u1 v0 v1)
    (first
      | (go_at_call 12; (with_reducible refine (HT.out _ ?_).mono ?_); (exact And.left (by assumption)); rintro e w2 ⟨A2, n2, c2, F2, m2, d2, rfl, ho2, hb2⟩)
      | (go_at_call 12; (with_reducible refine (HT'.out _ ?_).mono ?_); (exact And.left (by assumption)); rintro e w3 ⟨A3, n3, c3, F3, m3, d3, rfl, ho3, hb3⟩)
      | (go_at_call 17; (with_reducible refine (HS.out A2 n2 c2 F2 m2 d2 A3 n3 c3 F3 m3 d3 _ ?_ ?_ ?_ ?_ ?_ ?_).mono ?_); (exact ho2.reads.keep hb3); (exact ho3.reads); (have := ho2.oi.len; have := hla.out; omega); (have := ho2.oe.len; have := hle.out; omega); (have := ho3.oi.len; have := hla'.out; omega); (have := ho3.oe.len; have := hle'.out; omega); rintro e w4 ⟨rfl, hb4⟩))
  have hh4 : Below w1.heap.size w1 w4 := And.left (by assumption)
  have b4 := below_or b1 hh4
  have q1 := q1.after hh4
  have q2 := q2.after hh4
  clear u0 u1 v0 v1 hb2 hb3 hb4 ho2 ho3 HT HT' b1
  obtain ⟨u0, u1⟩ := q1.cells2
  go_wp2_with fail
  refine (toGraph_any A n c F m d cs es _ (ha.keep b4) (by omega) (by omega)).mono ?_
  rintro e w5 ⟨A5, n5, c5, F5, m5, d5, rfl, ho5, hb5⟩
  have k5 : n5 ≤ 1048576 ∧ m5 ≤ 1048576 := by have := ho5.oi.len; have := ho5.oe.len; have := hla.out; have := hle.out; omega
  have b5 := below_then b4 hb5
  have a6 := below_alloc w5 (.cells #[.slice A5 n5 c5, .slice F5 m5 d5] 31)
  have X5 := Blk.new w5 31 #[.slice A5 n5 c5, .slice F5 m5 d5]
  have b6 := below_then b5 a6
  have r5 := ho5.reads.keep a6
  have q1 := (q1.after hb5).after a6
  have q2 := (q2.after hb5).after a6
  clear u0 u1 hb5 ho5 b4 b5 hh4
  obtain ⟨W6, hW6⟩ : ∃ W6, w5.alloc (.cells #[.slice A5 n5 c5, .slice F5 m5 d5] 31) = W6 := ⟨_, rfl⟩
  rw [hW6] at a6 X5 b6 r5 q1 q2
  clear a6
  obtain ⟨v0, v1⟩ := q2.cells2
  go_wp2_with fail
  clear hW6
  refine (toGraph_any A' n' c' F' m' d' ds fs _ (hh.keep b6) (by omega) (by omega)).mono ?_
  rintro e w7 ⟨A7, n7, c7, F7, m7, d7, rfl, ho7, hb7⟩
  have k7 : n7 ≤ 1048576 ∧ m7 ≤ 1048576 := by have := ho7.oi.len; have := ho7.oe.len; have := hla'.out; have := hle'.out; omega
  have b7 := below_then b6 hb7
  have a8 := below_alloc w7 (.cells #[.slice A7 n7 c7, .slice F7 m7 d7] 31)
  have X7 := Blk.new w7 31 #[.slice A7 n7 c7, .slice F7 m7 d7]
  have b8 := below_then b7 a8
  have r7 := ho7.reads.keep a8
  have r5 := (r5.keep hb7).keep a8
  have q1 := (q1.after hb7).after a8
  have q2 := (q2.after hb7).after a8
  have X5 := (X5.after hb7).after a8
  clear v0 v1 hb7 ho7 b6 b7
  obtain ⟨W8, hW8⟩ : ∃ W8, w7.alloc (.cells #[.slice A7 n7 c7, .slice F7 m7 d7] 31) = W8 := ⟨_, rfl⟩
  rw [hW8] at a8 X7 b8 r7 r5 q1 q2 X5
  clear a8
  obtain ⟨u0, u1⟩ := X5.cells2
  obtain ⟨v0, v1⟩ := X7.cells2
  go_wp2_with fail
  clear hW8
  refine (HI.out A5 n5 c5 F5 m5 d5 A7 n7 c7 F7 m7 d7 _ r5 r7 k5.1 k5.2 k7.1 k7.2).mono ?_
  rintro e w9 ⟨rfl, hb9⟩
  have b9 := below_then b8 hb9
  have M1 : GSt w.heap.size w5.heap.size A F A5 F5 n c m d n5 c5 m5 d5 cs es w9 := ⟨q1.after hb9, X5.after hb9, ha.keep b9, r5.keep hb9⟩
  have M2 : GSt (w.heap.size + 1) w7.heap.size A' F' A7 F7 n' c' m' d' n7 c7 m7 d7 ds fs w9 := ⟨q2.after hb9, X7.after hb9, hh.keep b9, r7.keep hb9⟩
  clear u0 u1 v0 v1 hb9 b8 q1 q2 X5 X7 r5 r7
  generalize w5.heap.size = s5 at *
  generalize w7.heap.size = s7 at *
  have HM := Lib.hid M1
  have HM2 := Lib.hid M2
  have HB := Lib.hid b9
  clear M1 M2
  go_wp2_with fail
  go_region_held3 (fun w' => (((GSt w.heap.size s5 A F A5 F5 n c m d n5 c5 m5 d5 cs es w' ∧ GSt (w.heap.size + 1) s7 A' F' A7 F7 n' c' m' d' n7 c7 m7 d7 ds fs w') ∧ Below w.heap.size w w')) ∧ w'.cell? ⟨w.heap.size, 0, none⟩ = some (.slice A n c) ∧ w'.cell? ⟨w.heap.size, 1, none⟩ = some (.slice F m d) ∧ w'.cell? ⟨s5, 0, none⟩ = some (.slice A5 n5 c5) ∧ w'.cell? ⟨s5, 1, none⟩ = some (.slice F5 m5 d5))
    (first | exact (HM.out.step (below_drewn _ 1)).full2 (HM2.out.step (below_drewn _ 1)) (HB.out.trans ((below_drewn _ 1).mono HB.out.size)) | exact (GSt.step (And.left (And.left (And.left (by assumption)))) (by assumption)).full2 (GSt.step (And.right (And.left (And.left (by assumption)))) (by assumption)) (below_then (And.right (And.left (by assumption))) (by assumption)))
    (first
      | (go_at_call 12; (with_reducible refine (toGraph_any A n c F m d cs es _ ?_ (by omega) (by omega)).mono ?_); (exact GSt.r1 (And.left (And.left (And.left (by assumption))))); rintro e w10 ⟨A6, n6, c6, F6, m6, d6, rfl, ho6, hb6⟩)
      | (go_at_call 14; (with_reducible refine (eqGraph_same A5 F5 n5 c5 m5 d5 A6 F6 n6 c6 m6 d6 cs es _ ?_ ?_ ?_ ?_ ?_).mono ?_); (exact GSt.r3 (And.left (And.left (And.left (by assumption))))); (exact ho6.reads); (omega); (omega); (have := ho6.oi.len; have := hla.out; omega); rintro e w11 ⟨rfl, hb11⟩))
  have hh7 : ((GSt w.heap.size s5 A F A5 F5 n c m d n5 c5 m5 d5 cs es w11 ∧ GSt (w.heap.size + 1) s7 A' F' A7 F7 n' c' m' d' n7 c7 m7 d7 ds fs w11) ∧ Below w.heap.size w w11) := And.left (by assumption)
  have HM := Lib.hid hh7.1.1
  have HM2 := Lib.hid hh7.1.2
  have HB := Lib.hid hh7.2
  clear hh7 hb6 hb11 ho6
  go_wp2
  go_region_held3 (fun w' => (((GSt (w.heap.size + 1) s7 A' F' A7 F7 n' c' m' d' n7 c7 m7 d7 ds fs w' ∧ GSt w.heap.size s5 A F A5 F5 n c m d n5 c5 m5 d5 cs es w') ∧ Below w.heap.size w w')) ∧ w'.cell? ⟨w.heap.size + 1, 0, none⟩ = some (.slice A' n' c') ∧ w'.cell? ⟨w.heap.size + 1, 1, none⟩ = some (.slice F' m' d') ∧ w'.cell? ⟨s7, 0, none⟩ = some (.slice A7 n7 c7) ∧ w'.cell? ⟨s7, 1, none⟩ = some (.slice F7 m7 d7))
    (first | exact (HM2.out.step (below_drewn _ 1)).full2 (HM.out.step (below_drewn _ 1)) (HB.out.trans ((below_drewn _ 1).mono HB.out.size)) | exact (GSt.step (And.left (And.left (And.left (by assumption)))) (by assumption)).full2 (GSt.step (And.right (And.left (And.left (by assumption)))) (by assumption)) (below_then (And.right (And.left (by assumption))) (by assumption)))
    (first
      | (go_at_call 12; (with_reducible refine (toGraph_any A' n' c' F' m' d' ds fs _ ?_ (by omega) (by omega)).mono ?_); (exact GSt.r1 (And.left (And.left (And.left (by assumption))))); rintro e w12 ⟨A8, n8, c8, F8, m8, d8, rfl, ho8, hb8⟩)
      | (go_at_call 14; (with_reducible refine (eqGraph_same A7 F7 n7 c7 m7 d7 A8 F8 n8 c8 m8 d8 ds fs _ ?_ ?_ ?_ ?_ ?_).mono ?_); (exact GSt.r3 (And.left (And.left (And.left (by assumption))))); (exact ho8.reads); (omega); (omega); (have := ho8.oi.len; have := hla'.out; omega); rintro e w13 ⟨rfl, hb13⟩))
  have hh8 : ((GSt (w.heap.size + 1) s7 A' F' A7 F7 n' c' m' d' n7 c7 m7 d7 ds fs w13 ∧ GSt w.heap.size s5 A F A5 F5 n c m d n5 c5 m5 d5 cs es w13) ∧ Below w.heap.size w w13) := And.left (by assumption)
  go_wp2
  go_ret
  exact ⟨rfl, hh8.2⟩
set_option maxHeartbeats 1000000 in
theorem law_IsomorphicGraphs_big (A : Option Addr) (n c : Nat) (F : Option Addr) (m d : Nat) (cs : List Int) (es : List Ed) (A' : Option Addr) (n' c' : Nat) (F' : Option Addr) (m' d' : Nat) (ds : List Int) (fs : List Ed) (b : Int) (w : World) (ha : RG w A n F m cs es) (hh : RG w A' n' F' m' ds fs) (hn : n ≤ 9223372036854775807) (hm : m ≤ 9223372036854775807) (hn' : n' ≤ 9223372036854775807) (hm' : m' ≤ 9223372036854775807) (hs : ¬ ((n : Int) + m ≤ 1048576 ∧ (n' : Int) + m' ≤ 1048576 - (n + m))) :
    Calls Tryz.prog 5 #[.agg #[.slice A n c, .slice F m d], .agg #[.slice A' n' c', .slice F' m' d'], .int .i64 b] w fun e w' => e = .returned (.bool true) ∧ Below w.heap.size w w' := by
  have p2 : Blk ((w.alloc (.cells #[.slice A n c, .slice F m d] 25)).alloc (.cells #[.slice A' n' c', .slice F' m' d'] 25)) (w.heap.size + 1) 25 #[.slice A' n' c', .slice F' m' d'] := by
    have := Blk.new (w.alloc (.cells #[.slice A n c, .slice F m d] 25)) 25 #[.slice A' n' c', .slice F' m' d']
    simpa using this
  have b1 := below_then (below_alloc w (.cells #[.slice A n c, .slice F m d] 25)) (below_alloc _ (.cells #[.slice A' n' c', .slice F' m' d'] 25))
  by_cases h1 : (n : Int) + m ≤ 1048576
  · have E1 := Lib.hid (szF_parts h1)
    have hbp : (0 : Int) ≤ 1048576 - (n + m) ∧ (1048576 - (n + m) : Int) ≤ 1048576 := by omega
    have h2 : ¬ (n' : Int) + m' ≤ 1048576 - (n + m) := fun h => hs ⟨h1, h⟩
    have E2 := Lib.hid (show szF (1048576 - ((n : Int) + m)) ((n' : Int) + m') = -1 by simp only [szF, if_neg h2])
    obtain ⟨hbp, hbp'⟩ := hbp
    generalize hbk : (1048576 - ((n : Int) + m)) = bk at *
    clear hs h1 h2 hbk
    go_enter Tryz.func5, Tryz.ntmps5
    go_wp2_with fail
    refine (szGraph_any 1048576 A n c F m d _ (by omega) (by omega) (by omega) (by omega)).mono ?_
    rintro e w0 ⟨rfl, hb0⟩
    rw [E1.out]
    have q2 := p2.after hb0
    have b0 := below_then b1 hb0
    clear p2 b1 hb0
    obtain ⟨v0, v1⟩ := q2.cells2
    go_wp2_with fail
    refine (szGraph_any bk A' n' c' F' m' d' _ (by omega) (by omega) (by omega) (by omega)).mono ?_
    rintro e w1 ⟨rfl, hb1⟩
    rw [E2.out]
    go_wp2
    go_ret
    exact ⟨rfl, below_then b0 hb1⟩
  · have E1 := Lib.hid (show szF 1048576 ((n : Int) + m) = -1 by simp [szF, h1])
    clear hs h1
    go_enter Tryz.func5, Tryz.ntmps5
    go_wp2_with fail
    refine (szGraph_any 1048576 A n c F m d _ (by omega) (by omega) (by omega) (by omega)).mono ?_
    rintro e w0 ⟨rfl, hb0⟩
    rw [E1.out]
    go_wp2
    go_ret
    exact ⟨rfl, below_then b1 hb0⟩
end Go.Proofs.YtjgihhnplckjoaaGreat
