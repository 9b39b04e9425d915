/- Two searches, both sides; whether two graphs are isomorphic. No condition beyond those stated. -/
import Derived.Test.YtncknfhfkmmhbaaGreatZBS
import Derived.Deep.RegionHeldLaw
set_option linter.unusedVariables false
set_option linter.unusedSimpArgs false
namespace Go.Proofs.YtncknfhfkmmhbaaGreat
open Go.RowKit

/-- the code of two searches -/
noncomputable def code2P (cs : List Int) (es : List Ed) (ds : List Int) (fs : List Ed) (b : Int) : Int := if tB (GraphOk cs es) && tB (GraphOk ds fs) then (if codeP cs es b ≠ 0 then codeP cs es b else codeP ds fs b) else 1
theorem code2_no1 {cs : List Int} {es : List Ed} (ds : List Int) (fs : List Ed) (b : Int) (h : ¬ GraphOk cs es) : code2P cs es ds fs b = 1 := by rw [code2P, tB_no h]; simp
theorem code2_no2 (cs : List Int) (es : List Ed) {ds : List Int} {fs : List Ed} (b : Int) (h : ¬ GraphOk ds fs) : code2P cs es ds fs b = 1 := by rw [code2P, tB_no h]; simp
theorem code2_ne {cs : List Int} {es : List Ed} {ds : List Int} {fs : List Ed} {b : Int} (h : GraphOk cs es) (k : GraphOk ds fs) (h1 : codeP cs es b ≠ 0) : code2P cs es ds fs b = codeP cs es b := by rw [code2P, tB_yes h, tB_yes k]; simp [h1]
theorem code2_eq {cs : List Int} {es : List Ed} {ds : List Int} {fs : List Ed} {b : Int} (h : GraphOk cs es) (k : GraphOk ds fs) (h1 : codeP cs es b = 0) : code2P cs es ds fs b = codeP ds fs b := by rw [code2P, tB_yes h, tB_yes k]; simp [h1]
theorem code2_zero {cs : List Int} {es : List Ed} {ds : List Int} {fs : List Ed} {b : Int} (h : code2P cs es ds fs b = 0) : GraphOk cs es ∧ GraphOk ds fs ∧ codeP cs es b = 0 ∧ codeP ds fs b = 0 := by
  by_cases h1 : GraphOk cs es
  · by_cases h2 : GraphOk ds fs
    · by_cases h3 : codeP cs es b = 0
      · rw [code2_eq h1 h2 h3] at h
        exact ⟨h1, h2, h3, h⟩
      · rw [code2_ne h1 h2 h3] at h
        exact absurd h h3
    · rw [code2_no2 cs es b h2] at h; cases h
  · rw [code2_no1 ds fs b h1] at h; cases h
theorem codeP_ok {cs : List Int} {es : List Ed} {b : Int} (h : codeP cs es b = 0) : (runP cs es b.toNat).spent = false ∧ GraphOk cs es ∧ b.toNat ≤ 20000 := by
  unfold codeP at h
  cases h1 : tB (GraphOk cs es) with
  | false => rw [h1] at h; simp at h
  | true =>
    cases h2 : inB b 1 20000 with
    | false => rw [h1, h2] at h; simp at h
    | true =>
      cases h3 : (runP cs es b.toNat).spent with
      | true => rw [h1, h2, h3] at h; simp at h
      | false => exact ⟨rfl, tB_true.1 h1, by have := inB_true h2; omega⟩
/-- a search's state, the program's -/
def OneX (w w' : World) (v : Option Addr) (A : Option Addr) (n c : Nat) (F : Option Addr) (m d : Nat) (s : St) : Prop := ∃ w0 : World, v = some ⟨w0.heap.size, 0, none⟩ ∧ Below w.heap.size w w0 ∧ ∃ N cN BA bn bc FA fn fk FF fm fd, XS w0 w' A n c F m d N n cN BA bn bc FA fn fk FF fm fd s
theorem OneX.step {w w' w'' : World} {v : Option Addr} {A : Option Addr} {n c : Nat} {F : Option Addr} {m d : Nat} {s : St} (h : OneX w w' v A n c F m d s) (hb : Below w'.heap.size w' w'') : OneX w w'' v A n c F m d s := by
  obtain ⟨w0, h1, h2, N, cN, BA, bn, bc, FA, fn, fk, FF, fm, fd, hX⟩ := h
  exact ⟨w0, h1, h2, N, cN, BA, bn, bc, FA, fn, fk, FF, fm, fd, hX.step hb⟩
theorem OneX.from {w w' w1 : World} {v : Option Addr} {A : Option Addr} {n c : Nat} {F : Option Addr} {m d : Nat} {s : St} (h : OneX w w' v A n c F m d s) (hb : Below w1.heap.size w1 w) : OneX w1 w' v A n c F m d s := by
  obtain ⟨w0, h1, h2, r⟩ := h
  exact ⟨w0, h1, hb.trans (h2.mono hb.size), r⟩
theorem RetY.one {w w' : World} {A : Option Addr} {n c : Nat} {F : Option Addr} {m d : Nat} {cs : List Int} {es : List Ed} {b : Int} {e : Ending} (h : RetY w A n c F m d cs es b e w') :
    Below w.heap.size w w' ∧ ∃ v, e = .returned (.tuple #[.pointer v, .int .i64 (codeP cs es b)]) ∧ (codeP cs es b = 0 → OneX w w' v A n c F m d (runP cs es b.toNat)) := by
  obtain ⟨h1, v, h2, h3⟩ := h
  refine ⟨h1, v, h2, fun h0 => ?_⟩
  obtain ⟨w0, h4, h5, _, _, _, h6⟩ := h3 h0
  exact ⟨w0, h4, h5, h6⟩
/-- what two searches hand back -/
def Ret2X (w : World) (A : Option Addr) (n c : Nat) (F : Option Addr) (m d : Nat) (cs : List Int) (es : List Ed) (A' : Option Addr) (n' c' : Nat) (F' : Option Addr) (m' d' : Nat) (ds : List Int) (fs : List Ed) (b : Int) (e : Ending) (w' : World) : Prop :=
  Below w.heap.size w w' ∧ ∃ v u, e = .returned (.tuple #[.pointer v, .pointer u, .int .i64 (code2P cs es ds fs b)]) ∧ (code2P cs es ds fs b = 0 → OneX w w' v A n c F m d (runP cs es b.toNat) ∧ OneX w w' u A' n' c' F' m' d' (runP ds fs b.toNat))
set_option maxRecDepth 100000 in
set_option maxHeartbeats 4000000 in
theorem bothExplored_any (w : World) (A : Option Addr) (n c : Nat) (F : Option Addr) (m d : Nat) (cs : List Int) (es : List Ed) (A' : Option Addr) (n' c' : Nat) (F' : Option Addr) (m' d' : Nat) (ds : List Int) (fs : List Ed) (b : Int) (hG : RG w A n F m cs es) (hH : RG w A' n' F' m' ds fs) (hn : n ≤ 9223372036854775807) (hm : m ≤ 9223372036854775807) (hn' : n' ≤ 9223372036854775807) (hm' : m' ≤ 9223372036854775807) :
    Calls Tryz.prog 19 #[.agg #[.slice A n c, .slice F m d], .agg #[.slice A' n' c', .slice F' m' d'], .int .i64 b] w (Ret2X w A n c F m d cs es A' n' c' F' m' d' ds fs b) := by
  have hb1 := below_then (below_alloc w (.cells #[.slice A n c, .slice F m d] 36)) (below_alloc _ (.cells #[.slice A' n' c', .slice F' m' d'] 36))
  have X := (Blk.new w 36 #[.slice A n c, .slice F m d]).alloc (.cells #[.slice A' n' c', .slice F' m' d'] 36)
  have Y : Blk ((w.alloc (.cells #[.slice A n c, .slice F m d] 36)).alloc (.cells #[.slice A' n' c', .slice F' m' d'] 36)) (w.heap.size + 1) 36 #[.slice A' n' c', .slice F' m' d'] := by
    have := Blk.new (w.alloc (.cells #[.slice A n c, .slice F m d] 36)) 36 #[.slice A' n' c', .slice F' m' d']
    simpa using this
  have hG1 := hG.keep hb1
  have hH1 := hH.keep hb1
  generalize hW1 : (w.alloc (.cells #[.slice A n c, .slice F m d] 36)).alloc (.cells #[.slice A' n' c', .slice F' m' d'] 36) = W1 at *
  have hv1 := validGraph_any A n c F m d cs es W1 hG1 hn hm
  have HV2 := Lib.hid (fun (W' : World) (hb : Below W1.heap.size W1 W') => validGraph_any A' n' c' F' m' d' ds fs W' (hH1.keep hb) hn' hm')
  have HX1 := Lib.hid (fun (W' : World) (hb : Below W1.heap.size W1 W') => explored_any' W' A n c F m d cs es b (hG1.keep hb) hn hm)
  have HX2 := Lib.hid (fun (W' : World) (hb : Below W1.heap.size W1 W') => explored_any' W' A' n' c' F' m' d' ds fs b (hH1.keep hb) hn' hm')
  obtain ⟨x0, x1⟩ := X.cells2
  obtain ⟨y0, y1⟩ := Y.cells2
  by_cases hg : GraphOk cs es
  · rw [tB_yes hg] at hv1
    by_cases hh : GraphOk ds fs
    · have HB := Lib.hid (tB_yes hh)
      rcases codeP_cases cs es b with h0 | ⟨h0, h1⟩
      · have HC := Lib.hid (code2_eq hg hh h0)
        have H0 := Lib.hid h0
        clear hg hh h0
        go_enter Tryz.func19, Tryz.ntmps19
        go_wp2_with fail
        refine hv1.mono ?_
        rintro e w2 ⟨rfl, hb2⟩
        have y0' := below_cell hb2 y0
        have y1' := below_cell hb2 y1
        go_wp2_with fail
        clear y0' y1'
        refine (HV2.out w2 hb2).mono ?_
        rintro e w3 ⟨rfl, hb3⟩
        rw [HB.out]
        have hb3 := hb2.trans (hb3.mono hb2.size)
        have x0' := below_cell hb3 x0
        have x1' := below_cell hb3 x1
        go_wp2_with fail
        clear x0' x1'
        refine (HX1.out w3 hb3).mono ?_
        rintro e w4 h4
        obtain ⟨hb4, v, rfl, hv4⟩ := h4.one
        have O4 := hv4 H0.out
        rw [H0.out]
        have hb4 := hb3.trans (hb4.mono hb3.size)
        have y0' := below_cell hb4 y0
        have y1' := below_cell hb4 y1
        have HO4 := Lib.hid O4
        clear hv4 h4 O4
        go_wp2_with fail
        clear y0' y1'
        refine (HX2.out w4 hb4).mono ?_
        rintro e w5 h5
        obtain ⟨hb5, u, rfl, hv5⟩ := h5.one
        have HO5 := Lib.hid hv5
        clear hv5 h5
        go_wp2
        go_ret3
        refine ⟨hb1.trans ((hb4.trans (hb5.mono hb4.size)).mono hb1.size), v, u, by rw [HC.out]; rfl, fun h => ?_⟩
        rw [HC.out] at h
        exact ⟨(HO4.out.from (hb1.trans (hb3.mono hb1.size))).step hb5, (HO5.out h).from (hb1.trans (hb4.mono hb1.size))⟩
      · have HC := Lib.hid (code2_ne hg hh h0)
        have H0 := Lib.hid h0
        clear hg hh h0
        go_enter Tryz.func19, Tryz.ntmps19
        go_wp2_with fail
        refine hv1.mono ?_
        rintro e w2 ⟨rfl, hb2⟩
        have y0' := below_cell hb2 y0
        have y1' := below_cell hb2 y1
        go_wp2_with fail
        clear y0' y1'
        refine (HV2.out w2 hb2).mono ?_
        rintro e w3 ⟨rfl, hb3⟩
        rw [HB.out]
        have hb3 := hb2.trans (hb3.mono hb2.size)
        have x0' := below_cell hb3 x0
        have x1' := below_cell hb3 x1
        go_wp2_with fail
        clear x0' x1'
        refine (HX1.out w3 hb3).mono ?_
        rintro e w4 h4
        obtain ⟨hb4, v, rfl, -⟩ := h4.one
        have hb4 := hb3.trans (hb4.mono hb3.size)
        clear h4
        go_wp2
        go_ret3
        refine ⟨hb1.trans (hb4.mono hb1.size), none, none, by rw [HC.out]; rfl, fun h => ?_⟩
        rw [HC.out] at h
        exact absurd h H0.out
    · have HB := Lib.hid (tB_no hh)
      have HC := Lib.hid (code2_no2 cs es b hh)
      clear hg hh
      go_enter Tryz.func19, Tryz.ntmps19
      go_wp2_with fail
      refine hv1.mono ?_
      rintro e w2 ⟨rfl, hb2⟩
      have y0' := below_cell hb2 y0
      have y1' := below_cell hb2 y1
      go_wp2_with fail
      clear y0' y1'
      refine (HV2.out w2 hb2).mono ?_
      rintro e w3 ⟨rfl, hb3⟩
      rw [HB.out]
      have hb3 := hb2.trans (hb3.mono hb2.size)
      go_wp2
      go_ret3
      refine ⟨hb1.trans (hb3.mono hb1.size), none, none, by rw [HC.out]; rfl, fun h => ?_⟩
      rw [HC.out] at h
      cases h
  · rw [tB_no hg] at hv1
    have HC := Lib.hid (code2_no1 ds fs b hg)
    clear hg
    go_enter Tryz.func19, Tryz.ntmps19
    go_wp2_with fail
    refine hv1.mono ?_
    rintro e w2 ⟨rfl, hb2⟩
    go_wp2
    go_ret3
    refine ⟨hb1.trans (hb2.mono hb1.size), none, none, by rw [HC.out]; rfl, fun h => ?_⟩
    rw [HC.out] at h
    cases h
/-- whether the forms of two searches are the same -/
def sameP (s t : St) : Bool := sameG s.fc s.fe t.fc t.fe
noncomputable def isoP (cs : List Int) (es : List Ed) (ds : List Int) (fs : List Ed) (b : Int) : Bool := if code2P cs es ds fs b = 0 then sameP (runP cs es b.toNat) (runP ds fs b.toNat) else false
theorem code2_cases (cs : List Int) (es : List Ed) (ds : List Int) (fs : List Ed) (b : Int) : code2P cs es ds fs b = 0 ∨ (code2P cs es ds fs b ≠ 0 ∧ (code2P cs es ds fs b != 0) = true) := by
  by_cases h : code2P cs es ds fs b = 0
  · exact .inl h
  · exact .inr ⟨h, by simp [h]⟩
set_option maxRecDepth 100000 in
set_option maxHeartbeats 2000000 in
theorem impl_IsomorphicGraphs (A : Option Addr) (n c : Nat) (F : Option Addr) (m d : Nat) (cs : List Int) (es : List Ed) (A' : Option Addr) (n' c' : Nat) (F' : Option Addr) (m' d' : Nat) (ds : List Int) (fs : List Ed) (b : Int) (w : World) (hG : RG w A n F m cs es) (hH : RG w A' n' F' m' ds fs) (hn : n ≤ 9223372036854775807) (hm : m ≤ 9223372036854775807) (hn' : n' ≤ 9223372036854775807) (hm' : m' ≤ 9223372036854775807) :
    Calls Tryz.prog 9 #[.agg #[.slice A n c, .slice F m d], .agg #[.slice A' n' c', .slice F' m' d'], .int .i64 b] w (fun e w' => e = .returned (.tuple #[.bool (isoP cs es ds fs b), .int .i64 (code2P cs es ds fs b)]) ∧ Below w.heap.size w w') := by
  have hb1 := below_then (below_alloc w (.cells #[.slice A n c, .slice F m d] 36)) (below_alloc _ (.cells #[.slice A' n' c', .slice F' m' d'] 36))
  have hx := bothExplored_any _ A n c F m d cs es A' n' c' F' m' d' ds fs b (hG.keep hb1) (hH.keep hb1) hn hm hn' hm'
  rcases code2_cases cs es ds fs b with h0 | ⟨h0, h1⟩
  · have HC := Lib.hid h0
    have HR := Lib.hid (show isoP cs es ds fs b = sameG (runP cs es b.toNat).fc (runP cs es b.toNat).fe (runP ds fs b.toNat).fc (runP ds fs b.toNat).fe by rw [isoP, if_pos h0]; rfl)
    clear h0
    obtain ⟨ii, hi, hi0, hi1, hi2⟩ := info_parts graph_info
    go_enter Tryz.func9, Tryz.ntmps9
    go_wp2_with fail
    refine hx.mono ?_
    rintro e w2 ⟨hb2, v, u, rfl, hv⟩
    obtain ⟨hX, hY⟩ := hv HC.out
    obtain ⟨w0, rfl, hb0, N, cN, BA, bn, bc, FA, fn, fk, FF, fm, fd, hX⟩ := hX
    obtain ⟨w0', rfl, hb0', N', cN', BA', bn', bc', FA', fn', fk', FF', fm', fd', hY⟩ := hY
    rw [HC.out]
    have p7 := hX.cells.2.2.2.1
    have p8 := hX.cells.2.2.2.2.1
    have q7 := hY.cells.2.2.2.1
    have q8 := hY.cells.2.2.2.2.1
    have l1 := hX.sb.fc.len
    have l2 := hX.sb.fe.len
    have l3 := hY.sb.fc.len
    have l4 := hY.sb.fe.len
    have l5 := hX.sb.lc
    have l6 := hX.sb.le_
    have l7 := hY.sb.lc
    have l8 := hY.sb.le_
    have rX := RG.mk hX.sb.fc.reads hX.sb.fe.reads
    have rY := RG.mk hY.sb.fc.reads hY.sb.fe.reads
    have HSm := Lib.hid (fun (W' : World) (hb : Below w2.heap.size w2 W') => sameGraph_any FA fn fk FF fm fd _ _ FA' fn' fk' FF' fm' fd' _ _ W' (rX.keep hb) (rY.keep hb) (by omega) (by omega) (by omega) (by omega))
    clear hv hX hY rX rY l1 l2 l3 l4 l5 l6 l7 l8 hx
    generalize runP cs es b.toNat = s1 at *
    generalize runP ds fs b.toNat = s2 at *
    go_wp2
    go_region_held_law (fun w' => Below w2.heap.size w2 w' ∧ w'.cell? ⟨w0.heap.size, 7, none⟩ = some (.slice FA fn fk) ∧ w'.cell? ⟨w0.heap.size, 8, none⟩ = some (.slice FF fm fd) ∧ w'.cell? ⟨w0'.heap.size, 7, none⟩ = some (.slice FA' fn' fk') ∧ w'.cell? ⟨w0'.heap.size, 8, none⟩ = some (.slice FF' fm' fd'))
      (first | exact keep4 (below_drewn _ 1) p7 p8 q7 q8 | exact keep4 (by assumption) p7 p8 q7 q8)
      (first | (go_at_call 20; (with_reducible refine (HSm.out _ ?_).mono ?_); (exact below_drewn _ 1); rintro e w4 ⟨rfl, hb4⟩; have hX4 : Below w2.heap.size w2 w4 := (below_drewn _ 1).trans (hb4.mono (Nat.le_refl _))))
    go_wp2
    go_ret2
    exact ⟨by rw [HR.out, HC.out]; rfl, (hb1.trans (hb2.mono hb1.size)).trans (hX4.mono (Nat.le_trans hb1.size hb2.size))⟩
  · have HC := Lib.hid h0
    have HR := Lib.hid (show isoP cs es ds fs b = false by rw [isoP, if_neg h0])
    clear h0
    go_enter Tryz.func9, Tryz.ntmps9
    go_wp2_with fail
    refine hx.mono ?_
    rintro e w2 ⟨hb2, v, u, rfl, -⟩
    go_wp2
    go_ret2
    exact ⟨by rw [HR.out]; rfl, hb1.trans (hb2.mono hb1.size)⟩
end Go.Proofs.YtncknfhfkmmhbaaGreat
