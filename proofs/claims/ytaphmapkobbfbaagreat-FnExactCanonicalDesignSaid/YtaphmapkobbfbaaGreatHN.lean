/- Whether two designs are isomorphic, the reference's side. No condition beyond those stated. -/
import Derived.Test.YtaphmapkobbfbaaGreatHM
set_option linter.unusedVariables false
set_option linter.unusedSimpArgs false
namespace Go.Proofs.YtaphmapkobbfbaaGreat
open Go.RowKit

/-- what the search of one design hands back -/
def RetD (w : World) (v : Nat) (bs : List (List Int)) (b : Int) (e : Ending) (w' : World) : Prop :=
  Below w.heap.size w w' ∧ ∃ u, e = .returned (.tuple #[.pointer u, .int .i64 (if inB b 1 20000 then fK v bs b else 2)]) ∧
    (inB b 1 20000 = true → fK v bs b = 0 → ∃ A n c F m d, OneF w w' u A n c F m d (runP (dgC v bs) (dgE v bs) b.toNat))
set_option maxRecDepth 100000 in
set_option maxHeartbeats 2000000 in
theorem l23Find_any (g v : Nat) (A : Option Addr) (n c : Nat) (bs : List (List Int)) (b : Int) (w : World) (hB : Blk w g 28 #[.int .i64 v, .slice A n c]) (ha : RR w A n bs) (hD : Design (v : Int) bs) :
    Calls Tryz.prog 33 #[.pointer (some ⟨g, 0, none⟩), .int .i64 b] w (RetD w v bs b) := by
  have hn : n ≤ 128 := by rw [← ha.len]; exact hD.len
  have HL := Lib.hid (fun (o : Obj) => l10Ok_any g v A n c bs (w.alloc o) (hB.alloc o) (ha.keep (below_alloc w o)) (by omega))
  have HY := Lib.hid (tB_yes hD)
  have HG := Lib.hid (fun (w' : World) (h : Below w.heap.size w w') => l23Graph_any g v A n c bs w' (hB.after h) (ha.keep h) hD)
  clear hD
  cases hi : inB b 1 20000 with
  | false =>
    go_enter Tryz.func33, Tryz.ntmps33
    go_wp2_with fail
    refine (HL.out _).mono ?_
    rintro e w2 ⟨rfl, hd2⟩
    rw [HY.out]
    have hw2 := below_then (below_alloc w _) hd2.below
    go_wp2_with (go_at_call 58; refine (l00In_any _ _ _ _).mono ?_; rintro e w' ⟨rfl, rfl⟩; rw [hi])
    go_ret2
    exact ⟨hw2, _, by rw [hi]; rfl, fun h => by rw [hi] at h; cases h⟩
  | true =>
    rcases dgK_cases v bs with ⟨h0, hok⟩ | h5
    · have HK := Lib.hid (fK_ok h0 b)
      go_enter Tryz.func33, Tryz.ntmps33
      go_wp2_with fail
      refine (HL.out _).mono ?_
      rintro e w2 ⟨rfl, hd2⟩
      rw [HY.out]
      have hw2 := below_then (below_alloc w _) hd2.below
      clear hd2
      go_wp2_with fail
      refine (l00In_any _ _ _ _).mono ?_
      rintro e w' ⟨rfl, rfl⟩
      rw [hi]
      go_wp2_with fail
      refine (HG.out w2 hw2).mono ?_
      rintro e w3 ⟨A', n', c', F', m', d', rfl, o1, o2, q1, q2, hb3⟩
      rw [h0]
      have hw3 := hw2.trans (hb3.mono hw2.size)
      have hal := below_alloc w3 (.cells #[.slice A' n' c', .slice F' m' d'] 58)
      obtain ⟨y0, y1⟩ := (Blk.new w3 58 #[.slice A' n' c', .slice F' m' d']).cells2
      have hw4 := hw3.trans (hal.mono hw3.size)
      have hst := l22Start_any _ A' n' c' F' m' d' (dgC v bs) (dgE v bs) b (RG.mk (o1.below hal).reads (o2.below hal).reads) (by omega) (by omega)
      clear hw2 hw3 hal o1 o2 hb3 h0 hok
      go_wp2_with fail
      refine hst.mono ?_
      rintro e w5 h5
      obtain ⟨hb5, u, rfl, hu⟩ := h5.one
      have HU := Lib.hid hu
      clear hu h5 hst
      go_wp2
      go_ret2
      refine ⟨hw4.trans (hb5.mono hw4.size), u, by rw [hi, HK.out]; rfl, fun _ hz => ?_⟩
      rw [HK.out] at hz
      exact ⟨A', n', c', F', m', d', (HU.out hz).from hw4⟩
    · have HK := Lib.hid (fK_full h5 b)
      go_enter Tryz.func33, Tryz.ntmps33
      go_wp2_with fail
      refine (HL.out _).mono ?_
      rintro e w2 ⟨rfl, hd2⟩
      rw [HY.out]
      have hw2 := below_then (below_alloc w _) hd2.below
      clear hd2
      go_wp2_with fail
      refine (l00In_any _ _ _ _).mono ?_
      rintro e w' ⟨rfl, rfl⟩
      rw [hi]
      go_wp2_with fail
      refine (HG.out w2 hw2).mono ?_
      rintro e w3 ⟨A', n', c', F', m', d', rfl, -, -, q1, q2, hb3⟩
      rw [h5]
      have hw3 := hw2.trans (hb3.mono hw2.size)
      have hal := below_alloc w3 (.cells #[.slice A' n' c', .slice F' m' d'] 58)
      have hw4 := hw3.trans (hal.mono hw3.size)
      clear hw2 hw3 hal hb3 h5
      go_wp2
      go_ret2
      exact ⟨hw4, _, by rw [hi, HK.out]; rfl, fun _ hz => by rw [HK.out] at hz; cases hz⟩
set_option maxRecDepth 100000 in
set_option maxHeartbeats 4000000 in
theorem spec_IsomorphicDesigns (v : Int) (A : Option Addr) (n c : Nat) (bs : List (List Int)) (u : Int) (B : Option Addr) (m d : Nat) (ds : List (List Int)) (b : Int) (w : World) (ha : RR w A n bs) (hb : RR w B m ds) (hn : n ≤ 1048576) (hm : m ≤ 1048576) :
    Calls Tryz.prog 9 #[.agg #[.int .i64 v, .slice A n c], .agg #[.int .i64 u, .slice B m d], .int .i64 b] w (fun e w' => e = .returned (.tuple #[.bool (dsgR v bs u ds b), .int .i64 (dsgK v bs u ds b)]) ∧ Below w.heap.size w w') := by
  have hb1 := below_then (below_alloc w (.cells #[.int .i64 v, .slice A n c] 28)) (below_alloc _ (.cells #[.int .i64 u, .slice B m d] 28))
  have X := (Blk.new w 28 #[.int .i64 v, .slice A n c]).alloc (.cells #[.int .i64 u, .slice B m d] 28)
  have Y : Blk ((w.alloc (.cells #[.int .i64 v, .slice A n c] 28)).alloc (.cells #[.int .i64 u, .slice B m d] 28)) (w.heap.size + 1) 28 #[.int .i64 u, .slice B m d] := by
    have := Blk.new (w.alloc (.cells #[.int .i64 v, .slice A n c] 28)) 28 #[.int .i64 u, .slice B m d]
    simpa using this
  have ha1 := ha.keep hb1
  have hc1 := hb.keep hb1
  generalize hW1 : (w.alloc (.cells #[.int .i64 v, .slice A n c] 28)).alloc (.cells #[.int .i64 u, .slice B m d] 28) = W1 at *
  have hv1 := l10Ok_any _ v A n c bs W1 X ha1 (by omega)
  have HV2 := Lib.hid (fun (w' : World) (h : Below W1.heap.size W1 w') => l10Ok_any _ u B m d ds w' (Y.after h) (hc1.keep h) (by omega))
  by_cases h1 : Design v bs
  · rw [tB_yes h1] at hv1
    by_cases h2 : Design u ds
    · have HY := Lib.hid (tB_yes h2)
      obtain ⟨V, rfl⟩ : ∃ V : Nat, v = (V : Int) := ⟨v.toNat, by have := h1.v1; omega⟩
      obtain ⟨U, rfl⟩ : ∃ U : Nat, u = (U : Int) := ⟨u.toNat, by have := h2.v1; omega⟩
      have HK := Lib.hid (show dsgK (V : Int) bs (U : Int) ds b = samC (inB b 1 20000) (dgK V bs) (dgK U ds) (code2P (dgC V bs) (dgE V bs) (dgC U ds) (dgE U ds) b) by rw [dsgK, tB_yes h1, tB_yes h2]; rfl)
      have HR := Lib.hid (show dsgR (V : Int) bs (U : Int) ds b = samB (inB b 1 20000) (dgK V bs) (dgK U ds) (isoP (dgC V bs) (dgE V bs) (dgC U ds) (dgE U ds) b) by rw [dsgR, tB_yes h1, tB_yes h2]; rfl)
      have HF1 := Lib.hid (fun (w' : World) (h : Below W1.heap.size W1 w') => l23Find_any _ V A n c bs b w' (X.after h) (ha1.keep h) h1)
      have HF2 := Lib.hid (fun (w' : World) (h : Below W1.heap.size W1 w') => l23Find_any _ U B m d ds b w' (Y.after h) (hc1.keep h) h2)
      clear h1 h2
      cases hi : inB b 1 20000 with
      | false =>
        rw [hi] at HK HR
        go_enter Tryz.func9, Tryz.ntmps9
        go_wp2_with fail
        refine hv1.mono ?_
        rintro e w1 ⟨rfl, hd1⟩
        go_wp2_with fail
        refine (HV2.out w1 hd1.below).mono ?_
        rintro e w2 ⟨rfl, hd2⟩
        rw [HY.out]
        have hw2 := below_then hd1.below hd2.below
        clear hd1 hd2 hv1
        go_wp2_with fail
        refine (HF1.out w2 hw2).mono ?_
        rintro e w3 ⟨hb3, p, rfl, -⟩
        rw [hi]
        go_wp2
        go_ret2
        exact ⟨by rw [HK.out, HR.out]; rfl, hb1.trans ((hw2.trans (hb3.mono hw2.size)).mono hb1.size)⟩
      | true =>
        rw [hi, fK_code hi] at HK
        rw [hi, fK_bool] at HR
        by_cases k1 : fK V bs b = 0
        · by_cases k2 : fK U ds b = 0
          · have HK := Lib.hid (show dsgK (V : Int) bs (U : Int) ds b = 0 by rw [HK.out]; simp [k1, k2])
            have HR := Lib.hid (show dsgR (V : Int) bs (U : Int) ds b = sameP (runP (dgC V bs) (dgE V bs) b.toNat) (runP (dgC U ds) (dgE U ds) b.toNat) by rw [HR.out]; simp [k1, k2])
            have K1 := Lib.hid k1
            have K2 := Lib.hid k2
            clear k1 k2
            obtain ⟨ii, hi1, hi0, hi1', hi2⟩ := info_parts graph_info
            go_enter Tryz.func9, Tryz.ntmps9
            go_wp2_with fail
            refine hv1.mono ?_
            rintro e w1 ⟨rfl, hd1⟩
            go_wp2_with fail
            refine (HV2.out w1 hd1.below).mono ?_
            rintro e w2 ⟨rfl, hd2⟩
            rw [HY.out]
            have hw2 := below_then hd1.below hd2.below
            clear hd1 hd2 hv1
            go_wp2_with fail
            refine (HF1.out w2 hw2).mono ?_
            rintro e w3 ⟨hb3, p, rfl, hp⟩
            obtain ⟨GA, gn, gc, GF, gm, gd, O1⟩ := hp hi K1.out
            rw [hi, K1.out]
            simp only [if_true]
            have hw3 := hw2.trans (hb3.mono hw2.size)
            have HO1 := Lib.hid O1
            clear hp O1
            go_wp2_with fail
            refine (HF2.out w3 hw3).mono ?_
            rintro e w4 ⟨hb4, p', rfl, hp'⟩
            obtain ⟨GA', gn', gc', GF', gm', gd', O2⟩ := hp' hi K2.out
            rw [hi, K2.out]
            simp only [if_true]
            have hw4 := hw3.trans (hb4.mono hw3.size)
            have hX := HO1.out.step hb4
            clear hp'
            obtain ⟨w0, rfl, hb0, N, cN, BA, bn, bc, FA, fn, fk, FF, fm, fd, hX⟩ := hX
            obtain ⟨w0', rfl, hb0', N', cN', BA', bn', bc', FA', fn', fk', FF', fm', fd', hY⟩ := O2
            have p7 := hX.cells.1.2.2.2.1
            have p8 := hX.cells.1.2.2.2.2
            have q7 := hY.cells.1.2.2.2.1
            have q8 := hY.cells.1.2.2.2.2
            have l1 := hX.sb.fc.len
            have l2 := hX.sb.fe.len
            have l3 := hY.sb.fc.len
            have l4 := hY.sb.fe.len
            have l5 := hX.sb.lc
            have l6 := hX.sb.le_
            have l7 := hY.sb.lc
            have l8 := hY.sb.le_
            have rX := RG.mk hX.sb.fc.reads hX.sb.fe.reads
            have rY := RG.mk hY.sb.fc.reads hY.sb.fe.reads
            have HSm := Lib.hid (fun (W' : World) (hb : Below w4.heap.size w4 W') => l21Same_any FA fn fk FF fm fd _ _ FA' fn' fk' FF' fm' fd' _ _ W' (rX.keep hb) (rY.keep hb) (by omega) (by omega) (by omega) (by omega))
            have hend := hb1.trans (hw4.mono hb1.size)
            have hsz := Nat.le_trans hb1.size hw4.size
            clear hX hY rX rY l1 l2 l3 l4 l5 l6 l7 l8 hb3 hb4 hw2 hw3 hb0 hb0'
            generalize runP (dgC V bs) (dgE V bs) b.toNat = s1 at *
            generalize runP (dgC U ds) (dgE U ds) b.toNat = s2 at *
            go_wp2
            go_region_held_law (fun w' => Below w4.heap.size w4 w' ∧ w'.cell? ⟨w0.heap.size, 3, none⟩ = some (.slice FA fn fk) ∧ w'.cell? ⟨w0.heap.size, 4, none⟩ = some (.slice FF fm fd) ∧ w'.cell? ⟨w0'.heap.size, 3, none⟩ = some (.slice FA' fn' fk') ∧ w'.cell? ⟨w0'.heap.size, 4, none⟩ = some (.slice FF' fm' fd'))
              (first | exact keep4 (below_drewn _ 1) p7 p8 q7 q8 | exact keep4 (by assumption) p7 p8 q7 q8)
              (first | (go_at_call 34; (with_reducible refine (HSm.out _ ?_).mono ?_); (exact below_drewn _ 1); rintro e w5 ⟨rfl, hb5⟩; have hX5 : Below w4.heap.size w4 w5 := (below_drewn _ 1).trans (hb5.mono (Nat.le_refl _))))
            go_wp2
            go_ret2
            exact ⟨by rw [HR.out, HK.out]; rfl, hend.trans (hX5.mono hsz)⟩
          · have HK2 := Lib.hid (show dsgK (V : Int) bs (U : Int) ds b = fK U ds b by rw [HK.out]; simp [k1])
            have HR2 := Lib.hid (show dsgR (V : Int) bs (U : Int) ds b = false by rw [HR.out]; simp [k2])
            have K1 := Lib.hid k1
            have k2' : (fK U ds b != 0) = true := by simp [k2]
            clear k1 k2
            generalize hf : fK U ds b = f at *
            have HF := Lib.hid hf
            clear hf
            go_enter Tryz.func9, Tryz.ntmps9
            go_wp2_with fail
            refine hv1.mono ?_
            rintro e w1 ⟨rfl, hd1⟩
            go_wp2_with fail
            refine (HV2.out w1 hd1.below).mono ?_
            rintro e w2 ⟨rfl, hd2⟩
            rw [HY.out]
            have hw2 := below_then hd1.below hd2.below
            clear hd1 hd2 hv1
            go_wp2_with fail
            refine (HF1.out w2 hw2).mono ?_
            rintro e w3 ⟨hb3, p, rfl, -⟩
            rw [hi, K1.out]
            simp only [if_true]
            have hw3 := hw2.trans (hb3.mono hw2.size)
            go_wp2_with fail
            refine (HF2.out w3 hw3).mono ?_
            rintro e w4 ⟨hb4, p', rfl, -⟩
            rw [hi, HF.out]
            simp only [if_true]
            have hw4 := hw3.trans (hb4.mono hw3.size)
            go_wp2
            go_ret2
            exact ⟨by rw [HK2.out, HR2.out]; rfl, hb1.trans (hw4.mono hb1.size)⟩
        · have HK2 := Lib.hid (show dsgK (V : Int) bs (U : Int) ds b = fK V bs b by rw [HK.out]; simp [k1])
          have HR2 := Lib.hid (show dsgR (V : Int) bs (U : Int) ds b = false by rw [HR.out]; simp [k1])
          have k1' : (fK V bs b != 0) = true := by simp [k1]
          clear k1
          generalize hf : fK V bs b = f at *
          have HF := Lib.hid hf
          clear hf
          go_enter Tryz.func9, Tryz.ntmps9
          go_wp2_with fail
          refine hv1.mono ?_
          rintro e w1 ⟨rfl, hd1⟩
          go_wp2_with fail
          refine (HV2.out w1 hd1.below).mono ?_
          rintro e w2 ⟨rfl, hd2⟩
          rw [HY.out]
          have hw2 := below_then hd1.below hd2.below
          clear hd1 hd2 hv1
          go_wp2_with fail
          refine (HF1.out w2 hw2).mono ?_
          rintro e w3 ⟨hb3, p, rfl, -⟩
          rw [hi, HF.out]
          simp only [if_true]
          have hw3 := hw2.trans (hb3.mono hw2.size)
          go_wp2
          go_ret2
          exact ⟨by rw [HK2.out, HR2.out]; rfl, hb1.trans (hw3.mono hb1.size)⟩
    · have HY := Lib.hid (tB_no h2)
      have HK := Lib.hid (show dsgK v bs u ds b = 1 by rw [dsgK, tB_no h2]; simp)
      have HR := Lib.hid (show dsgR v bs u ds b = false by rw [dsgR, tB_no h2]; simp)
      clear h1 h2
      go_enter Tryz.func9, Tryz.ntmps9
      go_wp2_with fail
      refine hv1.mono ?_
      rintro e w1 ⟨rfl, hd1⟩
      go_wp2_with fail
      refine (HV2.out w1 hd1.below).mono ?_
      rintro e w2 ⟨rfl, hd2⟩
      rw [HY.out]
      have hw2 := below_then hd1.below hd2.below
      go_wp2
      go_ret2
      exact ⟨by rw [HK.out, HR.out]; rfl, hb1.trans (hw2.mono hb1.size)⟩
  · rw [tB_no h1] at hv1
    have HK := Lib.hid (show dsgK v bs u ds b = 1 by rw [dsgK, tB_no h1]; simp)
    have HR := Lib.hid (show dsgR v bs u ds b = false by rw [dsgR, tB_no h1]; simp)
    clear h1
    go_enter Tryz.func9, Tryz.ntmps9
    go_wp2_with fail
    refine hv1.mono ?_
    rintro e w1 ⟨rfl, hd1⟩
    go_wp2
    go_ret2
    exact ⟨by rw [HK.out, HR.out]; rfl, hb1.trans (hd1.below.mono hb1.size)⟩
end Go.Proofs.YtaphmapkobbfbaaGreat
