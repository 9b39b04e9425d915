/- IsomorphismOf, both sides. No condition beyond those stated. -/
import Derived.Test.YtfhaifgbjpobdaaGreatHB
import Derived.Test.YtfhaifgbjpobdaaGreatHA
set_option linter.unusedVariables false
set_option linter.unusedSimpArgs false
namespace Go.Proofs.YtfhaifgbjpobdaaGreat
open Go.RowKit

noncomputable def isfC (cs : List Int) (es : List Ed) (ds : List Int) (fs : List Ed) (b : Int) : Int := if code2P cs es ds fs b = 0 then (if sameP (runP cs es b.toNat) (runP ds fs b.toNat) then 0 else 3) else code2P cs es ds fs b
noncomputable def isfR (cs : List Int) (es : List Ed) (ds : List Int) (fs : List Ed) (b : Int) : List Int := if code2P cs es ds fs b = 0 then (if sameP (runP cs es b.toNat) (runP ds fs b.toNat) then thenP (row (runP cs es b.toNat).best 0) (invP (row (runP ds fs b.toNat).best 0)) else []) else []
theorem isf_ne {cs : List Int} {es : List Ed} {ds : List Int} {fs : List Ed} {b : Int} (h : code2P cs es ds fs b ≠ 0) : isfC cs es ds fs b = code2P cs es ds fs b ∧ isfR cs es ds fs b = [] := by
  rw [isfC, isfR, if_neg h, if_neg h]; exact ⟨rfl, rfl⟩
theorem isf_no {cs : List Int} {es : List Ed} {ds : List Int} {fs : List Ed} {b : Int} (h : code2P cs es ds fs b = 0) (k : sameP (runP cs es b.toNat) (runP ds fs b.toNat) = false) : isfC cs es ds fs b = 3 ∧ isfR cs es ds fs b = [] := by
  rw [isfC, isfR, if_pos h, if_pos h, k]; exact ⟨rfl, rfl⟩
theorem isf_yes {cs : List Int} {es : List Ed} {ds : List Int} {fs : List Ed} {b : Int} (h : code2P cs es ds fs b = 0) (k : sameP (runP cs es b.toNat) (runP ds fs b.toNat) = true) : isfC cs es ds fs b = 0 ∧ isfR cs es ds fs b = thenP (row (runP cs es b.toNat).best 0) (invP (row (runP ds fs b.toNat).best 0)) := by
  rw [isfC, isfR, if_pos h, if_pos h, k]; exact ⟨rfl, rfl⟩
theorem run_fc_len {cs : List Int} {es : List Ed} {b : Nat} (h : (runP cs es b).spent = false) : (runP cs es b).fc.length = cs.length := by
  have := (runP_seen cs es h).forms _ (row0_mem (runP_best h))
  rw [← this.1, relC_len]
theorem same_len {cs : List Int} {es : List Ed} {ds : List Int} {fs : List Ed} {b : Nat} (h : (runP cs es b).spent = false) (k : (runP ds fs b).spent = false) (hs : sameP (runP cs es b) (runP ds fs b) = true) : cs.length = ds.length := by
  unfold sameP sameG at hs
  rw [Bool.and_eq_true] at hs
  have h1 : (runP cs es b).fc = (runP ds fs b).fc := by simpa using hs.1
  rw [← run_fc_len h, ← run_fc_len k, h1]
theorem run_first {cs : List Int} {es : List Ed} {b : Nat} (h : (runP cs es b).spent = false) : (row (runP cs es b).best 0).length = cs.length ∧ Perm (row (runP cs es b).best 0) := by
  have := runP_rows cs es b _ (row0_mem (runP_best h))
  exact ⟨this.1.len, this.2⟩
theorem perm_bd' {p : List Int} (h : Perm p) {n : Nat} (hl : p.length = n) : ∀ k, k < n → 0 ≤ nth p k ∧ nth p k < (n : Nat) := fun k hk => by
  have := h.bd k (by omega)
  rw [hl] at this
  exact this
set_option maxRecDepth 100000 in
set_option maxHeartbeats 4000000 in
theorem impl_IsomorphismOf (A : Option Addr) (n c : Nat) (F : Option Addr) (m d : Nat) (cs : List Int) (es : List Ed) (A' : Option Addr) (n' c' : Nat) (F' : Option Addr) (m' d' : Nat) (ds : List Int) (fs : List Ed) (b : Int) (w : World) (hG : RG w A n F m cs es) (hH : RG w A' n' F' m' ds fs) (hn : n ≤ 9223372036854775807) (hm : m ≤ 9223372036854775807) (hn' : n' ≤ 9223372036854775807) (hm' : m' ≤ 9223372036854775807) :
    Calls Tryz.prog 7 #[.agg #[.slice A n c, .slice F m d], .agg #[.slice A' n' c', .slice F' m' d'], .int .i64 b] w (RetIC w 2 (isfR cs es ds fs b) (isfC cs es ds fs b)) := by
  have hb1 := below_then (below_alloc w (.cells #[.slice A n c, .slice F m d] 27)) (below_alloc _ (.cells #[.slice A' n' c', .slice F' m' d'] 27))
  have hx := bothExplored_any _ A n c F m d cs es A' n' c' F' m' d' ds fs b (hG.keep hb1) (hH.keep hb1) hn hm hn' hm'
  rcases code2_cases cs es ds fs b with h0 | ⟨h0, h1⟩
  · have HC := Lib.hid h0
    obtain ⟨o1, o2, o3, o4⟩ := code2_zero h0
    obtain ⟨s1, -, hb20⟩ := codeP_ok o3
    obtain ⟨s2, -, -⟩ := codeP_ok o4
    have c64 := o1.clen
    have d64 := o2.clen
    have B1 := Lib.hid (runP_best s1)
    have B2 := Lib.hid (runP_best s2)
    have R1 := Lib.hid (run_first s1)
    have R2 := Lib.hid (run_first s2)
    have SL := Lib.hid (fun h => same_len s1 s2 h)
    have HN := Lib.hid (fun k => isf_no h0 k)
    have HY := Lib.hid (fun k => isf_yes h0 k)
    clear h0 o1 o2 o3 o4 s1 s2
    obtain ⟨ii, hi, hi0, hi1, hi2⟩ := info_parts graph_info
    go_enter Tryz.func7, Tryz.ntmps7
    go_wp2_with fail
    refine hx.mono ?_
    rintro e w2 ⟨hb2, v, u, rfl, hv⟩
    obtain ⟨hX, hY⟩ := hv HC.out
    obtain ⟨w0, rfl, hb0, N, cN, BA, bn, bc, FA, fn, fk, FF, fm, fd, hX⟩ := hX
    obtain ⟨w0', rfl, hb0', N', cN', BA', bn', bc', FA', fn', fk', FF', fm', fd', hY⟩ := hY
    rw [HC.out]
    have p7 := hX.cells.2.2.2.1
    have p8 := hX.cells.2.2.2.2.1
    have p9 := hX.cells.2.2.2.2.2
    have q7 := hY.cells.2.2.2.1
    have q8 := hY.cells.2.2.2.2.1
    have q9 := hY.cells.2.2.2.2.2
    have l1 := hX.sb.fc.len
    have l2 := hX.sb.fe.len
    have l3 := hY.sb.fc.len
    have l4 := hY.sb.fe.len
    have l5 := hX.sb.lc
    have l6 := hX.sb.le_
    have l7 := hY.sb.lc
    have l8 := hY.sb.le_
    have rX := RG.mk hX.sb.fc.reads hX.sb.fe.reads
    have rY := RG.mk hY.sb.fc.reads hY.sb.fe.reads
    obtain ⟨vs, hbv, hba⟩ := hX.sb.best
    obtain ⟨vs', hbv', hba'⟩ := hY.sb.best
    obtain ⟨gb, ⟨P, np, cp⟩, rfl, cP, hP, -⟩ := hbv.first (by rw [← hbv.slen]; exact List.length_pos_iff.2 B1.out) hba
    obtain ⟨gb', ⟨P', np', cp'⟩, rfl, cP', hP', -⟩ := hbv'.first (by rw [← hbv'.slen]; exact List.length_pos_iff.2 B2.out) hba'
    have hbn : 0 < bn := by rw [← hbv.slen]; exact List.length_pos_iff.2 B1.out
    have hbn' : 0 < bn' := by rw [← hbv'.slen]; exact List.length_pos_iff.2 B2.out
    simp only at cP hP cP' hP'
    have HSm := Lib.hid (fun (W' : World) (hb : Below w2.heap.size w2 W') => sameGraph_any FA fn fk FF fm fd _ _ FA' fn' fk' FF' fm' fd' _ _ W' (rX.keep hb) (rY.keep hb) (by omega) (by omega) (by omega) (by omega))
    have hlp := hP.len
    have hlp' := hP'.len
    rw [R1.out.1] at hlp
    rw [R2.out.1] at hlp'
    have RP := Lib.hid hP.reads
    have RP' := Lib.hid hP'.reads
    clear hv hX hY rX rY l1 l2 l3 l4 l5 l6 l7 l8 hx hbv hbv' hba hba' hP hP'
    generalize hS1 : runP cs es b.toNat = s1 at *
    generalize hS2 : runP ds fs b.toNat = s2 at *
    cases hsm : sameG s1.fc s1.fe s2.fc s2.fe with
    | false =>
      rw [hsm] at HSm
      have HR := Lib.hid (HN.out hsm)
      clear hsm hS1 hS2 HN HY
      go_wp2
      go_region_held_law (fun w' => Below w2.heap.size w2 w' ∧ w'.cell? ⟨w0.heap.size, 7, none⟩ = some (.slice FA fn fk) ∧ w'.cell? ⟨w0.heap.size, 8, none⟩ = some (.slice FF fm fd) ∧ w'.cell? ⟨w0'.heap.size, 7, none⟩ = some (.slice FA' fn' fk') ∧ w'.cell? ⟨w0'.heap.size, 8, none⟩ = some (.slice FF' fm' fd'))
        (first | exact keep4 (below_drewn _ 1) p7 p8 q7 q8 | exact keep4 (by assumption) p7 p8 q7 q8)
        (first | (go_at_call 9; (with_reducible refine (HSm.out _ ?_).mono ?_); (exact below_drewn _ 1); rintro e w4 ⟨rfl, hb4⟩; have hX4 : Below w2.heap.size w2 w4 := (below_drewn _ 1).trans (hb4.mono (Nat.le_refl _))))
      go_wp2
      go_ret2
      exact ⟨_, _, _, by rw [HR.out.1]; rfl, by rw [HR.out.2]; exact OI.nil_ _ _ _, (hb1.trans (hb2.mono hb1.size)).trans (hX4.mono (Nat.le_trans hb1.size hb2.size))⟩
    | true =>
      rw [hsm] at HSm
      have HR := Lib.hid (HY.out hsm)
      have hcd := SL.out hsm
      obtain rfl : np = np' := by omega
      have hnp : np ≤ 64 := by omega
      clear hsm hS1 hS2 HN HY SL hcd
      go_wp2
      go_region_held_law (fun w' => Below w2.heap.size w2 w' ∧ w'.cell? ⟨w0.heap.size, 7, none⟩ = some (.slice FA fn fk) ∧ w'.cell? ⟨w0.heap.size, 8, none⟩ = some (.slice FF fm fd) ∧ w'.cell? ⟨w0'.heap.size, 7, none⟩ = some (.slice FA' fn' fk') ∧ w'.cell? ⟨w0'.heap.size, 8, none⟩ = some (.slice FF' fm' fd'))
        (first | exact keep4 (below_drewn _ 1) p7 p8 q7 q8 | exact keep4 (by assumption) p7 p8 q7 q8)
        (first | (go_at_call 9; (with_reducible refine (HSm.out _ ?_).mono ?_); (exact below_drewn _ 1); rintro e w4 ⟨rfl, hb4⟩; have hX4 : Below w2.heap.size w2 w4 := (below_drewn _ 1).trans (hb4.mono (Nat.le_refl _))))
      have p9 := below_cell hX4 p9
      have q9 := below_cell hX4 q9
      have cP := below_cell hX4 cP
      have cP' := below_cell hX4 cP'
      have RP := Lib.hid (RP.out.keep hX4)
      have RP' := Lib.hid (RP'.out.keep hX4)
      have hlq := R2.out.1
      have hlq1 := R1.out.1
      have HInv := Lib.hid (fun (W' : World) (hb : Below w4.heap.size w4 W') => inverse_any P' np cp' _ W' (RP'.out.keep hb) R2.out.2 (by omega))
      have HCmp := Lib.hid (fun (W' : World) (A8 : Option Addr) (c8 : Nat) (hb : Below w4.heap.size w4 W') (ho : RI W' A8 np (invP (row s2.best 0))) => compose_any P np cp _ A8 np c8 _ W' (RP.out.keep hb) ho (perm_bd' R1.out.2 (by omega)) (by omega) (by omega))
      have hil := invP_len (row s2.best 0)
      go_wp2
      go_region_held_law (fun w' => Below w4.heap.size w4 w' ∧ w'.cell? ⟨w0.heap.size, 9, none⟩ = some (.slice (some ⟨gb, 0, none⟩) bn bc) ∧ w'.cell? ⟨gb, 0, none⟩ = some (.slice P np cp) ∧ w'.cell? ⟨w0'.heap.size, 9, none⟩ = some (.slice (some ⟨gb', 0, none⟩) bn' bc') ∧ w'.cell? ⟨gb', 0, none⟩ = some (.slice P' np cp'))
        (first | exact keep4 (below_drewn _ 1) p9 cP q9 cP' | exact keep4 (by assumption) p9 cP q9 cP')
        (first
          | (go_at_call 15; (with_reducible refine (HInv.out _ ?_).mono ?_); (exact below_drewn _ 1); rintro e w5 ⟨A5, n5, c5, rfl, ho5, hb5⟩; have hX5 : Below w4.heap.size w4 w5 := (below_drewn _ 1).trans (hb5.mono (Nat.le_refl _)); obtain rfl : n5 = np := by (have := ho5.len; omega))
          | (go_at_call 14; (with_reducible refine (HCmp.out _ _ _ ?_ ?_).mono ?_); (exact hX5); (exact ho5.reads); rintro e w6 ⟨A6, n6, c6, rfl, ho6, hb6⟩; have hX6 : Below w4.heap.size w4 w6 := hX5.trans (hb6.mono hX5.size)))
      have hw2 := hb1.trans (hb2.mono hb1.size)
      have hw4 := hw2.trans (hX4.mono hw2.size)
      have hw6 := hw4.trans (hX6.mono hw4.size)
      have hsz : w.heap.size ≤ w5.heap.size := Nat.le_trans hw4.size hX5.size
      go_wp2
      go_ret2
      exact ⟨_, _, _, by rw [HR.out.1]; rfl, by rw [HR.out.2]; exact ho6.more hsz, hw6⟩
  · have HR := Lib.hid (isf_ne h0)
    clear h0
    go_enter Tryz.func7, Tryz.ntmps7
    go_wp2_with fail
    refine hx.mono ?_
    rintro e w2 ⟨hb2, v, u, rfl, -⟩
    go_wp2
    go_ret2
    exact ⟨_, _, _, by rw [HR.out.1]; rfl, by rw [HR.out.2]; exact OI.nil_ _ _ _, hb1.trans (hb2.mono hb1.size)⟩


end Go.Proofs.YtfhaifgbjpobdaaGreat
