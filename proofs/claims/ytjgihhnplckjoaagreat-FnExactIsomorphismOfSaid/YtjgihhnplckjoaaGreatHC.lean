/- IsomorphismOf, both sides. No condition beyond those stated. -/
import Derived.Test.YtjgihhnplckjoaaGreatHB
import Derived.Test.YtjgihhnplckjoaaGreatHA
import Derived.Test.YtjgihhnplckjoaaGreatGX
set_option linter.unusedVariables false
set_option linter.unusedSimpArgs false
namespace Go.Proofs.YtjgihhnplckjoaaGreat
open Go.RowKit

noncomputable def isfC (cs : List Int) (es : List Ed) (ds : List Int) (fs : List Ed) (b : Int) : Int := if code2P cs es ds fs b = 0 then (if sameP (runP cs es b.toNat) (runP ds fs b.toNat) then 0 else 3) else code2P cs es ds fs b
noncomputable def isfR (cs : List Int) (es : List Ed) (ds : List Int) (fs : List Ed) (b : Int) : List Int := if code2P cs es ds fs b = 0 then (if sameP (runP cs es b.toNat) (runP ds fs b.toNat) then thenP (row (runP cs es b.toNat).best 0) (invP (row (runP ds fs b.toNat).best 0)) else []) else []
theorem isf_ne {cs : List Int} {es : List Ed} {ds : List Int} {fs : List Ed} {b : Int} (h : code2P cs es ds fs b ≠ 0) : isfC cs es ds fs b = code2P cs es ds fs b ∧ isfR cs es ds fs b = [] := by
  rw [isfC, isfR, if_neg h, if_neg h]; exact ⟨rfl, rfl⟩
theorem isf_no {cs : List Int} {es : List Ed} {ds : List Int} {fs : List Ed} {b : Int} (h : code2P cs es ds fs b = 0) (k : sameP (runP cs es b.toNat) (runP ds fs b.toNat) = false) : isfC cs es ds fs b = 3 ∧ isfR cs es ds fs b = [] := by
  rw [isfC, isfR, if_pos h, if_pos h, k]; exact ⟨rfl, rfl⟩
theorem isf_yes {cs : List Int} {es : List Ed} {ds : List Int} {fs : List Ed} {b : Int} (h : code2P cs es ds fs b = 0) (k : sameP (runP cs es b.toNat) (runP ds fs b.toNat) = true) : isfC cs es ds fs b = 0 ∧ isfR cs es ds fs b = thenP (row (runP cs es b.toNat).best 0) (invP (row (runP ds fs b.toNat).best 0)) := by
  rw [isfC, isfR, if_pos h, if_pos h, k]; exact ⟨rfl, rfl⟩
theorem run_fc_len {cs : List Int} {es : List Ed} {b : Nat} (h : (runP cs es b).spent = false) : (runP cs es b).fc.length = cs.length := by
  have := (runP_seen cs es h).forms _ (row0_mem (runP_best h))
  rw [← this.1, relC_len]
theorem same_len {cs : List Int} {es : List Ed} {ds : List Int} {fs : List Ed} {b : Nat} (h : (runP cs es b).spent = false) (k : (runP ds fs b).spent = false) (hs : sameP (runP cs es b) (runP ds fs b) = true) : cs.length = ds.length := by
  unfold sameP sameG at hs
  rw [Bool.and_eq_true] at hs
  have h1 : (runP cs es b).fc = (runP ds fs b).fc := by simpa using hs.1
  rw [← run_fc_len h, ← run_fc_len k, h1]
theorem run_first {cs : List Int} {es : List Ed} {b : Nat} (h : (runP cs es b).spent = false) : (row (runP cs es b).best 0).length = cs.length ∧ Perm (row (runP cs es b).best 0) := by
  have := runP_rows cs es b _ (row0_mem (runP_best h))
  exact ⟨this.1.len, this.2⟩
theorem perm_bd' {p : List Int} (h : Perm p) {n : Nat} (hl : p.length = n) : ∀ k, k < n → 0 ≤ nth p k ∧ nth p k < (n : Nat) := fun k hk => by
  have := h.bd k (by omega)
  rw [hl] at this
  exact this
set_option maxRecDepth 100000 in
set_option maxHeartbeats 4000000 in
theorem impl_IsomorphismOf (A : Option Addr) (n c : Nat) (F : Option Addr) (m d : Nat) (cs : List Int) (es : List Ed) (A' : Option Addr) (n' c' : Nat) (F' : Option Addr) (m' d' : Nat) (ds : List Int) (fs : List Ed) (b : Int) (w : World) (hG : RG w A n F m cs es) (hH : RG w A' n' F' m' ds fs) (hn : n ≤ 9223372036854775807) (hm : m ≤ 9223372036854775807) (hn' : n' ≤ 9223372036854775807) (hm' : m' ≤ 9223372036854775807) :
    Calls Tryz.prog 32 #[.agg #[.slice A n c, .slice F m d], .agg #[.slice A' n' c', .slice F' m' d'], .int .i64 b] w (RetIC w 2 (isfR cs es ds fs b) (isfC cs es ds fs b)) := by
  have hb1 := below_then (below_alloc w (.cells #[.slice A n c, .slice F m d] 31)) (below_alloc _ (.cells #[.slice A' n' c', .slice F' m' d'] 31))
  have hx := bothExplored_any _ A n c F m d cs es A' n' c' F' m' d' ds fs b (hG.keep hb1) (hH.keep hb1) hn hm hn' hm'
  rcases code2_cases cs es ds fs b with h0 | ⟨h0, h1⟩
  · have HC := Lib.hid h0
    obtain ⟨o1, o2, o3, o4⟩ := code2_zero h0
    obtain ⟨s1, -, hb20⟩ := codeP_ok o3
    obtain ⟨s2, -, -⟩ := codeP_ok o4
    have c64 := o1.clen
    have d64 := o2.clen
    have B1 := Lib.hid (runP_best s1)
    have B2 := Lib.hid (runP_best s2)
    have R1 := Lib.hid (run_first s1)
    have R2 := Lib.hid (run_first s2)
    have SL := Lib.hid (fun h => same_len s1 s2 h)
    have HN := Lib.hid (fun k => isf_no h0 k)
    have HY := Lib.hid (fun k => isf_yes h0 k)
    clear h0 o1 o2 o3 o4 s1 s2
    obtain ⟨ii, hi, hi0, hi1, hi2⟩ := info_parts graph_info
    go_enter Tryz.func32, Tryz.ntmps32
    go_wp2_with fail
    refine hx.mono ?_
    rintro e w2 ⟨hb2, v, u, rfl, hv⟩
    obtain ⟨hX, hY⟩ := hv HC.out
    obtain ⟨w0, rfl, hb0, N, cN, BA, bn, bc, FA, fn, fk, FF, fm, fd, hX⟩ := hX
    obtain ⟨w0', rfl, hb0', N', cN', BA', bn', bc', FA', fn', fk', FF', fm', fd', hY⟩ := hY
    rw [HC.out]
    have p7 := hX.cells.2.2.2.1
    have p8 := hX.cells.2.2.2.2.1
    have p9 := hX.cells.2.2.2.2.2
    have q7 := hY.cells.2.2.2.1
    have q8 := hY.cells.2.2.2.2.1
    have q9 := hY.cells.2.2.2.2.2
    have l1 := hX.sb.fc.len
    have l2 := hX.sb.fe.len
    have l3 := hY.sb.fc.len
    have l4 := hY.sb.fe.len
    have l5 := hX.sb.lc
    have l6 := hX.sb.le_
    have l7 := hY.sb.lc
    have l8 := hY.sb.le_
    have rX := RG.mk hX.sb.fc.reads hX.sb.fe.reads
    have rY := RG.mk hY.sb.fc.reads hY.sb.fe.reads
    obtain ⟨vs, hbv, hba⟩ := hX.sb.best
    obtain ⟨vs', hbv', hba'⟩ := hY.sb.best
    obtain ⟨gb, ⟨P, np, cp⟩, rfl, cP, hP, -⟩ := hbv.first (by rw [← hbv.slen]; exact List.length_pos_iff.2 B1.out) hba
    obtain ⟨gb', ⟨P', np', cp'⟩, rfl, cP', hP', -⟩ := hbv'.first (by rw [← hbv'.slen]; exact List.length_pos_iff.2 B2.out) hba'
    have hbn : 0 < bn := by rw [← hbv.slen]; exact List.length_pos_iff.2 B1.out
    have hbn' : 0 < bn' := by rw [← hbv'.slen]; exact List.length_pos_iff.2 B2.out
    simp only at cP hP cP' hP'
    have HSm := Lib.hid (fun (W' : World) (hb : Below w2.heap.size w2 W') => sameGraph_any FA fn fk FF fm fd _ _ FA' fn' fk' FF' fm' fd' _ _ W' (rX.keep hb) (rY.keep hb) (by omega) (by omega) (by omega) (by omega))
    have hlp := hP.len
    have hlp' := hP'.len
    rw [R1.out.1] at hlp
    rw [R2.out.1] at hlp'
    have RP := Lib.hid hP.reads
    have RP' := Lib.hid hP'.reads
    clear hv hX hY rX rY l1 l2 l3 l4 l5 l6 l7 l8 hx hbv hbv' hba hba' hP hP'
    generalize hS1 : runP cs es b.toNat = s1 at *
    generalize hS2 : runP ds fs b.toNat = s2 at *
    cases hsm : sameG s1.fc s1.fe s2.fc s2.fe with
    | false =>
      rw [hsm] at HSm
      have HR := Lib.hid (HN.out hsm)
      clear hsm hS1 hS2 HN HY
      go_wp2
      go_region_held_law (fun w' => Below w2.heap.size w2 w' ∧ w'.cell? ⟨w0.heap.size, 7, none⟩ = some (.slice FA fn fk) ∧ w'.cell? ⟨w0.heap.size, 8, none⟩ = some (.slice FF fm fd) ∧ w'.cell? ⟨w0'.heap.size, 7, none⟩ = some (.slice FA' fn' fk') ∧ w'.cell? ⟨w0'.heap.size, 8, none⟩ = some (.slice FF' fm' fd'))
        (first | exact keep4 (below_drewn _ 1) p7 p8 q7 q8 | exact keep4 (by assumption) p7 p8 q7 q8)
        (first | (go_at_call 46; (with_reducible refine (HSm.out _ ?_).mono ?_); (exact below_drewn _ 1); rintro e w4 ⟨rfl, hb4⟩; have hX4 : Below w2.heap.size w2 w4 := (below_drewn _ 1).trans (hb4.mono (Nat.le_refl _))))
      go_wp2
      go_ret2
      exact ⟨_, _, _, by rw [HR.out.1]; rfl, by rw [HR.out.2]; exact OI.nil_ _ _ _, (hb1.trans (hb2.mono hb1.size)).trans (hX4.mono (Nat.le_trans hb1.size hb2.size))⟩
    | true =>
      rw [hsm] at HSm
      have HR := Lib.hid (HY.out hsm)
      have hcd := SL.out hsm
      obtain rfl : np = np' := by omega
      have hnp : np ≤ 64 := by omega
      clear hsm hS1 hS2 HN HY SL hcd
      go_wp2
      go_region_held_law (fun w' => Below w2.heap.size w2 w' ∧ w'.cell? ⟨w0.heap.size, 7, none⟩ = some (.slice FA fn fk) ∧ w'.cell? ⟨w0.heap.size, 8, none⟩ = some (.slice FF fm fd) ∧ w'.cell? ⟨w0'.heap.size, 7, none⟩ = some (.slice FA' fn' fk') ∧ w'.cell? ⟨w0'.heap.size, 8, none⟩ = some (.slice FF' fm' fd'))
        (first | exact keep4 (below_drewn _ 1) p7 p8 q7 q8 | exact keep4 (by assumption) p7 p8 q7 q8)
        (first | (go_at_call 46; (with_reducible refine (HSm.out _ ?_).mono ?_); (exact below_drewn _ 1); rintro e w4 ⟨rfl, hb4⟩; have hX4 : Below w2.heap.size w2 w4 := (below_drewn _ 1).trans (hb4.mono (Nat.le_refl _))))
      have p9 := below_cell hX4 p9
      have q9 := below_cell hX4 q9
      have cP := below_cell hX4 cP
      have cP' := below_cell hX4 cP'
      have RP := Lib.hid (RP.out.keep hX4)
      have RP' := Lib.hid (RP'.out.keep hX4)
      have hlq := R2.out.1
      have hlq1 := R1.out.1
      have HInv := Lib.hid (fun (W' : World) (hb : Below w4.heap.size w4 W') => inverse_any P' np cp' _ W' (RP'.out.keep hb) R2.out.2 (by omega))
      have HCmp := Lib.hid (fun (W' : World) (A8 : Option Addr) (c8 : Nat) (hb : Below w4.heap.size w4 W') (ho : RI W' A8 np (invP (row s2.best 0))) => compose_any P np cp _ A8 np c8 _ W' (RP.out.keep hb) ho (perm_bd' R1.out.2 (by omega)) (by omega) (by omega))
      have hil := invP_len (row s2.best 0)
      go_wp2
      go_region_held_law (fun w' => Below w4.heap.size w4 w' ∧ w'.cell? ⟨w0.heap.size, 9, none⟩ = some (.slice (some ⟨gb, 0, none⟩) bn bc) ∧ w'.cell? ⟨gb, 0, none⟩ = some (.slice P np cp) ∧ w'.cell? ⟨w0'.heap.size, 9, none⟩ = some (.slice (some ⟨gb', 0, none⟩) bn' bc') ∧ w'.cell? ⟨gb', 0, none⟩ = some (.slice P' np cp'))
        (first | exact keep4 (below_drewn _ 1) p9 cP q9 cP' | exact keep4 (by assumption) p9 cP q9 cP')
        (first
          | (go_at_call 55; (with_reducible refine (HInv.out _ ?_).mono ?_); (exact below_drewn _ 1); rintro e w5 ⟨A5, n5, c5, rfl, ho5, hb5⟩; have hX5 : Below w4.heap.size w4 w5 := (below_drewn _ 1).trans (hb5.mono (Nat.le_refl _)); obtain rfl : n5 = np := by (have := ho5.len; omega))
          | (go_at_call 54; (with_reducible refine (HCmp.out _ _ _ ?_ ?_).mono ?_); (exact hX5); (exact ho5.reads); rintro e w6 ⟨A6, n6, c6, rfl, ho6, hb6⟩; have hX6 : Below w4.heap.size w4 w6 := hX5.trans (hb6.mono hX5.size)))
      have hw2 := hb1.trans (hb2.mono hb1.size)
      have hw4 := hw2.trans (hX4.mono hw2.size)
      have hw6 := hw4.trans (hX6.mono hw4.size)
      have hsz : w.heap.size ≤ w5.heap.size := Nat.le_trans hw4.size hX5.size
      go_wp2
      go_ret2
      exact ⟨_, _, _, by rw [HR.out.1]; rfl, by rw [HR.out.2]; exact ho6.more hsz, hw6⟩
  · have HR := Lib.hid (isf_ne h0)
    clear h0
    go_enter Tryz.func32, Tryz.ntmps32
    go_wp2_with fail
    refine hx.mono ?_
    rintro e w2 ⟨hb2, v, u, rfl, -⟩
    go_wp2
    go_ret2
    exact ⟨_, _, _, by rw [HR.out.1]; rfl, by rw [HR.out.2]; exact OI.nil_ _ _ _, hb1.trans (hb2.mono hb1.size)⟩

set_option maxRecDepth 100000 in
set_option maxHeartbeats 4000000 in
theorem spec_IsomorphismOf (A : Option Addr) (n c : Nat) (F : Option Addr) (m d : Nat) (cs : List Int) (es : List Ed) (A' : Option Addr) (n' c' : Nat) (F' : Option Addr) (m' d' : Nat) (ds : List Int) (fs : List Ed) (b : Int) (w : World) (hG : RG w A n F m cs es) (hH : RG w A' n' F' m' ds fs) (hn : n ≤ 9223372036854775807) (hm : m ≤ 9223372036854775807) (hn' : n' ≤ 9223372036854775807) (hm' : m' ≤ 9223372036854775807) :
    Calls Tryz.prog 31 #[.agg #[.slice A n c, .slice F m d], .agg #[.slice A' n' c', .slice F' m' d'], .int .i64 b] w (RetIC w 2 (isfR cs es ds fs b) (isfC cs es ds fs b)) := by
  have hb1 := below_then (below_alloc w (.cells #[.slice A n c, .slice F m d] 31)) (below_alloc _ (.cells #[.slice A' n' c', .slice F' m' d'] 31))
  have hx := l22Two_any _ A n c F m d cs es A' n' c' F' m' d' ds fs b (hG.keep hb1) (hH.keep hb1) hn hm hn' hm'
  rcases code2_cases cs es ds fs b with h0 | ⟨h0, h1⟩
  · have HC := Lib.hid h0
    obtain ⟨o1, o2, o3, o4⟩ := code2_zero h0
    obtain ⟨s1, -, hb20⟩ := codeP_ok o3
    obtain ⟨s2, -, -⟩ := codeP_ok o4
    have c64 := o1.clen
    have d64 := o2.clen
    have B1 := Lib.hid (runP_best s1)
    have B2 := Lib.hid (runP_best s2)
    have R1 := Lib.hid (run_first s1)
    have R2 := Lib.hid (run_first s2)
    have SL := Lib.hid (fun h => same_len s1 s2 h)
    have HN := Lib.hid (fun k => isf_no h0 k)
    have HY := Lib.hid (fun k => isf_yes h0 k)
    clear h0 o1 o2 o3 o4 s1 s2
    obtain ⟨ii, hi, hi0, hi1, hi2⟩ := info_parts graph_info
    go_enter Tryz.func31, Tryz.ntmps31
    go_wp2_with fail
    refine hx.mono ?_
    rintro e w2 ⟨hb2, v, u, rfl, hv⟩
    obtain ⟨hX, hY⟩ := hv HC.out
    obtain ⟨w0, rfl, hb0, N, cN, BA, bn, bc, FA, fn, fk, FF, fm, fd, hX⟩ := hX
    obtain ⟨w0', rfl, hb0', N', cN', BA', bn', bc', FA', fn', fk', FF', fm', fd', hY⟩ := hY
    rw [HC.out]
    have p7 := hX.cells.1.2.2.2.1
    have p8 := hX.cells.1.2.2.2.2
    have p9 := hX.cells.2.1
    have q7 := hY.cells.1.2.2.2.1
    have q8 := hY.cells.1.2.2.2.2
    have q9 := hY.cells.2.1
    have l1 := hX.sb.fc.len
    have l2 := hX.sb.fe.len
    have l3 := hY.sb.fc.len
    have l4 := hY.sb.fe.len
    have l5 := hX.sb.lc
    have l6 := hX.sb.le_
    have l7 := hY.sb.lc
    have l8 := hY.sb.le_
    have rX := RG.mk hX.sb.fc.reads hX.sb.fe.reads
    have rY := RG.mk hY.sb.fc.reads hY.sb.fe.reads
    obtain ⟨vs, hbv, hba⟩ := hX.sb.best
    obtain ⟨vs', hbv', hba'⟩ := hY.sb.best
    obtain ⟨gb, ⟨P, np, cp⟩, rfl, cP, hP, -⟩ := hbv.first (by rw [← hbv.slen]; exact List.length_pos_iff.2 B1.out) hba
    obtain ⟨gb', ⟨P', np', cp'⟩, rfl, cP', hP', -⟩ := hbv'.first (by rw [← hbv'.slen]; exact List.length_pos_iff.2 B2.out) hba'
    have hbn : 0 < bn := by rw [← hbv.slen]; exact List.length_pos_iff.2 B1.out
    have hbn' : 0 < bn' := by rw [← hbv'.slen]; exact List.length_pos_iff.2 B2.out
    simp only at cP hP cP' hP'
    have HSm := Lib.hid (fun (W' : World) (hb : Below w2.heap.size w2 W') => l21Same_any FA fn fk FF fm fd _ _ FA' fn' fk' FF' fm' fd' _ _ W' (rX.keep hb) (rY.keep hb) (by omega) (by omega) (by omega) (by omega))
    have hlp := hP.len
    have hlp' := hP'.len
    rw [R1.out.1] at hlp
    rw [R2.out.1] at hlp'
    have RP := Lib.hid hP.reads
    have RP' := Lib.hid hP'.reads
    clear hv hX hY rX rY l1 l2 l3 l4 l5 l6 l7 l8 hx hbv hbv' hba hba' hP hP'
    generalize hS1 : runP cs es b.toNat = s1 at *
    generalize hS2 : runP ds fs b.toNat = s2 at *
    cases hsm : sameG s1.fc s1.fe s2.fc s2.fe with
    | false =>
      rw [hsm] at HSm
      have HR := Lib.hid (HN.out hsm)
      clear hsm hS1 hS2 HN HY
      go_wp2
      go_region_held_law (fun w' => Below w2.heap.size w2 w' ∧ w'.cell? ⟨w0.heap.size, 3, none⟩ = some (.slice FA fn fk) ∧ w'.cell? ⟨w0.heap.size, 4, none⟩ = some (.slice FF fm fd) ∧ w'.cell? ⟨w0'.heap.size, 3, none⟩ = some (.slice FA' fn' fk') ∧ w'.cell? ⟨w0'.heap.size, 4, none⟩ = some (.slice FF' fm' fd'))
        (first | exact keep4 (below_drewn _ 1) p7 p8 q7 q8 | exact keep4 (by assumption) p7 p8 q7 q8)
        (first | (go_at_call 44; (with_reducible refine (HSm.out _ ?_).mono ?_); (exact below_drewn _ 1); rintro e w4 ⟨rfl, hb4⟩; have hX4 : Below w2.heap.size w2 w4 := (below_drewn _ 1).trans (hb4.mono (Nat.le_refl _))))
      go_wp2
      go_ret2
      exact ⟨_, _, _, by rw [HR.out.1]; rfl, by rw [HR.out.2]; exact OI.nil_ _ _ _, (hb1.trans (hb2.mono hb1.size)).trans (hX4.mono (Nat.le_trans hb1.size hb2.size))⟩
    | true =>
      rw [hsm] at HSm
      have HR := Lib.hid (HY.out hsm)
      have hcd := SL.out hsm
      obtain rfl : np = np' := by omega
      have hnp : np ≤ 64 := by omega
      clear hsm hS1 hS2 HN HY SL hcd
      go_wp2
      go_region_held_law (fun w' => Below w2.heap.size w2 w' ∧ w'.cell? ⟨w0.heap.size, 3, none⟩ = some (.slice FA fn fk) ∧ w'.cell? ⟨w0.heap.size, 4, none⟩ = some (.slice FF fm fd) ∧ w'.cell? ⟨w0'.heap.size, 3, none⟩ = some (.slice FA' fn' fk') ∧ w'.cell? ⟨w0'.heap.size, 4, none⟩ = some (.slice FF' fm' fd'))
        (first | exact keep4 (below_drewn _ 1) p7 p8 q7 q8 | exact keep4 (by assumption) p7 p8 q7 q8)
        (first | (go_at_call 44; (with_reducible refine (HSm.out _ ?_).mono ?_); (exact below_drewn _ 1); rintro e w4 ⟨rfl, hb4⟩; have hX4 : Below w2.heap.size w2 w4 := (below_drewn _ 1).trans (hb4.mono (Nat.le_refl _))))
      have p9 := below_cell hX4 p9
      have q9 := below_cell hX4 q9
      have cP := below_cell hX4 cP
      have cP' := below_cell hX4 cP'
      have RP := Lib.hid (RP.out.keep hX4)
      have RP' := Lib.hid (RP'.out.keep hX4)
      have hlq := R2.out.1
      have hlq1 := R1.out.1
      have HThn := Lib.hid (fun (W' : World) (hb : Below w4.heap.size w4 W') => l22Then_any P np cp _ P' np cp' _ W' (RP.out.keep hb) (RP'.out.keep hb) R2.out.2 (perm_bd' R1.out.2 (by omega)) (by omega) (by omega))
      go_wp2
      go_region_held_law (fun w' => Below w4.heap.size w4 w' ∧ w'.cell? ⟨w0.heap.size, 5, none⟩ = some (.slice (some ⟨gb, 0, none⟩) bn bc) ∧ w'.cell? ⟨gb, 0, none⟩ = some (.slice P np cp) ∧ w'.cell? ⟨w0'.heap.size, 5, none⟩ = some (.slice (some ⟨gb', 0, none⟩) bn' bc') ∧ w'.cell? ⟨gb', 0, none⟩ = some (.slice P' np cp'))
        (first | exact keep4 (below_drewn _ 1) p9 cP q9 cP' | exact keep4 (by assumption) p9 cP q9 cP')
        (first
          | (go_at_call 53; (with_reducible refine (HThn.out _ ?_).mono ?_); (exact below_drewn _ 1); rintro e w6 ⟨A6, n6, c6, rfl, ho6, hb6⟩; have hX6 : Below w4.heap.size w4 w6 := (below_drewn _ 1).trans (hb6.mono (Nat.le_refl _))))
      have hw2 := hb1.trans (hb2.mono hb1.size)
      have hw4 := hw2.trans (hX4.mono hw2.size)
      have hw6 := hw4.trans (hX6.mono hw4.size)
      have ho7 := ho6.more (B' := w.heap.size) hw4.size
      go_wp2
      go_ret2
      exact ⟨_, _, _, by rw [HR.out.1]; rfl, by rw [HR.out.2]; exact ho7, hw6⟩
  · have HR := Lib.hid (isf_ne h0)
    clear h0
    go_enter Tryz.func31, Tryz.ntmps31
    go_wp2_with fail
    refine hx.mono ?_
    rintro e w2 ⟨hb2, v, u, rfl, -⟩
    go_wp2
    go_ret2
    exact ⟨_, _, _, by rw [HR.out.1]; rfl, by rw [HR.out.2]; exact OI.nil_ _ _ _, hb1.trans (hb2.mono hb1.size)⟩

end Go.Proofs.YtjgihhnplckjoaaGreat
/- The law on IsomorphismOf. No condition beyond those stated. -/
namespace Go.Proofs.YtjgihhnplckjoaaGreat
open Go.RowKit

/-- between the calls of a law: the reference's list, read since w2; the program's, from B on and below D -/
structure LLi (w w2 w' : World) (q y : List Int) (B D : Nat) (A2 : Option Addr) (n2 : Nat) (A4 : Option Addr) (n4 c4 : Nat) : Prop where
  bw : Below w.heap.size w w2
  b2 : Below w2.heap.size w2 w'
  r2 : RI w2 A2 n2 q
  o4 : OI w' B 2 A4 n4 c4 y
  l4 : ∀ k, blk A4 = some k → k < D
  hB : w2.heap.size ≤ B
section
variable {w w2 w' w'' : World} {q y y' : List Int} {B D : Nat} {A2 : Option Addr} {n2 : Nat} {A4 : Option Addr} {n4 c4 : Nat}
theorem LLi.below (h : LLi w w2 w' q y B D A2 n2 A4 n4 c4) : Below w.heap.size w w' := h.bw.trans (h.b2.mono h.bw.size)
theorem LLi.step (h : LLi w w2 w' q y B D A2 n2 A4 n4 c4) (hb : Below w'.heap.size w' w'') : LLi w w2 w'' q y B D A2 n2 A4 n4 c4 := ⟨h.bw, h.b2.trans (hb.mono h.b2.size), h.r2, h.o4.below hb, h.l4, h.hB⟩
theorem LLi.mid {B' D' : Nat} (h : LLi w w2 w' q y B D A2 n2 A4 n4 c4) (hm : Mid w' w'' B' D') (h1 : w2.heap.size ≤ B') (ho : D' ≤ B ∨ D ≤ B') : LLi w w2 w'' q y B D A2 n2 A4 n4 c4 :=
  ⟨h.bw, h.b2.trans ((Mid.below (B := w2.heap.size) (D := D') ⟨hm.os, hm.tape, hm.output, hm.size, fun k hk hb => hm.blk k hk (hb.elim (fun h => .inl (by omega)) .inr)⟩ h.b2.size)), h.r2, h.o4.mid hm (fun b hb => by have := (h.o4.os.lt hb).1; have := h.l4 b hb; omega), h.l4, h.hB⟩
theorem LLi.marks (h : LLi w w2 w' q y B D A2 n2 A4 n4 c4) (hg : w'.grownBy w'' (blk A4)) : Mid w' w'' B D := Mid.grown hg fun b hb => ⟨(h.o4.os.lt hb).1, h.l4 b hb⟩
theorem LLi.marked (h : LLi w w2 w' q y B D A2 n2 A4 n4 c4) (hm : Mid w' w'' B D) (ho : OI w'' B 2 A4 n4 c4 y') : LLi w w2 w'' q y' B D A2 n2 A4 n4 c4 :=
  ⟨h.bw, h.b2.trans ((Mid.below (B := w2.heap.size) (D := D) ⟨hm.os, hm.tape, hm.output, hm.size, fun k hk hb => hm.blk k hk (hb.elim (fun h' => .inl (by have := h.hB; omega)) .inr)⟩ h.b2.size)), h.r2, ho, h.l4, h.hB⟩
theorem LLi.rd (h : LLi w w2 w' q y B D A2 n2 A4 n4 c4) : RI w' A2 n2 q := h.r2.keep h.b2
end
theorem isfR_len (cs : List Int) (es : List Ed) (ds : List Int) (fs : List Ed) (b : Int) : (isfR cs es ds fs b).length ≤ 1048576 := by
  rcases code2_cases cs es ds fs b with h | ⟨h, _⟩
  · obtain ⟨o1, o2, o3, o4⟩ := code2_zero h
    obtain ⟨s1, -, -⟩ := codeP_ok o3
    cases hs : sameP (runP cs es b.toNat) (runP ds fs b.toNat) with
    | false => rw [(isf_no h hs).2]; simp
    | true =>
      rw [(isf_yes h hs).2, thenP_len, (run_first s1).1]
      have := o1.clen
      omega
  · rw [(isf_ne h).2]; simp
set_option maxRecDepth 100000 in
set_option maxHeartbeats 4000000 in
theorem law_IsomorphismOf_ok (A : Option Addr) (n c : Nat) (F : Option Addr) (m d : Nat) (cs : List Int) (es : List Ed) (A' : Option Addr) (n' c' : Nat) (F' : Option Addr) (m' d' : Nat) (ds : List Int) (fs : List Ed) (b : Int) (w : World) (ha : RG w A n F m cs es) (hh : RG w A' n' F' m' ds fs) (hs : (n : Int) + m ≤ 1048576) (hs' : (n' : Int) + m' ≤ 1048576 - (n + m)) (q : List Int) (cd : Int) (hq : q.length ≤ 1048576)
    (hspec : ∀ (A : Option Addr) (n c : Nat) (F : Option Addr) (m d : Nat) (A' : Option Addr) (n' c' : Nat) (F' : Option Addr) (m' d' : Nat) (w : World), RG w A n F m cs es → RG w A' n' F' m' ds fs → n ≤ 1048576 → m ≤ 1048576 → n' ≤ 1048576 → m' ≤ 1048576 → Calls Tryz.prog 31 #[.agg #[.slice A n c, .slice F m d], .agg #[.slice A' n' c', .slice F' m' d'], .int .i64 b] w (RetIC w 2 q cd))
    (himpl : ∀ (A : Option Addr) (n c : Nat) (F : Option Addr) (m d : Nat) (A' : Option Addr) (n' c' : Nat) (F' : Option Addr) (m' d' : Nat) (w : World), RG w A n F m cs es → RG w A' n' F' m' ds fs → n ≤ 1048576 → m ≤ 1048576 → n' ≤ 1048576 → m' ≤ 1048576 → Calls Tryz.prog 32 #[.agg #[.slice A n c, .slice F m d], .agg #[.slice A' n' c', .slice F' m' d'], .int .i64 b] w (RetIC w 2 q cd)) :
    Calls Tryz.prog 8 #[.agg #[.slice A n c, .slice F m d], .agg #[.slice A' n' c', .slice F' m' d'], .int .i64 b] w fun e w' => e = .returned (.bool true) ∧ Below w.heap.size w w' := by
  have hla := Lib.hid ha.ri.len
  have hle := Lib.hid ha.re.len
  have hla' := Lib.hid hh.ri.len
  have hle' := Lib.hid hh.re.len
  obtain ⟨bz1, bz2, bz3, bz4⟩ : n ≤ 1048576 ∧ m ≤ 1048576 ∧ n' ≤ 1048576 ∧ m' ≤ 1048576 := by omega
  have E1 := Lib.hid (szF_parts hs)
  have hbp : (0 : Int) ≤ 1048576 - (n + m) ∧ (1048576 - (n + m) : Int) ≤ 1048576 := by omega
  generalize hbk : (1048576 - ((n : Int) + m)) = bk at *
  have E2 := Lib.hid (szF_parts hs')
  have hbp2 : (0 : Int) ≤ bk - (n' + m') := by omega
  generalize hbk2 : (bk - ((n' : Int) + m')) = bk2 at *
  have HS := Lib.hid hspec
  have HI := Lib.hid himpl
  obtain ⟨hbp, hbp'⟩ := hbp
  clear hbk hbk2 hspec himpl
  have p1 := (Blk.new w 25 #[.slice A n c, .slice F m d]).alloc (.cells #[.slice A' n' c', .slice F' m' d'] 25)
  have p2 : Blk ((w.alloc (.cells #[.slice A n c, .slice F m d] 25)).alloc (.cells #[.slice A' n' c', .slice F' m' d'] 25)) (w.heap.size + 1) 25 #[.slice A' n' c', .slice F' m' d'] := by
    have := Blk.new (w.alloc (.cells #[.slice A n c, .slice F m d] 25)) 25 #[.slice A' n' c', .slice F' m' d']
    simpa using this
  have b1 := below_then (below_alloc w (.cells #[.slice A n c, .slice F m d] 25)) (below_alloc _ (.cells #[.slice A' n' c', .slice F' m' d'] 25))
  go_enter Tryz.func8, Tryz.ntmps8
  go_wp2_with fail
  refine (szGraph_any 1048576 A n c F m d _ (by omega) (by omega) (by omega) (by omega)).mono ?_
  rintro e w0 ⟨rfl, hb0⟩
  rw [E1.out]
  have q1 := p1.after hb0
  have q2 := p2.after hb0
  have b0 := below_then b1 hb0
  clear p1 p2 b1 hb0
  obtain ⟨u0, u1⟩ := q1.cells2
  obtain ⟨v0, v1⟩ := q2.cells2
  go_wp2_with fail
  refine (szGraph_any bk A' n' c' F' m' d' _ (by omega) (by omega) (by omega) (by omega)).mono ?_
  rintro e w1 ⟨rfl, hb1⟩
  rw [E2.out]
  have q1 := q1.after hb1
  have q2 := q2.after hb1
  have b1 := below_then b0 hb1
  clear b0 hb1 u0 u1 v0 v1
  obtain ⟨u0, u1⟩ := q1.cells2
  obtain ⟨v0, v1⟩ := q2.cells2
  have HT := Lib.hid (fun (W' : World) (hb : Below w1.heap.size w1 W') => toGraph_any A n c F m d cs es W' (ha.keep (below_or b1 hb)) (by omega) (by omega))
  have HT' := Lib.hid (fun (W' : World) (hb : Below w1.heap.size w1 W') => toGraph_any A' n' c' F' m' d' ds fs W' (hh.keep (below_or b1 hb)) (by omega) (by omega))
  go_wp2
  go_region_held3 (fun w' => Below w1.heap.size w1 w' ∧ w'.cell? ⟨w.heap.size, 0, none⟩ = some (.slice A n c) ∧ w'.cell? ⟨w.heap.size, 1, none⟩ = some (.slice F m d) ∧ w'.cell? ⟨w.heap.size + 1, 0, none⟩ = some (.slice A' n' c') ∧ w'.cell? ⟨w.heap.size + 1, 1, none⟩ = some (.slice F' m' d'))
    (first | exact keep4' (below_drewn _ 1) u0 u1 v0 v1 | exact keep4' (below_or (And.left (by assumption)) (by assumption)) u0 u1 v0 v1)
    (first
      | (go_at_call 12; (with_reducible refine (HT.out _ ?_).mono ?_); (exact And.left (by assumption)); rintro e w2 ⟨A2, n2, c2, F2, m2, d2, rfl, ho2, hb2⟩)
      | (go_at_call 12; (with_reducible refine (HT'.out _ ?_).mono ?_); (exact And.left (by assumption)); rintro e w3 ⟨A3, n3, c3, F3, m3, d3, rfl, ho3, hb3⟩)
      | (go_at_call 31; (with_reducible refine (HS.out A2 n2 c2 F2 m2 d2 A3 n3 c3 F3 m3 d3 _ ?_ ?_ ?_ ?_ ?_ ?_).mono ?_); (exact ho2.reads.keep hb3); (exact ho3.reads); (have := ho2.oi.len; have := hla.out; omega); (have := ho2.oe.len; have := hle.out; omega); (have := ho3.oi.len; have := hla'.out; omega); (have := ho3.oe.len; have := hle'.out; omega); rintro e w4 ⟨A4, n4, c4, rfl, ho4, hb4⟩))
  have hh4 : Below w1.heap.size w1 w4 := And.left (by assumption)
  have b4 := below_or b1 hh4
  have r4 := ho4.reads
  have hl4 := (q2.after hh4).lt
  have kn4 : n4 ≤ 1048576 := by have := ho4.len; omega
  have q1 := q1.after hh4
  have q2 := q2.after hh4
  clear u0 u1 v0 v1 hb2 hb3 hb4 ho2 ho3 ho4
  obtain ⟨u0, u1⟩ := q1.cells2
  go_wp2_with fail
  refine (toGraph_any A n c F m d cs es _ (ha.keep b4) (by omega) (by omega)).mono ?_
  rintro e w5 ⟨A5, n5, c5, F5, m5, d5, rfl, ho5, hb5⟩
  have k5 : n5 ≤ 1048576 ∧ m5 ≤ 1048576 := by have := ho5.oi.len; have := ho5.oe.len; have := hla.out; have := hle.out; omega
  have b5 := below_then b4 hb5
  have a6 := below_alloc w5 (.cells #[.slice A5 n5 c5, .slice F5 m5 d5] 31)
  have X5 := Blk.new w5 31 #[.slice A5 n5 c5, .slice F5 m5 d5]
  have b6 := below_then b5 a6
  have r5 := ho5.reads.keep a6
  have og5 := ho5.below a6
  have z5 := hb5.size
  have q1 := (q1.after hb5).after a6
  have q2 := (q2.after hb5).after a6
  clear u0 u1 ho5 b5 hh4
  obtain ⟨W6, hW6⟩ : ∃ W6, w5.alloc (.cells #[.slice A5 n5 c5, .slice F5 m5 d5] 31) = W6 := ⟨_, rfl⟩
  have zz6 : (w5.alloc (.cells #[.slice A5 n5 c5, .slice F5 m5 d5] 31)).heap.size = w5.heap.size + 1 := by simp
  rw [hW6] at a6 X5 b6 r5 q1 q2 og5 zz6
  have b46 : Below w4.heap.size w4 W6 := hb5.trans (a6.mono z5)
  clear a6 hb5
  obtain ⟨v0, v1⟩ := q2.cells2
  go_wp2_with fail
  clear hW6
  refine (toGraph_any A' n' c' F' m' d' ds fs _ (hh.keep b6) (by omega) (by omega)).mono ?_
  rintro e w7 ⟨A7, n7, c7, F7, m7, d7, rfl, ho7, hb7⟩
  have k7 : n7 ≤ 1048576 ∧ m7 ≤ 1048576 := by have := ho7.oi.len; have := ho7.oe.len; have := hla'.out; have := hle'.out; omega
  have b7 := below_then b6 hb7
  have a8 := below_alloc w7 (.cells #[.slice A7 n7 c7, .slice F7 m7 d7] 31)
  have X7 := Blk.new w7 31 #[.slice A7 n7 c7, .slice F7 m7 d7]
  have b8 := below_then b7 a8
  have r7 := ho7.reads.keep a8
  have og7 := ho7.below a8
  have og5 := (og5.below hb7).below a8
  have z7 := hb7.size
  have r5 := (r5.keep hb7).keep a8
  have q1 := (q1.after hb7).after a8
  have q2 := (q2.after hb7).after a8
  have X5 := (X5.after hb7).after a8
  clear v0 v1 ho7 b6 b7
  obtain ⟨W8, hW8⟩ : ∃ W8, w7.alloc (.cells #[.slice A7 n7 c7, .slice F7 m7 d7] 31) = W8 := ⟨_, rfl⟩
  have zz8 : (w7.alloc (.cells #[.slice A7 n7 c7, .slice F7 m7 d7] 31)).heap.size = w7.heap.size + 1 := by simp
  rw [hW8] at a8 X7 b8 r7 r5 q1 q2 X5 og7 og5 zz8
  have b48 : Below w4.heap.size w4 W8 := b46.trans ((hb7.trans (a8.mono z7)).mono b46.size)
  clear a8 hb7
  obtain ⟨u0, u1⟩ := X5.cells2
  obtain ⟨v0, v1⟩ := X7.cells2
  go_wp2_with fail
  clear hW8
  refine (HI.out A5 n5 c5 F5 m5 d5 A7 n7 c7 F7 m7 d7 _ r5 r7 k5.1 k5.2 k7.1 k7.2).mono ?_
  rintro e w9 ⟨A9, n9, c9, rfl, ho9, hb9⟩
  have kn9 : n9 ≤ 1048576 := by have := ho9.len; omega
  have lt9 : ∀ k, blk A9 = some k → k < w9.heap.size := fun k hk => (ho9.os.lt hk).2
  have z9 := hb9.size
  have b9 := below_then b8 hb9
  have L1 : LLi w w4 w9 q q W8.heap.size w9.heap.size A4 n4 A9 n9 c9 := ⟨b4, b48.trans (hb9.mono b48.size), r4, ho9, lt9, b48.size⟩
  have M1 : GSt w.heap.size w5.heap.size A F A5 F5 n c m d n5 c5 m5 d5 cs es w9 := ⟨q1.after hb9, X5.after hb9, ha.keep b9, r5.keep hb9⟩
  have M2 : GSt (w.heap.size + 1) w7.heap.size A' F' A7 F7 n' c' m' d' n7 c7 m7 d7 ds fs w9 := ⟨q2.after hb9, X7.after hb9, hh.keep b9, r7.keep hb9⟩
  have og5 := og5.below hb9
  have og7 := og7.below hb9
  have hlt2 := q2.lt
  have w48 := b48.size
  have wb4 := b4.size
  have X5l := X5.lt
  clear u0 u1 v0 v1 hb9 b8 q1 q2 X5 X7 r5 r7 ho9 b48 b46 r4
  generalize hs5 : w5.heap.size = s5 at *
  generalize hs7 : w7.heap.size = s7 at *
  have HM := Lib.hid M1
  have HM2 := Lib.hid M2
  have HL := Lib.hid L1
  have HO5 := Lib.hid og5
  have HO7 := Lib.hid og7
  clear M1 M2 b9 L1 og5 og7 b4
  go_wp2_with fail
  refine (eqInt64S_any A9 A4 n9 n4 _ _ q q _ HL.out.o4.reads HL.out.rd (by omega) (by omega)).mono ?_
  rintro e w10 ⟨rfl, hd10⟩
  rw [dec_self q]
  have HL := Lib.hid (HL.out.step hd10.below)
  have HM := Lib.hid (HM.out.step hd10.below)
  have HM2 := Lib.hid (HM2.out.step hd10.below)
  have HO5 := Lib.hid (HO5.out.below hd10.below)
  have HO7 := Lib.hid (HO7.out.below hd10.below)
  have z10 := hd10.below.size
  clear hd10
  go_wp2_with fail
  go_region_held3 (fun w' => (((GSt w.heap.size s5 A F A5 F5 n c m d n5 c5 m5 d5 cs es w' ∧ Below w10.heap.size w10 w') ∧ Below w.heap.size w w')) ∧ w'.cell? ⟨w.heap.size, 0, none⟩ = some (.slice A n c) ∧ w'.cell? ⟨w.heap.size, 1, none⟩ = some (.slice F m d) ∧ w'.cell? ⟨s5, 0, none⟩ = some (.slice A5 n5 c5) ∧ w'.cell? ⟨s5, 1, none⟩ = some (.slice F5 m5 d5))
    (first | exact (HM.out.step (below_drewn _ 1)).full2 (K := fun w' => Below w10.heap.size w10 w') (below_drewn _ 1) (HL.out.below.trans ((below_drewn _ 1).mono HL.out.below.size)) | exact (GSt.step (And.left (And.left (And.left (by assumption)))) (by assumption)).full2 (K := fun w' => Below w10.heap.size w10 w') (below_or (And.right (And.left (And.left (by assumption)))) (by assumption)) (below_then (And.right (And.left (by assumption))) (by assumption)))
    (first
      | (go_at_call 12; (with_reducible refine (toGraph_any A n c F m d cs es _ ?_ (by omega) (by omega)).mono ?_); (exact GSt.r1 (And.left (And.left (And.left (by assumption))))); rintro e w11 ⟨A6, n6, c6, F6, m6, d6, rfl, ho6, hb6⟩)
      | (go_at_call 14; (with_reducible refine (eqGraph_same A5 F5 n5 c5 m5 d5 A6 F6 n6 c6 m6 d6 cs es _ ?_ ?_ ?_ ?_ ?_).mono ?_); (exact GSt.r3 (And.left (And.left (And.left (by assumption))))); (exact ho6.reads); (omega); (omega); (have := ho6.oi.len; have := hla.out; omega); rintro e w12 ⟨rfl, hb12⟩))
  have hh7 : ((GSt w.heap.size s5 A F A5 F5 n c m d n5 c5 m5 d5 cs es w12 ∧ Below w10.heap.size w10 w12) ∧ Below w.heap.size w w12) := And.left (by assumption)
  have hb := hh7.1.2
  have HL := Lib.hid (HL.out.step hb)
  have HM := Lib.hid (HM.out.step hb)
  have HM2 := Lib.hid (HM2.out.step hb)
  have HO5 := Lib.hid (HO5.out.below hb)
  have HO7 := Lib.hid (HO7.out.below hb)
  have z12 := hb.size
  clear hh7 hb6 hb12 ho6 hb
  go_wp2
  go_region_held3 (fun w' => (((GSt (w.heap.size + 1) s7 A' F' A7 F7 n' c' m' d' n7 c7 m7 d7 ds fs w' ∧ Below w12.heap.size w12 w') ∧ Below w.heap.size w w')) ∧ w'.cell? ⟨w.heap.size + 1, 0, none⟩ = some (.slice A' n' c') ∧ w'.cell? ⟨w.heap.size + 1, 1, none⟩ = some (.slice F' m' d') ∧ w'.cell? ⟨s7, 0, none⟩ = some (.slice A7 n7 c7) ∧ w'.cell? ⟨s7, 1, none⟩ = some (.slice F7 m7 d7))
    (first | exact (HM2.out.step (below_drewn _ 1)).full2 (K := fun w' => Below w12.heap.size w12 w') (below_drewn _ 1) (HL.out.below.trans ((below_drewn _ 1).mono HL.out.below.size)) | exact (GSt.step (And.left (And.left (And.left (by assumption)))) (by assumption)).full2 (K := fun w' => Below w12.heap.size w12 w') (below_or (And.right (And.left (And.left (by assumption)))) (by assumption)) (below_then (And.right (And.left (by assumption))) (by assumption)))
    (first
      | (go_at_call 12; (with_reducible refine (toGraph_any A' n' c' F' m' d' ds fs _ ?_ (by omega) (by omega)).mono ?_); (exact GSt.r1 (And.left (And.left (And.left (by assumption))))); rintro e w13 ⟨A8, n8, c8, F8, m8, d8, rfl, ho8, hb8⟩)
      | (go_at_call 14; (with_reducible refine (eqGraph_same A7 F7 n7 c7 m7 d7 A8 F8 n8 c8 m8 d8 ds fs _ ?_ ?_ ?_ ?_ ?_).mono ?_); (exact GSt.r3 (And.left (And.left (And.left (by assumption))))); (exact ho8.reads); (omega); (omega); (have := ho8.oi.len; have := hla'.out; omega); rintro e w14 ⟨rfl, hb14⟩))
  have hh8 : ((GSt (w.heap.size + 1) s7 A' F' A7 F7 n' c' m' d' n7 c7 m7 d7 ds fs w14 ∧ Below w12.heap.size w12 w14) ∧ Below w.heap.size w w14) := And.left (by assumption)
  have hb := hh8.1.2
  have HL := Lib.hid (HL.out.step hb)
  have HM := Lib.hid (HM.out.step hb)
  have HM2 := Lib.hid (HM2.out.step hb)
  have HO5 := Lib.hid (HO5.out.below hb)
  have HO7 := Lib.hid (HO7.out.below hb)
  have z14 := hb.size
  clear hh8 hb8 hb14 ho8 hb
  -- the marks
  obtain ⟨-, u0, u1⟩ := HM.out.cells
  go_wp2_with fail
  refine (markGraph_any _ _ A5 F5 n5 c5 m5 d5 1 cs es _ HO5.out (by omega)).mono ?_
  rintro e w15 ⟨rfl, _, hm15⟩
  have HL := Lib.hid (HL.out.mid hm15 (by omega) (by omega))
  have V1 := HM.out.p1.mid hm15 (by omega)
  have V2 := HM2.out.p1.mid hm15 (by omega)
  have V7 := HM2.out.p6.mid hm15 (by omega)
  have HO7 := Lib.hid (HO7.out.mid hm15 (by omega))
  clear hm15 u0 u1 HM HM2 HO5
  generalize hk1 : 1 + n5 + 2 * m5 = k1 at *
  have hk1' : k1 ≤ 4194304 := by omega
  clear hk1
  obtain ⟨v0, v1⟩ := V7.cells2
  go_wp2_with fail
  refine (markGraph_any _ _ A7 F7 n7 c7 m7 d7 k1 ds fs _ HO7.out (by omega)).mono ?_
  rintro e w16 ⟨rfl, _, hm16⟩
  have HL := Lib.hid (HL.out.mid hm16 (by omega) (by omega))
  have V1 := V1.mid hm16 (by omega)
  have V2 := V2.mid hm16 (by omega)
  clear hm16 v0 v1 V7 HO7
  go_wp2_with fail
  refine (eqInt64S_any A9 A4 n9 n4 _ _ q q _ HL.out.o4.reads HL.out.rd (by omega) (by omega)).mono ?_
  rintro e w17 ⟨rfl, hd17⟩
  rw [dec_self q]
  have HL := Lib.hid (HL.out.step hd17.below)
  have V1 := V1.after hd17.below
  have V2 := V2.after hd17.below
  clear hd17
  go_wp2_with fail
  refine (markInt64S_own _ _ A9 n9 c9 1 q _ HL.out.o4 (by omega)).mono ?_
  rintro e w18 ⟨rfl, ho18, hg18⟩
  have hm18 := HL.out.marks hg18
  have HL := Lib.hid (HL.out.marked hm18 ho18)
  have V1 := V1.mid hm18 (by omega)
  have V2 := V2.mid hm18 (by omega)
  clear hm18 ho18 hg18
  go_wp2_with fail
  refine (heldInt64S_any A9 n9 c9 1 _ HL.out.o4.reads (by omega)).mono ?_
  rintro e w19 ⟨rfl, rfl⟩
  obtain ⟨u0, u1⟩ := V1.cells2
  obtain ⟨v0, v1⟩ := V2.cells2
  have HT := Lib.hid (fun (W' : World) (hb : Below w18.heap.size w18 W') => toGraph_any A n c F m d cs es W' (ha.keep (below_or HL.out.below hb)) (by omega) (by omega))
  have HT' := Lib.hid (fun (W' : World) (hb : Below w18.heap.size w18 W') => toGraph_any A' n' c' F' m' d' ds fs W' (hh.keep (below_or HL.out.below hb)) (by omega) (by omega))
  go_wp2
  go_region_held3 (fun w' => Below w18.heap.size w18 w' ∧ w'.cell? ⟨w.heap.size, 0, none⟩ = some (.slice A n c) ∧ w'.cell? ⟨w.heap.size, 1, none⟩ = some (.slice F m d) ∧ w'.cell? ⟨w.heap.size + 1, 0, none⟩ = some (.slice A' n' c') ∧ w'.cell? ⟨w.heap.size + 1, 1, none⟩ = some (.slice F' m' d'))
    (first | exact keep4' (below_drewn _ 1) u0 u1 v0 v1 | exact keep4' (below_or (And.left (by assumption)) (by assumption)) u0 u1 v0 v1)
    (first
      | (go_at_call 12; (with_reducible refine (HT.out _ ?_).mono ?_); (exact And.left (by assumption)); rintro e w20 ⟨A20, n20, c20, F20, m20, d20, rfl, ho20, hb20⟩)
      | (go_at_call 12; (with_reducible refine (HT'.out _ ?_).mono ?_); (exact And.left (by assumption)); rintro e w21 ⟨A21, n21, c21, F21, m21, d21, rfl, ho21, hb21⟩)
      | (go_at_call 32; (with_reducible refine (HI.out A20 n20 c20 F20 m20 d20 A21 n21 c21 F21 m21 d21 _ ?_ ?_ ?_ ?_ ?_ ?_).mono ?_); (exact ho20.reads.keep hb21); (exact ho21.reads); (have := ho20.oi.len; have := hla.out; omega); (have := ho20.oe.len; have := hle.out; omega); (have := ho21.oi.len; have := hla'.out; omega); (have := ho21.oe.len; have := hle'.out; omega); rintro e w22 ⟨A22, n22, c22, rfl, ho22, hb22⟩))
  have hh22 : Below w18.heap.size w18 w22 := And.left (by assumption)
  have HL := Lib.hid (HL.out.step hh22)
  have r22 := ho22.reads
  have kn22 : n22 ≤ 1048576 := by have := ho22.len; omega
  clear u0 u1 v0 v1 hb20 hb21 hb22 ho20 ho21 ho22 HT HT' V1 V2 hh22
  go_wp2_with fail
  refine (eqInt64S_any A22 A4 n22 n4 _ _ q q _ r22 HL.out.rd (by omega) (by omega)).mono ?_
  rintro e w23 ⟨rfl, hd23⟩
  rw [dec_self q]
  have HL := Lib.hid (HL.out.step hd23.below)
  clear hd23 r22
  go_wp2_with fail
  refine (heldInt64S_any A9 n9 c9 1 _ HL.out.o4.reads (by omega)).mono ?_
  rintro e w24 ⟨rfl, rfl⟩
  go_wp2
  go_ret
  exact ⟨rfl, HL.out.below⟩
set_option maxHeartbeats 1000000 in
theorem law_IsomorphismOf_big (A : Option Addr) (n c : Nat) (F : Option Addr) (m d : Nat) (cs : List Int) (es : List Ed) (A' : Option Addr) (n' c' : Nat) (F' : Option Addr) (m' d' : Nat) (ds : List Int) (fs : List Ed) (b : Int) (w : World) (ha : RG w A n F m cs es) (hh : RG w A' n' F' m' ds fs) (hn : n ≤ 9223372036854775807) (hm : m ≤ 9223372036854775807) (hn' : n' ≤ 9223372036854775807) (hm' : m' ≤ 9223372036854775807) (hs : ¬ ((n : Int) + m ≤ 1048576 ∧ (n' : Int) + m' ≤ 1048576 - (n + m))) :
    Calls Tryz.prog 8 #[.agg #[.slice A n c, .slice F m d], .agg #[.slice A' n' c', .slice F' m' d'], .int .i64 b] w fun e w' => e = .returned (.bool true) ∧ Below w.heap.size w w' := by
  have p2 : Blk ((w.alloc (.cells #[.slice A n c, .slice F m d] 25)).alloc (.cells #[.slice A' n' c', .slice F' m' d'] 25)) (w.heap.size + 1) 25 #[.slice A' n' c', .slice F' m' d'] := by
    have := Blk.new (w.alloc (.cells #[.slice A n c, .slice F m d] 25)) 25 #[.slice A' n' c', .slice F' m' d']
    simpa using this
  have b1 := below_then (below_alloc w (.cells #[.slice A n c, .slice F m d] 25)) (below_alloc _ (.cells #[.slice A' n' c', .slice F' m' d'] 25))
  by_cases h1 : (n : Int) + m ≤ 1048576
  · have E1 := Lib.hid (szF_parts h1)
    have hbp : (0 : Int) ≤ 1048576 - (n + m) ∧ (1048576 - (n + m) : Int) ≤ 1048576 := by omega
    have h2 : ¬ (n' : Int) + m' ≤ 1048576 - (n + m) := fun h => hs ⟨h1, h⟩
    have E2 := Lib.hid (show szF (1048576 - ((n : Int) + m)) ((n' : Int) + m') = -1 by simp only [szF, if_neg h2])
    obtain ⟨hbp, hbp'⟩ := hbp
    generalize hbk : (1048576 - ((n : Int) + m)) = bk at *
    clear hs h1 h2 hbk
    go_enter Tryz.func8, Tryz.ntmps8
    go_wp2_with fail
    refine (szGraph_any 1048576 A n c F m d _ (by omega) (by omega) (by omega) (by omega)).mono ?_
    rintro e w0 ⟨rfl, hb0⟩
    rw [E1.out]
    have q2 := p2.after hb0
    have b0 := below_then b1 hb0
    clear p2 b1 hb0
    obtain ⟨v0, v1⟩ := q2.cells2
    go_wp2_with fail
    refine (szGraph_any bk A' n' c' F' m' d' _ (by omega) (by omega) (by omega) (by omega)).mono ?_
    rintro e w1 ⟨rfl, hb1⟩
    rw [E2.out]
    go_wp2
    go_ret
    exact ⟨rfl, below_then b0 hb1⟩
  · have E1 := Lib.hid (show szF 1048576 ((n : Int) + m) = -1 by simp [szF, h1])
    clear hs h1
    go_enter Tryz.func8, Tryz.ntmps8
    go_wp2_with fail
    refine (szGraph_any 1048576 A n c F m d _ (by omega) (by omega) (by omega) (by omega)).mono ?_
    rintro e w0 ⟨rfl, hb0⟩
    rw [E1.out]
    go_wp2
    go_ret
    exact ⟨rfl, below_then b1 hb0⟩
theorem law_IsomorphismOf (A : Option Addr) (n c : Nat) (F : Option Addr) (m d : Nat) (cs : List Int) (es : List Ed) (A' : Option Addr) (n' c' : Nat) (F' : Option Addr) (m' d' : Nat) (ds : List Int) (fs : List Ed) (b : Int) (w : World) (ha : RG w A n F m cs es) (hn : n ≤ 9223372036854775807) (hm : m ≤ 9223372036854775807) (hh : RG w A' n' F' m' ds fs) (hn' : n' ≤ 9223372036854775807) (hm' : m' ≤ 9223372036854775807) (_ : I64 b) :
    Calls Tryz.prog 8 #[.agg #[.slice A n c, .slice F m d], .agg #[.slice A' n' c', .slice F' m' d'], .int .i64 b] w fun e w' => e = .returned (.bool true) ∧ Below w.heap.size w w' := by
  by_cases hs : (n : Int) + m ≤ 1048576 ∧ (n' : Int) + m' ≤ 1048576 - (n + m)
  · exact law_IsomorphismOf_ok A n c F m d cs es A' n' c' F' m' d' ds fs b w ha hh hs.1 hs.2 (isfR cs es ds fs b) (isfC cs es ds fs b) (isfR_len cs es ds fs b)
      (fun A n c F m d A' n' c' F' m' d' w h1 h2 h3 h4 h5 h6 => spec_IsomorphismOf A n c F m d cs es A' n' c' F' m' d' ds fs b w h1 h2 (by omega) (by omega) (by omega) (by omega))
      (fun A n c F m d A' n' c' F' m' d' w h1 h2 h3 h4 h5 h6 => impl_IsomorphismOf A n c F m d cs es A' n' c' F' m' d' ds fs b w h1 h2 (by omega) (by omega) (by omega) (by omega))
  · exact law_IsomorphismOf_big A n c F m d cs es A' n' c' F' m' d' ds fs b w ha hh hn hm hn' hm' hs
end Go.Proofs.YtjgihhnplckjoaaGreat
