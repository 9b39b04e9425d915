/- Plain law: an isomorphism that is read off two searches leads from one graph to the other one. No condition beyond those stated. -/
import Derived.Test.YtfhaifgbjpobdaaGreatHC
import Derived.Test.YtfhaifgbjpobdaaGreatGG
import Derived.Test.YtfhaifgbjpobdaaGreatIN
import Derived.Test.YtfhaifgbjpobdaaGreatGY
import Derived.Test.YtfhaifgbjpobdaaGreatIJ
set_option linter.unusedVariables false
set_option linter.unusedSimpArgs false
namespace Go.Proofs.YtfhaifgbjpobdaaGreat
open Go.RowKit

theorem iso_forms {n : Nat} {cs ds : List Int} {es fs : List Ed} {p q : List Int} (hc : cs.length = n) (hd : ds.length = n) (he : EdgesOk n es) (hf : EdgesOk n fs) (p1 : Perm p) (l1 : p.length = n) (p2 : Perm q) (l2 : q.length = n)
    (hC : relC cs p = relC ds q) (hE : relE es p = relE fs q) : Perm (thenP p (invP q)) ∧ (thenP p (invP q)).length = n ∧ relC cs (thenP p (invP q)) = ds ∧ relE es (thenP p (invP q)) = fs := by
  have hs : Perm (thenP p (invP q)) := thenP_perm p1 (invP_perm p2) (by rw [invP_len, l1, l2])
  have hl : (thenP p (invP q)).length = n := by rw [thenP_len, l1]
  have k1 := (relC_same hc hd p1 l1 p2 l2).1 hC
  have k2 := (relE_same he hf p1 l1 p2 l2).1 hE
  have e1 := relC_same hc hd hs hl (iotaP_perm n) (iotaP_len n)
  have e2 := relE_same he hf hs hl (iotaP_perm n) (iotaP_len n)
  have e3 := relC_iota ds
  rw [hd] at e3
  rw [e3] at e1
  rw [relE_iota hf] at e2
  refine ⟨hs, hl, e1.2 fun x x' hx hx' e => ?_, e2.2 fun x y x' y' hx hy hx' hy' ex ey => ?_⟩
  · obtain ⟨u, hu, a1, a2⟩ := aut_nth p1 p2 l1 l2 hx
    rw [iotaP_nth hx', a1] at e
    have : u = x' := by omega
    subst this
    exact k1 x u hx hu a2.symm
  · obtain ⟨u, hu, a1, a2⟩ := aut_nth p1 p2 l1 l2 hx
    obtain ⟨v, hv, b1, b2⟩ := aut_nth p1 p2 l1 l2 hy
    rw [iotaP_nth hx', a1] at ex
    rw [iotaP_nth hy', b1] at ey
    have h1 : u = x' := by omega
    have h2 : v = y' := by omega
    subst h1 h2
    exact k2 x y u v hx hy hu hv a2.symm b2.symm
theorem iso_runs {cs ds : List Int} {es fs : List Ed} {b : Int} (h : code2P cs es ds fs b = 0) (hs : sameP (runP cs es b.toNat) (runP ds fs b.toNat) = true) :
    (isfR cs es ds fs b).length = cs.length ∧ Perm (isfR cs es ds fs b) ∧ relC cs (isfR cs es ds fs b) = ds ∧ relE es (isfR cs es ds fs b) = fs ∧ GraphOk cs es := by
  obtain ⟨g1, g2, c1, c2⟩ := code2_zero h
  obtain ⟨s1, -, -⟩ := codeP_ok c1
  obtain ⟨s2, -, -⟩ := codeP_ok c2
  have hl := same_len s1 s2 hs
  have f1 := (runP_seen cs es s1).forms _ (row0_mem (runP_best s1))
  have f2 := (runP_seen ds fs s2).forms _ (row0_mem (runP_best s2))
  obtain ⟨l1, p1⟩ := run_first s1
  obtain ⟨l2, p2⟩ := run_first s2
  have hS := hs
  unfold sameP sameG at hS
  rw [Bool.and_eq_true] at hS
  have h1 : (runP cs es b.toNat).fc = (runP ds fs b.toNat).fc := by simpa using hS.1
  have h2 : (runP cs es b.toNat).fe = (runP ds fs b.toNat).fe := by simpa using hS.2
  have he := graph_edges g1
  have hf := graph_edges g2
  rw [← hl] at hf
  obtain ⟨r1, r2, r3, r4⟩ := iso_forms (n := cs.length) rfl hl.symm he hf p1 l1 p2 (by rw [l2, hl]) (by rw [f1.1, f2.1, h1]) (by rw [f1.2, f2.2, h2])
  rw [(isf_yes h hs).2]
  exact ⟨r2, r1, r3, r4, g1⟩
end Go.Proofs.YtfhaifgbjpobdaaGreat
/- The law FnIsomorphism: for every input it returns true. No condition beyond those stated. -/
namespace Go.Proofs.YtfhaifgbjpobdaaGreat
open Go.RowKit

set_option maxRecDepth 100000 in
set_option maxHeartbeats 800000 in
theorem law_Isomorphism (A0 : Option Addr) (n0 c0 : Nat) (bs : List Int) (w : World) (ha : RS EByte w A0 n0 bs) (hn0 : n0 ≤ c0) (hc0 : c0 ≤ 9223372036854775807) :
    Calls Tryz.prog 3 #[.slice A0 n0 c0] w fun e w' => e = .returned (.bool true) ∧ Below w.heap.size w w' := by
  by_cases hlong : n0 ≤ 1048576
  · go_enter Tryz.func3, Tryz.ntmps3
    go_wp2_with fail
    refine (b10Long_no A0 n0 c0 _ hlong).mono ?_
    rintro e w' ⟨rfl, rfl⟩
    go_wp2_with fail
    refine (drawIso_any A0 n0 c0 bs w ha (by omega)).mono ?_
    rintro e w1 ⟨A, n, c, F, m, d, cs, es, A', n', c', F', m', d', ds, fs, b, rfl, hG, hH, hbi, hb1, hn, hm, hn', hm'⟩
    have hb3 := below_then (below_alloc w1 (.cells #[.slice A n c, .slice F m d] 27)) (below_alloc _ (.cells #[.slice A' n' c', .slice F' m' d'] 27))
    have X := (Blk.new w1 27 #[.slice A n c, .slice F m d]).alloc (.cells #[.slice A' n' c', .slice F' m' d'] 27)
    have Y : Blk ((w1.alloc (.cells #[.slice A n c, .slice F m d] 27)).alloc (.cells #[.slice A' n' c', .slice F' m' d'] 27)) (w1.heap.size + 1) 27 #[.slice A' n' c', .slice F' m' d'] := by
      have := Blk.new (w1.alloc (.cells #[.slice A n c, .slice F m d] 27)) 27 #[.slice A' n' c', .slice F' m' d']
      simpa using this
    have hG := hG.keep hb3
    have hH := hH.keep hb3
    have hw3 := hb1.trans (hb3.mono hb1.size)
    clear hb3 hb1 ha hbi
    go_wp2_with fail
    generalize (w1.alloc (.cells #[.slice A n c, .slice F m d] 27)).alloc (.cells #[.slice A' n' c', .slice F' m' d'] 27) = w3 at *
    generalize w1.heap.size = x at *
    refine (impl_IsomorphicGraphs A n c F m d cs es A' n' c' F' m' d' ds fs b w3 hG hH (by omega) (by omega) (by omega) (by omega)).mono ?_
    rintro e w4 ⟨rfl, hb4⟩
    have X := X.after hb4
    have Y := Y.after hb4
    have hG := hG.keep hb4
    have hH := hH.keep hb4
    have hw4 := hw3.trans (hb4.mono hw3.size)
    clear hb4
    obtain ⟨x0, x1⟩ := X.cells2
    obtain ⟨y0, y1⟩ := Y.cells2
    go_wp2_with fail
    refine (impl_IsomorphismOf A n c F m d cs es A' n' c' F' m' d' ds fs b w4 hG hH (by omega) (by omega) (by omega) (by omega)).mono ?_
    rintro e w5 ⟨P, np, cp, rfl, hop, hb5⟩
    have X := X.after hb5
    have Y := Y.after hb5
    have hG := hG.keep hb5
    have hH := hH.keep hb5
    have hw5 := hw4.trans (hb5.mono hw4.size)
    clear hb5 x0 x1 y0 y1
    obtain ⟨x0, x1⟩ := X.cells2
    obtain ⟨y0, y1⟩ := Y.cells2
    rcases code2_cases cs es ds fs b with h0 | ⟨h0, h1⟩
    · have e0 := Lib.hid (show isoP cs es ds fs b = sameP (runP cs es b.toNat) (runP ds fs b.toNat) by rw [isoP, if_pos h0])
      rw [h0, e0.out]
      cases hs : sameP (runP cs es b.toNat) (runP ds fs b.toNat) with
      | false =>
        obtain ⟨k1, k2⟩ := isf_no h0 hs
        rw [k2] at hop
        rw [k1]
        have hnp := hop.len
        obtain rfl : np = 0 := by simpa using hnp.symm
        clear e0 h0 hs k1 k2 hnp
        go_wp2
        go_ret
        exact ⟨rfl, hw5⟩
      | true =>
        obtain ⟨k1, -⟩ := isf_yes h0 hs
        obtain ⟨r1, r2, r3, r4, r5⟩ := iso_runs h0 hs
        rw [k1]
        have hl := hop.len
        rw [r1] at hl
        obtain rfl : np = n := by rw [← hl]; exact hG.ri.len
        have hE := graph_edges r5
        rw [hl] at hE
        have hrl := relabelGraph_any A np c F m d cs es P cp _ w5 hG hop.reads r2 (by omega) (by omega) r5 hE
        rw [r3, r4] at hrl
        clear e0 h0 hs k1 r1 r2 r3 r4 r5 hl hE
        generalize isfR cs es ds fs b = p at *
        go_wp2_with fail
        refine hrl.mono ?_
        rintro e w6 ⟨B, k, kc, G, j, jc, rfl, hi, hj, hb6⟩
        have X := X.after hb6
        have Y := Y.after hb6
        have hG := hG.keep hb6
        have hH := hH.keep hb6
        have hw6 := hw5.trans (hb6.mono hw5.size)
        have hik : k = n' := by rw [← hi.len, hH.ri.len]
        have hjm : j = m' := by rw [← hj.len, hH.re.len]
        have hk65 : k ≤ 65 := by omega
        have hj65 : j ≤ 4097 := by omega
        have hR : RG w6 B k G j ds fs := ⟨hi.reads, hj.reads⟩
        clear hik hjm hi hj hb6 x0 x1 y0 y1
        have hb7 := below_alloc w6 (.cells #[.slice B k kc, .slice G j jc] 27)
        have Y := Y.after hb7
        obtain ⟨y0, y1⟩ := Y.cells2
        have hsm := sameGraph_any B k kc G j jc ds fs A' n' c' F' m' d' ds fs _ (hR.keep hb7) (hH.keep hb7) (by omega) (by omega) (by omega) (by omega)
        rw [show sameG ds fs ds fs = true from by simp [sameG]] at hsm
        go_wp2_with fail
        refine hsm.mono ?_
        rintro e w8 ⟨rfl, hb8⟩
        go_wp2
        go_ret
        exact ⟨rfl, below_then (hw6.trans (hb7.mono hw6.size)) (hb8.mono (by simp))⟩
    · obtain ⟨k1, k2⟩ := isf_ne h0
      rw [k2] at hop
      rw [k1, show isoP cs es ds fs b = false from by rw [isoP, if_neg h0]]
      have hnp := hop.len
      obtain rfl : np = 0 := by simpa using hnp.symm
      generalize code2P cs es ds fs b = k at *
      have h2 : (k == 0) = false := by simp [h0]
      clear k1 k2 hnp h0
      go_wp2
      go_ret
      exact ⟨rfl, hw5⟩
  · go_enter Tryz.func3, Tryz.ntmps3
    go_wp2_with fail
    refine (b10Long_yes A0 n0 c0 _ (by omega)).mono ?_
    rintro e w' ⟨rfl, rfl⟩
    go_wp2
    go_ret
    exact ⟨rfl, Below.refl _ _⟩
end Go.Proofs.YtfhaifgbjpobdaaGreat
