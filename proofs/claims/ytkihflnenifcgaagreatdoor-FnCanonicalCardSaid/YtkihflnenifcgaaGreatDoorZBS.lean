/- From the form's reading of an argument to this proof's words: a slice of numbers, of bytes, of slices of numbers. No condition beyond those stated. -/
import Derived.Test.YtkihflnenifcgaaGreatDoorZAA
import Derived.ProofKit
import Derived.OpenShut
import Derived.Lib.SmallJoins
import Derived.Deep.Matrix
import Derived.Test.YtkihflnenifcgaaGreatDoorZBM
import Derived.Test.YtkihflnenifcgaaGreatDoorZBJ
import Derived.Test.YtkihflnenifcgaaGreatDoorZBO
import Derived.Test.YtkihflnenifcgaaGreatDoorZBR
import Derived.Deep.DeepCutAuto
set_option linter.unusedVariables false
set_option linter.unusedSimpArgs false
namespace Go.Proofs.YtkihflnenifcgaaGreatDoor
open Go.ChangeShapes Go.WideShapes Go.ChangeAt Go.RowKit Go.Deep

section
variable {H : Type} {enc : TypeId × Value → H} {P : Program} {w : World} {fuel : Nat}
theorem open_RI {t e : TypeId} {v : Value} {x : DataW H × List MemPlace} (ht : P.underlying t = some (.slice e)) (he : P.underlying e = some (.int .i64)) (hc : P.cellsOf e = 1)
    (h : DataW.trod enc P w 0 (fun _ => true) true fuel t [v] = some x) : ∃ A n c zs, v = .slice A n c ∧ n ≤ c ∧ c ≤ 9223372036854775807 ∧ RI w A n zs := by
  rcases open_ints ht he hc h with ⟨hcs, _⟩ | ⟨a, len, cap, zs, hcs, _, hl, hm, hz, _, hcell, hwz⟩
  · simp at hcs
    exact ⟨none, 0, 0, [], hcs, by omega, by omega, RS.nil_ _ _ _⟩
  · simp at hcs hz
    refine ⟨some a, len, cap, zs.take len, hcs, hl, by unfold maxLen at hm; exact hm, ?_, fun j y hy => ?_⟩
    · rw [List.length_take]; omega
    · rw [List.getElem?_take] at hy
      split at hy
      · rename_i hj
        have hj' : j < zs.length := by omega
        have e1 : zs.getD j 0 = y := by simp [List.getD, hy]
        refine ⟨a, _, rfl, hcell j hj', by rw [e1], ?_⟩
        exact I64.of_wf (hwz y (List.mem_of_getElem? hy))
      · cases hy
theorem open_RR {t e q : TypeId} {v : Value} {x : DataW H × List MemPlace} (ht : P.underlying t = some (.slice e)) (he : P.underlying e = some (.slice q)) (hq : P.underlying q = some (.int .i64))
    (ce : P.cellsOf e = 1) (cq : P.cellsOf q = 1) (h : DataW.trod enc P w 0 (fun _ => true) true fuel t [v] = some x) :
    ∃ A n c zss, v = .slice A n c ∧ n ≤ c ∧ c ≤ 9223372036854775807 ∧ RR w A n zss := by
  rcases open_int_rows ht he hq ce cq h with ⟨hcs, _⟩ | ⟨a, len, cap, A, L, C, Z, hcs, _, hl, hm, _, hr⟩
  · simp at hcs
    exact ⟨none, 0, 0, [], hcs, by omega, by omega, RS.nil_ _ _ _⟩
  · simp at hcs
    refine ⟨some a, len, cap, (List.range len).map fun r => (Z r).take (L r), hcs, hl, by unfold maxLen at hm; exact hm, by simp, fun j y hy => ?_⟩
    have hj : j < len := by
      have := (List.getElem?_eq_some_iff.1 hy).1
      simpa using this
    have ey : (Z j).take (L j) = y := by simpa [hj] using hy
    obtain ⟨h1, h2, h3, h4, h5, h6, h7⟩ := hr j (by omega)
    refine ⟨a, _, rfl, h1, A j, L j, C j, rfl, h2, by unfold maxLen at h3; exact h3, ?_, fun i z hz => ?_⟩
    · rw [← ey, List.length_take]; omega
    · rw [← ey, List.getElem?_take] at hz
      split at hz
      · rename_i hi
        have hi' : i < C j := by omega
        cases hA : A j with
        | none => have := h6 hA; omega
        | some a' =>
          have hcell := (h7 a' hA).2 i hi'
          have e1 : (Z j).getD i 0 = z := by simp [List.getD, hz]
          exact ⟨a', _, rfl, hcell, by rw [e1], I64.of_wf (h5 z (List.mem_of_getElem? hz))⟩
      · cases hz
theorem open_RB {t e : TypeId} {v : Value} {x : DataW H × List MemPlace} (ht : P.underlying t = some (.slice e)) (he : P.underlying e = some (.int .u8)) (hc : P.cellsOf e = 1)
    (h : DataW.trod enc P w 0 (fun _ => true) true fuel t [v] = some x) : ∃ A n c zs, v = .slice A n c ∧ n ≤ c ∧ c ≤ 9223372036854775807 ∧ RS EByte w A n zs := by
  rcases open_ints ht he hc h with ⟨hcs, _⟩ | ⟨a, len, cap, zs, hcs, _, hl, hm, hz, _, hcell, hwz⟩
  · simp at hcs
    exact ⟨none, 0, 0, [], hcs, by omega, by omega, RS.nil_ _ _ _⟩
  · simp at hcs hz
    refine ⟨some a, len, cap, zs.take len, hcs, hl, by unfold maxLen at hm; exact hm, ?_, fun j y hy => ?_⟩
    · rw [List.length_take]; omega
    · rw [List.getElem?_take] at hy
      split at hy
      · rename_i hj
        have hj' : j < zs.length := by omega
        have e1 : zs.getD j 0 = y := by simp [List.getD, hy]
        refine ⟨a, _, rfl, hcell j hj', by rw [e1], ?_⟩
        exact bounds_u8 (hwz y (List.mem_of_getElem? hy))
      · cases hy
end
end Go.Proofs.YtkihflnenifcgaaGreatDoor
/- The law FnCanonical: for every input it returns true. No condition beyond those stated. -/
namespace Go.Proofs.YtkihflnenifcgaaGreatDoor
open Go.RowKit Go.Shelf

/-- behind the second relabeling: a graph in a block of its own -/
def CutH (w wx : World) (cs : List Int) (es : List Ed) (s12 s13 : Value) : Prop := ∃ y A n c F m d q, s12 = .pointer (some ⟨y, 0, none⟩) ∧ s13 = .int .i64 0 ∧ Blk wx y 27 #[.slice A n c, .slice F m d] ∧
  RG wx A n F m (relC cs q) (relE es q) ∧ n ≤ 64 ∧ m ≤ 512 ∧ Perm q ∧ q.length = cs.length ∧ Below w.heap.size w wx
theorem cutH_done {w wr : World} {y B : Nat} {A : Option Addr} {n c : Nat} {F : Option Addr} {m d : Nat} {cs : List Int} {es : List Ed} {q : List Int} (Y : Blk wr y 27 #[.slice none 0 0, .slice none 0 0]) (hb : Below w.heap.size w wr) (hy : w.heap.size ≤ y)
    (oi : OI wr B 2 A n c (relC cs q)) (oe : OE wr B 65 F m d (relE es q)) (h1 : cs.length ≤ 64) (h2 : es.length ≤ 512) (hq : Perm q) (hl : q.length = cs.length) :
    CutH w ((wr.setCell ⟨y, 0, none⟩ (.slice A n c)).setCell ⟨y, 1, none⟩ (.slice F m d)) cs es (.pointer (some ⟨y, 0, none⟩)) (.int .i64 0) := by
  have e1 : some y ≠ blk A := OS.typed' oi.os Y (by decide)
  have e2 : some y ≠ blk F := OS.typed' oe.os Y (by decide)
  have l1 := oi.len
  have l2 := oe.len
  have l3 := relE_len es q
  rw [relC_len] at l1
  refine ⟨y, A, n, c, F, m, d, q, rfl, rfl, ?_, ⟨?_, ?_⟩, by omega, by omega, hq, hl, ?_⟩
  · have := (Y.set_ 0 (.slice A n c)).set_ 1 (.slice F m d)
    simpa using this
  · exact ((oi.kept grown_set (.inr fun e => e1 e.symm)).kept grown_set (.inr fun e => e1 e.symm)).reads
  · exact ((oe.kept grown_set (.inr fun e => e2 e.symm)).kept grown_set (.inr fun e => e2 e.symm)).reads
  · exact (hb.setCell (p := ⟨y, 0, none⟩) hy _).setCell (p := ⟨y, 1, none⟩) hy _

set_option maxRecDepth 100000 in
set_option maxHeartbeats 4000000 in
theorem law_Canonical_ok (A0 : Option Addr) (n0 c0 : Nat) (bs : List Int) (A1 : Option Addr) (n1 c1 : Nat) (ys : List Int) (w : World) (ha : RS EByte w A0 n0 bs) (hn0 : n0 ≤ 1048576) (hb : RS EByte w A1 n1 ys) (hn1 : n1 ≤ 1048576) :
    Calls Tryz.prog 3 #[.slice A0 n0 c0, .slice A1 n1 c1] w fun e w' => e = .returned (.bool true) ∧ Below w.heap.size w w' := by
  go_enter Tryz.func3, Tryz.ntmps3
  go_wp2_with fail
  refine (b10Long_no A0 n0 c0 _ hn0).mono ?_
  rintro e w' ⟨rfl, rfl⟩
  go_wp2_with fail
  refine (b10Long_no A1 n1 c1 _ hn1).mono ?_
  rintro e w' ⟨rfl, rfl⟩
  go_wp2_with fail
  refine (drawCanonical_any A0 n0 c0 bs w ha (by omega)).mono ?_
  rintro e w1 ⟨A, n, c, F, m, d, cs, es, b, rfl, hG, hbi, hb1, hn, hm⟩
  have a1 := below_alloc w1 (.cells #[.slice A n c, .slice F m d] 27)
  have X1 := Blk.new w1 27 #[.slice A n c, .slice F m d]
  have hw2 := below_then hb1 a1
  have hG2 := hG.keep a1
  obtain ⟨x0, x1⟩ := X1.cells2
  go_wp2_with fail
  refine (impl_CanonicalGraph A n c F m d cs es b _ hG2 (by omega) (by omega)).mono ?_
  rintro e w3 ⟨A3, n3, c3, F3, m3, d3, P3, np, cp, rfl, oA, oF, oP, -, hb3⟩
  have hw3 := below_then hw2 hb3
  have a3 := below_alloc w3 (.cells #[.slice A3 n3 c3, .slice F3 m3 d3] 27)
  have X3 := Blk.new w3 27 #[.slice A3 n3 c3, .slice F3 m3 d3]
  have hw4 := below_then hw3 a3
  obtain ⟨y0, y1⟩ := X3.cells2
  by_cases h0 : codeP cs es b = 0
  · obtain ⟨f1, f2, f3, f4⟩ := can_form h0
    obtain ⟨-, hgo, -⟩ := codeP_ok h0
    have hnl := hG.ri.len
    obtain rfl : np = n := by rw [← oP.len, f2, hnl]
    have z0 := below_cell a3 (below_cell hb3 x0)
    have z1 := below_cell a3 (below_cell hb3 x1)
    have hb24 := below_then hb3 a3
    have hG4 := hG2.keep hb24
    have hrel := relabelGraph_any A np c F m d cs es P3 cp (canQ cs es b) _ hG4 (oP.below a3).reads f1 (by omega) (by omega) hgo (by have := graph_edges hgo; rwa [hnl] at this)
    rw [f3, f4] at hrel
    rw [h0]
    go_wp2_with fail
    refine hrel.mono ?_
    rintro e w5 ⟨A5, n5, c5, F5, m5, d5, rfl, o5, p5, hb5⟩
    have a5 := below_alloc w5 (.cells #[.slice A5 n5 c5, .slice F5 m5 d5] 27)
    have Xb := Blk.new w5 27 #[.slice A5 n5 c5, .slice F5 m5 d5]
    have hb45 := below_then hb5 a5
    have hw5 := below_then hw4 hb45
    have hG5 := hG4.keep hb45
    have hA5 := (RG.mk oA.reads oF.reads).keep (below_then a3 hb45)
    have hB5 := (RG.mk o5.reads p5.reads).keep a5
    have hbm := EBytes.keep hb hw5
    have Xg := X1.after (below_then hb24 hb45)
    have Xa := X3.after hb45
    obtain ⟨g0, g1⟩ := Xg.cells2
    have H0 := Lib.hid h0
    have hlA := hA5.ri.len
    have hlB := hB5.ri.len
    have hlA2 := hA5.re.len
    have hlB2 := hB5.re.len
    have hoc := can_ok h0
    have hcl := hgo.clen
    have hel := hgo.elen
    have hcc := hoc.clen
    have hce := hoc.elen
    have HOC := Lib.hid hoc
    have HE : EdgesOk np es := by have := graph_edges hgo; rwa [hnl] at this
    have hml := hG.re.len
    go_upto_region 8 with (fail)
    clear hrel hb45 hb24 a5 hb5 o5 p5 z0 z1 y0 y1 x0 x1 a3 hw4 hb3 oA oF oP hw3 hG2 X1 X3 hw2 a1 hG hb1 hb hG4 f1 f2 f3 f4 h0 hoc
    generalize w5.alloc (.cells #[.slice A5 n5 c5, .slice F5 m5 d5] 27) = W5 at *
    generalize w5.heap.size = gb at *
    generalize w3.heap.size = ga at *
    generalize w1.heap.size = gg at *
    have HP := Lib.hid (fun (W : World) (h : Below W5.heap.size W5 W) => b10Perm_any A1 n1 c1 np ys W (EBytes.keep hbm h) (by omega) (by omega))
    have HR := Lib.hid (fun (P : Option Addr) (cP : Nat) (p : List Int) (W : World) (h : Below W5.heap.size W5 W) (hP : RI W P np p) (hp : Perm p) => relabelGraph_any A np c F m d cs es P cP p W (hG5.keep h) hP hp (by omega) (by omega) hgo HE)
    have HL := Lib.hid (fun (W : World) (h : Below W5.heap.size W5 W) => show W.cell? ⟨gg, 0, none⟩ = some (.slice A np c) ∧ W.cell? ⟨gg, 1, none⟩ = some (.slice F m d) from ⟨below_cell h g0, below_cell h g1⟩)
    go_cut [12, 13] (fun s12 s13 wx => CutH W5 wx cs es s12 s13)
    case first =>
      clear hA5 hB5 hbm Xg Xa Xb hgo HOC hG5 HE
      refine wp_region_held_drew (S := fun w' => w'.cell? ⟨gg, 0, none⟩ = some (.slice A np c) ∧ w'.cell? ⟨gg, 1, none⟩ = some (.slice F m d)) (by kernel_rfl) (by simpa using ⟨g0, g1⟩) ?_
      intro hS
      have hdr := below_drewn W5 1
      rw [← World.drew_is_drewN] at hdr
      clear g0 g1
      refine wpAnyH_take (i := 0) (v := ?_) rfl (by kernel_rfl) (by kernel_rfl) (by kernel_rfl) (fun _ _ _ h => h) (Or.inl ⟨by rfl, ?_⟩) (by assumption) ?_
      rotate_left
      · (intro w hSw; (try dsimp only at hSw); go_simp; (try with_reducible rfl))
      simp only [Act.put, List.setIfInBounds_toArray, List.set_cons_zero, List.set_cons_succ]
      refine wpAnyH_take (i := 1) (v := ?_) rfl (by kernel_rfl) (by kernel_rfl) (by kernel_rfl) (fun _ _ _ h => h) (Or.inl ⟨by rfl, ?_⟩) (by assumption) ?_
      rotate_left
      · (intro w hSw; (try dsimp only at hSw); go_simp; (try with_reducible rfl))
      simp only [Act.put, List.setIfInBounds_toArray, List.set_cons_zero, List.set_cons_succ]
      refine wpAnyH_take (i := 2) (v := ?_) rfl (by kernel_rfl) (by kernel_rfl) (by kernel_rfl) (fun _ _ _ h => h) (Or.inl ⟨by rfl, ?_⟩) (by assumption) ?_
      rotate_left
      · (intro w hSw; (try dsimp only at hSw); go_simp; (try with_reducible rfl))
      simp only [Act.put, List.setIfInBounds_toArray, List.set_cons_zero, List.set_cons_succ]
      refine wpAnyH_take (i := 3) (v := ?_) rfl (by kernel_rfl) (by kernel_rfl) (by kernel_rfl) (fun _ _ _ h => h) (Or.inl ⟨by rfl, ?_⟩) (by assumption) ?_
      rotate_left
      · (intro w hSw; (try dsimp only at hSw); go_simp; (try with_reducible rfl))
      simp only [Act.put, List.setIfInBounds_toArray, List.set_cons_zero, List.set_cons_succ]
      refine wpAnyH_take (i := 4) (v := ?_) rfl (by kernel_rfl) (by kernel_rfl) (by kernel_rfl) (fun _ _ _ h => h) (Or.inl ⟨by rfl, ?_⟩) (by assumption) ?_
      rotate_left
      · (intro w hSw; (try dsimp only at hSw); go_simp; (try with_reducible rfl))
      simp only [Act.put, List.setIfInBounds_toArray, List.set_cons_zero, List.set_cons_succ]
      generalize W5.drew = W at *
      refine wpAnyH_ready (rs := [5, 10]) (by kernel_rfl) (by simp) ?_
      refine AllReadyH.cons rfl (fun K hK => ?_) (AllReadyH.cons rfl (fun K hK => ?_) AllReadyH.nil)
      · go_simp
        refine (HP.out W hdr).mono ?_
        rintro e w8 ⟨P, cP, p, rfl, hop, hlp, hpp, hb8⟩
        dsimp only
        have hX8 := hdr.trans (hb8.mono hdr.size)
        refine hK.out _ _ (HL.out _ hX8) (fun hS1 => ?_)
        clear hK K hS
        refine wpAnyH_ready (rs := [6, 10]) (by kernel_rfl) (by simp) ?_
        refine AllReadyH.cons rfl (fun K hK => ?_) (AllReadyH.cons rfl (fun K hK => ?_) AllReadyH.nil)
        · go_simp
          refine (HR.out P cP p w8 hX8 hop.reads hpp).mono ?_
          rintro e w9 ⟨A8, n8, c8, F8, m8, d8, rfl, o8, p8, hb9⟩
          dsimp only
          have hX9 := hX8.trans (hb9.mono hX8.size)
          refine hK.out _ _ (HL.out _ hX9) (fun hS2 => ?_)
          clear hK K hS1
          refine wpAnyH_take (i := 7) (v := ?_) rfl (by kernel_rfl) (by kernel_rfl) (by kernel_rfl) (fun _ _ _ h => h) (Or.inl ⟨by rfl, ?_⟩) (by assumption) ?_
          rotate_left
          · (intro w hSw; (try dsimp only at hSw); go_simp; (try with_reducible rfl))
          simp only [Act.put, List.setIfInBounds_toArray, List.set_cons_zero, List.set_cons_succ]
          refine wpAnyH_take (i := 8) (v := ?_) rfl (by kernel_rfl) (by kernel_rfl) (by kernel_rfl) (fun _ _ _ h => h) (Or.inl ⟨by rfl, ?_⟩) (by assumption) ?_
          rotate_left
          · (intro w hSw; (try dsimp only at hSw); go_simp; (try with_reducible rfl))
          simp only [Act.put, List.setIfInBounds_toArray, List.set_cons_zero, List.set_cons_succ]
          refine wpAnyH_take (i := 9) (v := ?_) rfl (by kernel_rfl) (by kernel_rfl) (by kernel_rfl) (fun _ _ _ h => h) (Or.inl ⟨by rfl, ?_⟩) (by assumption) ?_
          rotate_left
          · (intro w hSw; (try dsimp only at hSw); go_simp; (try with_reducible rfl))
          simp only [Act.put, List.setIfInBounds_toArray, List.set_cons_zero, List.set_cons_succ]
          refine wpAnyH_ready (rs := [10]) (by kernel_rfl) (by simp) ?_
          refine AllReadyH.cons rfl (fun K hK => ?_) AllReadyH.nil
          go_simp
          have hba := below_alloc w9 (.cells #[.slice none 0 0, .slice none 0 0] 27)
          have Y := Blk.new w9 27 #[.slice none 0 0, .slice none 0 0]
          have hXa := hX9.trans (hba.mono hX9.size)
          have oi := o8.alloc (.cells #[.slice none 0 0, .slice none 0 0] 27)
          have oe := p8.alloc (.cells #[.slice none 0 0, .slice none 0 0] 27)
          have hy := hX9.size
          refine hK.out _ _ (HL.out _ hXa) (fun hS3 => ?_)
          clear hK K hS2 hba hb9 o8 p8
          generalize w9.alloc (.cells #[.slice none 0 0, .slice none 0 0] 27) = wa at *
          generalize w9.heap.size = y at *
          obtain ⟨y0, y1⟩ := Y.cells2
          have f0 := Y.frozen 0
          have f1 := Y.frozen 1
          have HX := Lib.hid ((hXa.setCell (p := ⟨y, 0, none⟩) hy (.slice A8 n8 c8)).setCell (p := ⟨y, 1, none⟩) hy (.slice F8 m8 d8))
          refine wpAnyH_ready (rs := [11]) (by kernel_rfl) (by simp) ?_
          refine AllReadyH.cons rfl (fun K hK => ?_) AllReadyH.nil
          go_simp
          refine hK.out _ _ (HL.out _ HX.out) (fun hS4 => ?_)
          clear hK K hS3
          refine wpAnyH_ready (rs := [12]) (by kernel_rfl) (by simp) ?_
          refine AllReadyH.cons rfl (fun K hK => ?_) AllReadyH.nil
          go_simp
          refine hK.out _ _ hS4 (fun _ => ?_)
          clear hK K
          refine wpAnyH_done (by kernel_rfl) ?_ _
          go_wp2
          go_meet
          exact cutH_done Y hXa hy oi oe hcl hel hpp (by omega)
        · go_simp
          have hba := below_alloc w8 (.cells #[.slice none 0 0, .slice none 0 0] 27)
          have Y := Blk.new w8 27 #[.slice none 0 0, .slice none 0 0]
          have hXa := hX8.trans (hba.mono hX8.size)
          have hopa := hop.reads.keep hba
          have hy := hX8.size
          refine hK.out _ _ (HL.out _ hXa) (fun hS2 => ?_)
          clear hK K hS1 hba hop
          generalize w8.alloc (.cells #[.slice none 0 0, .slice none 0 0] 27) = wa at *
          generalize w8.heap.size = y at *
          refine wpAnyH_ready (rs := [6]) (by kernel_rfl) (by simp) ?_
          refine AllReadyH.cons rfl (fun K hK => ?_) AllReadyH.nil
          go_simp
          refine (HR.out P cP p wa hXa hopa hpp).mono ?_
          rintro e w9 ⟨A8, n8, c8, F8, m8, d8, rfl, oi, oe, hb9⟩
          dsimp only
          have hX9 := hXa.trans (hb9.mono hXa.size)
          have Y := Y.after hb9
          refine hK.out _ _ (HL.out _ hX9) (fun hS3 => ?_)
          clear hK K hS2
          refine wpAnyH_take (i := 7) (v := ?_) rfl (by kernel_rfl) (by kernel_rfl) (by kernel_rfl) (fun _ _ _ h => h) (Or.inl ⟨by rfl, ?_⟩) (by assumption) ?_
          rotate_left
          · (intro w hSw; (try dsimp only at hSw); go_simp; (try with_reducible rfl))
          simp only [Act.put, List.setIfInBounds_toArray, List.set_cons_zero, List.set_cons_succ]
          refine wpAnyH_take (i := 8) (v := ?_) rfl (by kernel_rfl) (by kernel_rfl) (by kernel_rfl) (fun _ _ _ h => h) (Or.inl ⟨by rfl, ?_⟩) (by assumption) ?_
          rotate_left
          · (intro w hSw; (try dsimp only at hSw); go_simp; (try with_reducible rfl))
          simp only [Act.put, List.setIfInBounds_toArray, List.set_cons_zero, List.set_cons_succ]
          refine wpAnyH_take (i := 9) (v := ?_) rfl (by kernel_rfl) (by kernel_rfl) (by kernel_rfl) (fun _ _ _ h => h) (Or.inl ⟨by rfl, ?_⟩) (by assumption) ?_
          rotate_left
          · (intro w hSw; (try dsimp only at hSw); go_simp; (try with_reducible rfl))
          simp only [Act.put, List.setIfInBounds_toArray, List.set_cons_zero, List.set_cons_succ]
          obtain ⟨y0, y1⟩ := Y.cells2
          have f0 := Y.frozen 0
          have f1 := Y.frozen 1
          have HX := Lib.hid ((hX9.setCell (p := ⟨y, 0, none⟩) hy (.slice A8 n8 c8)).setCell (p := ⟨y, 1, none⟩) hy (.slice F8 m8 d8))
          refine wpAnyH_ready (rs := [11]) (by kernel_rfl) (by simp) ?_
          refine AllReadyH.cons rfl (fun K hK => ?_) AllReadyH.nil
          go_simp
          refine hK.out _ _ (HL.out _ HX.out) (fun hS4 => ?_)
          clear hK K hS3
          refine wpAnyH_ready (rs := [12]) (by kernel_rfl) (by simp) ?_
          refine AllReadyH.cons rfl (fun K hK => ?_) AllReadyH.nil
          go_simp
          refine hK.out _ _ hS4 (fun _ => ?_)
          clear hK K
          refine wpAnyH_done (by kernel_rfl) ?_ _
          go_wp2
          go_meet
          exact cutH_done Y hX9 hy oi oe hcl hel hpp (by omega)
      · go_simp
        have hba := below_alloc W (.cells #[.slice none 0 0, .slice none 0 0] 27)
        have Y := Blk.new W 27 #[.slice none 0 0, .slice none 0 0]
        have hXa := hdr.trans (hba.mono hdr.size)
        have hy := hdr.size
        refine hK.out _ _ (HL.out _ hXa) (fun hS2 => ?_)
        clear hK K hS hba
        generalize W.alloc (.cells #[.slice none 0 0, .slice none 0 0] 27) = wa at *
        generalize W.heap.size = y at *
        refine wpAnyH_ready (rs := [5]) (by kernel_rfl) (by simp) ?_
        refine AllReadyH.cons rfl (fun K hK => ?_) AllReadyH.nil
        go_simp
        refine (HP.out wa hXa).mono ?_
        rintro e w8 ⟨P, cP, p, rfl, hop, hlp, hpp, hb8⟩
        dsimp only
        have hX8 := hXa.trans (hb8.mono hXa.size)
        have Y := Y.after hb8
        refine hK.out _ _ (HL.out _ hX8) (fun hS1 => ?_)
        clear hK K hS2
        refine wpAnyH_ready (rs := [6]) (by kernel_rfl) (by simp) ?_
        refine AllReadyH.cons rfl (fun K hK => ?_) AllReadyH.nil
        go_simp
        refine (HR.out P cP p w8 hX8 hop.reads hpp).mono ?_
        rintro e w9 ⟨A8, n8, c8, F8, m8, d8, rfl, oi, oe, hb9⟩
        dsimp only
        have hX9 := hX8.trans (hb9.mono hX8.size)
        have Y := Y.after hb9
        refine hK.out _ _ (HL.out _ hX9) (fun hS3 => ?_)
        clear hK K hS1
        refine wpAnyH_take (i := 7) (v := ?_) rfl (by kernel_rfl) (by kernel_rfl) (by kernel_rfl) (fun _ _ _ h => h) (Or.inl ⟨by rfl, ?_⟩) (by assumption) ?_
        rotate_left
        · (intro w hSw; (try dsimp only at hSw); go_simp; (try with_reducible rfl))
        simp only [Act.put, List.setIfInBounds_toArray, List.set_cons_zero, List.set_cons_succ]
        refine wpAnyH_take (i := 8) (v := ?_) rfl (by kernel_rfl) (by kernel_rfl) (by kernel_rfl) (fun _ _ _ h => h) (Or.inl ⟨by rfl, ?_⟩) (by assumption) ?_
        rotate_left
        · (intro w hSw; (try dsimp only at hSw); go_simp; (try with_reducible rfl))
        simp only [Act.put, List.setIfInBounds_toArray, List.set_cons_zero, List.set_cons_succ]
        refine wpAnyH_take (i := 9) (v := ?_) rfl (by kernel_rfl) (by kernel_rfl) (by kernel_rfl) (fun _ _ _ h => h) (Or.inl ⟨by rfl, ?_⟩) (by assumption) ?_
        rotate_left
        · (intro w hSw; (try dsimp only at hSw); go_simp; (try with_reducible rfl))
        simp only [Act.put, List.setIfInBounds_toArray, List.set_cons_zero, List.set_cons_succ]
        obtain ⟨y0, y1⟩ := Y.cells2
        have f0 := Y.frozen 0
        have f1 := Y.frozen 1
        have HX := Lib.hid ((hX9.setCell (p := ⟨y, 0, none⟩) hy (.slice A8 n8 c8)).setCell (p := ⟨y, 1, none⟩) hy (.slice F8 m8 d8))
        refine wpAnyH_ready (rs := [11]) (by kernel_rfl) (by simp) ?_
        refine AllReadyH.cons rfl (fun K hK => ?_) AllReadyH.nil
        go_simp
        refine hK.out _ _ (HL.out _ HX.out) (fun hS4 => ?_)
        clear hK K hS3
        refine wpAnyH_ready (rs := [12]) (by kernel_rfl) (by simp) ?_
        refine AllReadyH.cons rfl (fun K hK => ?_) AllReadyH.nil
        go_simp
        refine hK.out _ _ hS4 (fun _ => ?_)
        clear hK K
        refine wpAnyH_done (by kernel_rfl) ?_ _
        go_wp2
        go_meet
        exact cutH_done Y hX9 hy oi oe hcl hel hpp (by omega)
    case rest =>
      obtain ⟨y, A8, n8, c8, F8, m8, d8, q, rfl, rfl, Y8, hG8, hn8, hm8, hq, hlq, hb8⟩ := hcut
      clear HP HR HL g0 g1
      obtain ⟨-, k1, k2, k3⟩ := can_rel H0.out hq hlq
      have hA8 := hA5.keep hb8
      have hB8 := hB5.keep hb8
      have Xa8 := Xa.after hb8
      have Xb8 := Xb.after hb8
      have hw8 := below_then hw5 hb8
      clear hA5 hB5 Xa Xb Xg hb8 hw5 hG5 hbm
      have hcan := impl_CanonicalGraph A8 n8 c8 F8 m8 d8 (relC cs q) (relE es q) b _ hG8 (by omega) (by omega)
      rw [k1, k2, k3] at hcan
      obtain ⟨y0, y1⟩ := Y8.cells2
      go_wp2_with fail
      refine hcan.mono ?_
      rintro e w9 ⟨A9, n9, c9, F9, m9, d9, P9, np9, cp9, rfl, o9, p9, -, -, hb9⟩
      have a9 := below_alloc w9 (.cells #[.slice A9 n9 c9, .slice F9 m9 d9] 27)
      have Xc := Blk.new w9 27 #[.slice A9 n9 c9, .slice F9 m9 d9]
      have hb89 := below_then hb9 a9
      have hG9 := hG8.keep hb89
      have hA9 := hA8.keep hb89
      have hB9 := hB8.keep hb89
      have hC9 := (RG.mk o9.reads p9.reads).keep a9
      have Xa9 := Xa8.after hb89
      have Xb9 := Xb8.after hb89
      have Y9 := Y8.after hb89
      have hw9 := below_then hw8 hb89
      clear hcan hb9 a9 hb89 hG8 hA8 hB8 Xa8 Xb8 Y8 hw8 o9 p9 y0 y1
      have hcert := certificateOf_any A8 n8 c8 F8 m8 d8 (relC cs q) (relE es q) b _ hG9 (by omega) (by omega)
      have hct : certT (relC cs q) (relE es q) b = graphT (canC cs es b) (canE cs es b) := by rw [certT, if_pos k1, k2, k3]
      rw [k1, hct] at hcert
      obtain ⟨y0, y1⟩ := Y9.cells2
      go_wp2_with fail
      refine hcert.mono ?_
      rintro e w10 ⟨rfl, hb10⟩
      have hA10 := hA9.keep hb10
      have hB10 := hB9.keep hb10
      have hC10 := hC9.keep hb10
      have Xa10 := Xa9.after hb10
      have Xb10 := Xb9.after hb10
      have Xc10 := Xc.after hb10
      have hw10 := below_then hw9 hb10
      clear hcert hct hb10 hA9 hB9 hC9 Xa9 Xb9 Xc Y9 hw9 y0 y1 hG9
      generalize hcc' : canC cs es b = cc at *
      generalize hce' : canE cs es b = ce at *
      have hlC := hC10.ri.len
      have hlC2 := hC10.re.len
      have hs1 := sameGraph_any A3 n3 c3 F3 m3 d3 cc ce A5 n5 c5 F5 m5 d5 cc ce _ hA10 hB10 (by omega) (by omega) (by omega) (by omega)
      rw [show sameG cc ce cc ce = true from by simp [sameG]] at hs1
      obtain ⟨a0, a1⟩ := Xa10.cells2
      obtain ⟨b0, b1⟩ := Xb10.cells2
      go_wp2_with fail
      refine hs1.mono ?_
      rintro e w11 ⟨rfl, hb11⟩
      have hA11 := hA10.keep hb11
      have hC11 := hC10.keep hb11
      have Xa11 := Xa10.after hb11
      have Xc11 := Xc10.after hb11
      have hw11 := below_then hw10 hb11
      clear hs1 hb11 hA10 hB10 hC10 Xa10 Xb10 Xc10 hw10 a0 a1 b0 b1
      have hs2 := sameGraph_any A3 n3 c3 F3 m3 d3 cc ce A9 n9 c9 F9 m9 d9 cc ce _ hA11 hC11 (by omega) (by omega) (by omega) (by omega)
      rw [show sameG cc ce cc ce = true from by simp [sameG]] at hs2
      obtain ⟨a0, a1⟩ := Xa11.cells2
      obtain ⟨b0, b1⟩ := Xc11.cells2
      go_wp2_with fail
      refine hs2.mono ?_
      rintro e w12 ⟨rfl, hb12⟩
      have hA12 := hA11.keep hb12
      have Xa12 := Xa11.after hb12
      have hw12 := below_then hw11 hb12
      clear hs2 hb12 hA11 hC11 Xa11 Xc11 hw11 a0 a1 b0 b1
      have htx := graphText_any A3 n3 c3 F3 m3 d3 cc ce _ hA12 HOC.out
      obtain ⟨a0, a1⟩ := Xa12.cells2
      go_wp2_with fail
      refine htx.mono ?_
      rintro e w13 ⟨rfl, hb13⟩
      have hw13 := below_then hw12 hb13
      go_wp2
      go_ret
      exact ⟨rfl, hw13⟩
  · have l1 := oA.len
    have l2 := oF.len
    have l3 := oP.len
    rw [canC, if_neg h0] at l1
    rw [canE, if_neg h0] at l2
    rw [canQ, if_neg h0] at l3
    obtain rfl : n3 = 0 := by simpa using l1.symm
    obtain rfl : m3 = 0 := by simpa using l2.symm
    obtain rfl : np = 0 := by simpa using l3.symm
    have hk : (codeP cs es b != 0) = true := by simp [h0]
    generalize codeP cs es b = K at *
    clear oA oF oP h0
    go_wp2
    go_ret
    exact ⟨rfl, hw4⟩
theorem law_Canonical (A : Option Addr) (n c : Nat) (zs : List Int) (B : Option Addr) (m d : Nat) (ys : List Int) (w : World) (ha : RS EByte w A n zs) (hn : n ≤ c) (hc : c ≤ 9223372036854775807) (hb : RS EByte w B m ys) (hm : m ≤ d) (hd : d ≤ 9223372036854775807) :
    Calls Tryz.prog 3 #[.slice A n c, .slice B m d] w fun e w' => e = .returned (.bool true) ∧ Below w.heap.size w w' := by
  by_cases h1 : n ≤ 1048576
  · by_cases h2 : m ≤ 1048576
    · exact law_Canonical_ok A n c zs B m d ys w ha h1 hb h2
    · go_enter Tryz.func3, Tryz.ntmps3
      go_wp2_with fail
      refine (b10Long_no A n c _ h1).mono ?_
      rintro e w' ⟨rfl, rfl⟩
      go_wp2_with fail
      refine (b10Long_yes B m d _ (by omega)).mono ?_
      rintro e w' ⟨rfl, rfl⟩
      go_wp2
      go_ret
      exact ⟨rfl, Below.refl _ _⟩
  · go_enter Tryz.func3, Tryz.ntmps3
    go_wp2_with fail
    refine (b10Long_yes A n c _ (by omega)).mono ?_
    rintro e w' ⟨rfl, rfl⟩
    go_wp2
    go_ret
    exact ⟨rfl, Below.refl _ _⟩
end Go.Proofs.YtkihflnenifcgaaGreatDoor
