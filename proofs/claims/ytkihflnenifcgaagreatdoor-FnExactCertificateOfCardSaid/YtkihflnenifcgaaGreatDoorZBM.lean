/- Plain law: a graph that is relabeled has the same canonical form. No condition beyond those stated. -/
import Derived.Test.YtkihflnenifcgaaGreatDoorZAR
import Derived.Test.YtkihflnenifcgaaGreatDoorZBL
import Derived.Test.YtkihflnenifcgaaGreatDoorZAN
import Derived.Test.YtkihflnenifcgaaGreatDoorZAO
import Derived.Test.YtkihflnenifcgaaGreatDoorZAE
import Derived.Test.YtkihflnenifcgaaGreatDoorZAG
import Derived.Deep.RegionHeld3
import Derived.Test.YtkihflnenifcgaaGreatDoorZAA
import Derived.ProofKit
import Derived.OpenShut
import Derived.Lib.SmallJoins
import Derived.Deep.Matrix
import Derived.Test.YtkihflnenifcgaaGreatDoorZAD
import Derived.Deep.SlicePairs
set_option linter.unusedVariables false
set_option linter.unusedSimpArgs false
namespace Go.Proofs.YtkihflnenifcgaaGreatDoor
open Go.RowKit

theorem rel_graph {cs : List Int} {es : List Ed} {q : List Int} (h : GraphOk cs es) (hq : Perm q) (hl : q.length = cs.length) : GraphOk (relC cs q) (relE es q) := by
  have he := graph_edges h
  have hr : EdgesOk cs.length (relE es q) := by
    refine ⟨fun e hm => ?_, setG_strict cmpE_ord _⟩
    rw [relE_tab he hq hl, tabE_mem] at hm
    obtain ⟨a, b, rfl, h1, h2, -⟩ := hm
    exact ⟨by simp, by simp; omega, by simp; omega⟩
  have hel : (relE es q).length ≤ es.length := by
    have := setG_len (c := cmpE) (es.map (imgE q))
    rw [List.length_map] at this
    exact this
  refine ⟨by rw [relC_len]; exact h.clen, Nat.le_trans hel h.elen, fun k hk => ?_, fun i hi => ?_, fun i hi => ?_⟩
  · rw [relC_len] at hk
    obtain ⟨v, hv, e⟩ := perm_surj hq (i := k) (by omega)
    have := relC_nth (cs := cs) hq hl (v := v) (by omega)
    rw [e, Int.toNat_natCast] at this
    rw [this]
    exact h.col v (by omega)
  · rw [relC_len]
    exact hr.edge _ (by rw [nthE_get hi]; exact List.getElem_mem _)
  · have := List.pairwise_iff_getElem.1 hr.strict i (i + 1) (by omega) hi (by omega)
    rw [nthE_get (by omega), nthE_get hi]
    exact (cmpE_neg _ _).1 this
theorem rel_back {cs q : List Int} (hq : Perm q) (hl : q.length = cs.length) : cs = thenP q (relC cs q) := by
  refine List.ext_getElem (by rw [thenP_len, hl]) fun v h1 h2 => ?_
  rw [← nth_get h1, ← nth_get h2, thenP_nth (by omega), relC_nth hq hl h1]
/-- the canonical form is the relabeled graph's too -/
theorem can_rel {cs : List Int} {es : List Ed} {q : List Int} {b : Int} (h0 : codeP cs es b = 0) (hq : Perm q) (hl : q.length = cs.length) :
    GraphOk cs es ∧ codeP (relC cs q) (relE es q) b = 0 ∧ canC (relC cs q) (relE es q) b = canC cs es b ∧ canE (relC cs q) (relE es q) b = canE cs es b := by
  obtain ⟨hs, hg, -⟩ := codeP_ok h0
  have he := graph_edges hg
  have hi := rel_iso he hq hl
  have hg2 := rel_graph hg hq hl
  have hb : inB b 1 20000 = true := by
    unfold codeP at h0
    rw [tB_yes hg, if_neg (by simp)] at h0
    cases e : inB b 1 20000 with
    | true => rfl
    | false => rw [e, if_pos rfl] at h0; cases h0
  have hsp := (iso_spent hi rfl (relC_len _ _) (rel_back hq hl) b.toNat).1
  have h2 : codeP (relC cs q) (relE es q) b = 0 := by
    unfold codeP
    rw [tB_yes hg2, if_neg (by simp), hb, if_neg (by simp), ← hsp, hs]
    rfl
  obtain ⟨f1, f2⟩ := iso_same hi rfl (relC_len _ _) he (by have := graph_edges hg2; rwa [relC_len] at this) (rel_back hq hl) hs (by rw [← hsp]; exact hs)
  refine ⟨hg, h2, ?_, ?_⟩
  · unfold canC; rw [if_pos h0, if_pos h2, f1]
  · unfold canE; rw [if_pos h0, if_pos h2, f2]
/-- the form is the graph, relabeled by the list that comes with it -/
theorem can_form {cs : List Int} {es : List Ed} {b : Int} (h0 : codeP cs es b = 0) : Perm (canQ cs es b) ∧ (canQ cs es b).length = cs.length ∧ relC cs (canQ cs es b) = canC cs es b ∧ relE es (canQ cs es b) = canE cs es b := by
  obtain ⟨hs, hg, -⟩ := codeP_ok h0
  have hm := row0_mem (runP_best hs)
  unfold canQ canC canE
  rw [if_pos h0, if_pos h0, if_pos h0]
  generalize row (runP cs es b.toNat).best 0 = p at hm ⊢
  have hF := (runP_seen cs es hs).forms p hm
  have hC := (runP_leaf cs es b.toNat p hm).cells (refP_cells _ _)
  exact ⟨hC.2, hC.1.len, hF.1, hF.2⟩
end Go.Proofs.YtkihflnenifcgaaGreatDoor
/- Certificates: the program's side. No condition beyond those stated. -/
namespace Go.Proofs.YtkihflnenifcgaaGreatDoor
open Go.RowKit Go.Shelf

/-- a graph's certificate -/
noncomputable def certT (cs : List Int) (es : List Ed) (b : Int) : ByteArray := if codeP cs es b = 0 then graphT (canC cs es b) (canE cs es b) else ⟨#[]⟩
theorem can_ok {cs : List Int} {es : List Ed} {b : Int} (h0 : codeP cs es b = 0) : GraphOk (canC cs es b) (canE cs es b) := by
  obtain ⟨h1, h2, h3, h4⟩ := can_form h0
  obtain ⟨-, hg, -⟩ := codeP_ok h0
  rw [← h3, ← h4]
  exact rel_graph hg h1 h2
set_option maxRecDepth 100000 in
set_option maxHeartbeats 2000000 in
theorem certificateOf_any (A : Option Addr) (n c : Nat) (F : Option Addr) (m d : Nat) (cs : List Int) (es : List Ed) (b : Int) (w : World) (hG : RG w A n F m cs es) (hn : n ≤ 9223372036854775807) (hm : m ≤ 9223372036854775807) :
    Calls Tryz.prog 10 #[.agg #[.slice A n c, .slice F m d], .int .i64 b] w fun e w' => e = .returned (.tuple #[.string (certT cs es b), .int .i64 (codeP cs es b)]) ∧ Below w.heap.size w w' := by
  have hb1 := below_alloc w (.cells #[.slice A n c, .slice F m d] 27)
  have B1 := Blk.new w 27 #[.slice A n c, .slice F m d]
  have hcan := impl_CanonicalGraph A n c F m d cs es b _ (hG.keep hb1) hn hm
  obtain ⟨x0, x1⟩ := B1.cells2
  go_enter Tryz.func10, Tryz.ntmps10
  go_wp2_with (fail)
  refine hcan.mono ?_
  rintro e w2 ⟨A2, n2, c2, F2, m2, d2, P2, np, cp, rfl, oA, oF, oP, -, hb2⟩
  have hb12 := below_then hb1 hb2
  by_cases h0 : codeP cs es b = 0
  · have hok := can_ok h0
    have hT := Lib.hid (show certT cs es b = graphT (canC cs es b) (canE cs es b) by unfold certT; rw [if_pos h0])
    have hG2 : RG w2 A2 n2 F2 m2 (canC cs es b) (canE cs es b) := ⟨oA.reads, oF.reads⟩
    have hb3 := below_alloc w2 (.cells #[.slice A2 n2 c2, .slice F2 m2 d2] 27)
    have B3 := Blk.new w2 27 #[.slice A2 n2 c2, .slice F2 m2 d2]
    have htx := graphText_any A2 n2 c2 F2 m2 d2 (canC cs es b) (canE cs es b) _ (hG2.keep hb3) hok
    have hb13 := below_then hb12 hb3
    obtain ⟨y0, y1⟩ := B3.cells2
    have HK0 := Lib.hid h0
    rw [h0]
    clear hok hG2 oA oF oP hcan h0
    go_wp2_with (go_at_call 12; refine htx.mono ?_; rintro e w4 ⟨rfl, hb4⟩)
    go_ret2
    exact ⟨by rw [hT.out, HK0.out]; rfl, hb13.trans (hb4.mono hb13.size)⟩
  · have hT := Lib.hid (show certT cs es b = ⟨#[]⟩ by unfold certT; rw [if_neg h0])
    have hk : (codeP cs es b != 0) = true := by simp [h0]
    have hb3 := below_alloc w2 (.cells #[.slice A2 n2 c2, .slice F2 m2 d2] 27)
    have hb13 := below_then hb12 hb3
    obtain ⟨K, hK⟩ : ∃ K, codeP cs es b = K := ⟨_, rfl⟩
    rw [hK] at hk ⊢
    have HK := Lib.hid hK
    clear hK h0 hcan
    go_wp2
    go_ret2
    exact ⟨by rw [hT.out, HK.out]; rfl, hb13⟩
end Go.Proofs.YtkihflnenifcgaaGreatDoor
/- Certificates: the reference's side. No condition beyond those stated. -/
namespace Go.Proofs.YtkihflnenifcgaaGreatDoor
open Go.RowKit Go.Shelf

set_option maxRecDepth 100000 in
set_option maxHeartbeats 2000000 in
theorem specCertificateOf_any (A : Option Addr) (n c : Nat) (F : Option Addr) (m d : Nat) (cs : List Int) (es : List Ed) (b : Int) (w : World) (hG : RG w A n F m cs es) (hn : n ≤ 9223372036854775807) (hm : m ≤ 9223372036854775807) :
    Calls Tryz.prog 14 #[.agg #[.slice A n c, .slice F m d], .int .i64 b] w fun e w' => e = .returned (.tuple #[.string (certT cs es b), .int .i64 (codeP cs es b)]) ∧ Below w.heap.size w w' := by
  have hb1 := below_alloc w (.cells #[.slice A n c, .slice F m d] 27)
  have X := Blk.new w 27 #[.slice A n c, .slice F m d]
  have hx := l22Start_any _ A n c F m d cs es b (hG.keep hb1) hn hm
  obtain ⟨ii, hi, hi0, hi1, hi2⟩ := info_parts graph_info
  by_cases h0 : codeP cs es b = 0
  · have hok := can_ok h0
    have hT := Lib.hid (show certT cs es b = graphT (canC cs es b) (canE cs es b) by unfold certT; rw [if_pos h0])
    have HC := Lib.hid h0
    have H1 := show canC cs es b = (runP cs es b.toNat).fc by rw [canC, if_pos h0]
    have H2 := show canE cs es b = (runP cs es b.toNat).fe by rw [canE, if_pos h0]
    rw [H1, H2] at hok hT
    clear h0
    generalize hW1 : w.alloc (.cells #[.slice A n c, .slice F m d] 27) = W1 at *
    obtain ⟨x0, x1⟩ := X.cells2
    go_enter Tryz.func14, Tryz.ntmps14
    go_wp2_with fail
    refine hx.mono ?_
    rintro e w2 ⟨hb2, v, rfl, hv⟩
    obtain ⟨w0, rfl, hb0, -, -, -, N, cN, BA, bn, bc, FA, fn, fk, FF, fm, fd, hX⟩ := hv HC.out
    rw [HC.out]
    clear hv hx H1 H2
    generalize runP cs es b.toNat = s at *
    have c7 := hX.cells.1.2.2.2.1
    have c8 := hX.cells.1.2.2.2.2
    have hGf : RG w2 FA fn FF fm s.fc s.fe := ⟨hX.sb.fc.reads, hX.sb.fe.reads⟩
    have htx := l21Text_any FA fn fk FF fm fd s.fc s.fe w2 hGf hok
    have hb12 := below_then hb1 hb2
    clear hGf hX hok x0 x1
    go_wp2_with (go_at_call 34; refine htx.mono ?_; rintro e w4 ⟨rfl, hb4⟩)
    go_ret2
    exact ⟨by rw [hT.out, HC.out]; rfl, below_then hb1 (hb2.trans (hb4.mono hb2.size))⟩
  · have HC := Lib.hid h0
    have hT := Lib.hid (show certT cs es b = ⟨#[]⟩ by unfold certT; rw [if_neg h0])
    have hk : (codeP cs es b != 0) = true := by simp [h0]
    obtain ⟨K, hK⟩ : ∃ K, codeP cs es b = K := ⟨_, rfl⟩
    generalize hW1 : w.alloc (.cells #[.slice A n c, .slice F m d] 27) = W1 at *
    obtain ⟨x0, x1⟩ := X.cells2
    go_enter Tryz.func14, Tryz.ntmps14
    go_wp2_with fail
    refine hx.mono ?_
    rintro e w2 ⟨hb2, v, rfl, -⟩
    have hb12 := below_then hb1 hb2
    rw [hK] at hk ⊢
    have HK := Lib.hid hK
    clear hK h0 HC hx
    go_wp2
    go_ret2
    exact ⟨by rw [hT.out, HK.out]; rfl, hb12⟩
end Go.Proofs.YtkihflnenifcgaaGreatDoor
/- The law FnExactCertificateOf: for every input it returns true. No condition beyond those stated. -/
namespace Go.Proofs.YtkihflnenifcgaaGreatDoor
open Go.RowKit Go.Shelf

set_option maxRecDepth 100000 in
set_option maxHeartbeats 2000000 in
theorem law_CertificateOf_ok (A : Option Addr) (n c : Nat) (F : Option Addr) (m d : Nat) (cs : List Int) (es : List Ed) (b : Int) (w : World) (ha : RG w A n F m cs es) (hs : (n : Int) + m ≤ 1048576) (r0 : ByteArray) (r1 : Int)
    (hspec : (∀ (A : Option Addr) (n c : Nat) (F : Option Addr) (m d : Nat) (w : World), RG w A n F m cs es → n ≤ 1048576 → m ≤ 1048576 → Calls Tryz.prog 14 #[.agg #[.slice A n c, .slice F m d], .int .i64 b] w (fun e w' => e = .returned (.tuple #[.string r0, .int .i64 r1]) ∧ Below w.heap.size w w')))
    (himpl : (∀ (A : Option Addr) (n c : Nat) (F : Option Addr) (m d : Nat) (w : World), RG w A n F m cs es → n ≤ 1048576 → m ≤ 1048576 → Calls Tryz.prog 10 #[.agg #[.slice A n c, .slice F m d], .int .i64 b] w (fun e w' => e = .returned (.tuple #[.string r0, .int .i64 r1]) ∧ Below w.heap.size w w'))) :
    Calls Tryz.prog 4 #[.agg #[.slice A n c, .slice F m d], .int .i64 b] w fun e w' => e = .returned (.bool true) ∧ Below w.heap.size w w' := by
  have hla := Lib.hid ha.ri.len
  have hle := Lib.hid ha.re.len
  obtain ⟨bz1, bz2⟩ : n ≤ 1048576 ∧ m ≤ 1048576 := by omega
  have E1 := Lib.hid (szF_parts hs)
  have hbp : (0 : Int) ≤ 1048576 - (n + m) := by omega
  generalize hbk : (1048576 - ((n : Int) + m)) = bk at *
  have HS := Lib.hid hspec
  have HI := Lib.hid himpl
  clear hbk hspec himpl
  have p1 := Blk.new w 41 #[.slice A n c, .slice F m d]
  have b1 := below_alloc w (.cells #[.slice A n c, .slice F m d] 41)
  go_enter Tryz.func4, Tryz.ntmps4
  go_wp2_with fail
  refine (szGraph_any 1048576 A n c F m d _ (by omega) (by omega) (by omega) (by omega)).mono ?_
  rintro e w0 ⟨rfl, hb0⟩
  rw [E1.out]
  have q1 := p1.after hb0
  have b0 := below_then b1 hb0
  clear p1 b1 hb0
  obtain ⟨u0, u1⟩ := q1.cells2
  go_wp2_with fail
  refine (toGraph_any A n c F m d cs es _ (ha.keep b0) (by omega) (by omega)).mono ?_
  rintro e w1 ⟨A1, n1, c1, F1, m1, d1, rfl, ho1, hb1⟩
  have k1 : n1 ≤ 1048576 ∧ m1 ≤ 1048576 := by have := ho1.oi.len; have := ho1.oe.len; have := hla.out; have := hle.out; omega
  have q2 := q1.after hb1
  have b1 := below_then b0 hb1
  clear q1 b0 hb1 u0 u1
  go_wp2_with fail
  refine (HS.out A1 n1 c1 F1 m1 d1 _ ho1.reads (by omega) (by omega)).mono ?_
  rintro e w2 ⟨rfl, hb2⟩
  have b2 := below_then b1 hb2
  have q3 := q2.after hb2
  clear ho1 q2 b1 hb2
  obtain ⟨u0, u1⟩ := q3.cells2
  go_wp2_with fail
  refine (toGraph_any A n c F m d cs es _ (ha.keep b2) (by omega) (by omega)).mono ?_
  rintro e w3 ⟨A3, n3, c3, F3, m3, d3, rfl, ho3, hb3⟩
  have k3 : n3 ≤ 1048576 ∧ m3 ≤ 1048576 := by have := ho3.oi.len; have := ho3.oe.len; have := hla.out; have := hle.out; omega
  have b3 := below_then b2 hb3
  have b6 := below_alloc w3 (.cells #[.slice A3 n3 c3, .slice F3 m3 d3] 27)
  have p6 := Blk.new w3 27 #[.slice A3 n3 c3, .slice F3 m3 d3]
  have q4 := (q3.after hb3).after b6
  have r6 := ho3.reads.keep b6
  have b7 := below_then b3 b6
  clear ho3 hb3 b2 b3 q3 u0 u1 b6
  obtain ⟨u0, u1⟩ := p6.cells2
  go_wp2_with fail
  refine (HI.out A3 n3 c3 F3 m3 d3 _ r6 (by omega) (by omega)).mono ?_
  rintro e w4 ⟨rfl, hb4⟩
  have M1 : GSt w.heap.size w3.heap.size A F A3 F3 n c m d n3 c3 m3 d3 cs es w4 := ⟨q4.after hb4, p6.after hb4, ha.keep (below_then b7 hb4), r6.keep hb4⟩
  have bb := below_then b7 hb4
  clear hb4 b7 q4 p6 r6 u0 u1
  generalize w3.heap.size = s3 at *
  have HM := Lib.hid M1
  have HB := Lib.hid bb
  clear M1
  go_wp2_with fail
  go_region_held3 (fun w' => (GSt w.heap.size s3 A F A3 F3 n c m d n3 c3 m3 d3 cs es w' ∧ Below w.heap.size w w') ∧ w'.cell? ⟨w.heap.size, 0, none⟩ = some (.slice A n c) ∧ w'.cell? ⟨w.heap.size, 1, none⟩ = some (.slice F m d) ∧ w'.cell? ⟨s3, 0, none⟩ = some (.slice A3 n3 c3) ∧ w'.cell? ⟨s3, 1, none⟩ = some (.slice F3 m3 d3))
    (first | exact (HM.out.step (below_drewn _ 1)).full (HB.out.trans ((below_drewn _ 1).mono HB.out.size)) | exact (GSt.step (And.left (And.left (by assumption))) (by assumption)).full (below_then (And.right (And.left (by assumption))) (by assumption)))
    (first
      | (go_at_call 15; (with_reducible refine (toGraph_any A n c F m d cs es _ ?_ (by omega) (by omega)).mono ?_); (exact ha.keep (And.right (And.left (by assumption)))); rintro e w6 ⟨A6, n6, c6, F6, m6, d6, rfl, ho6, hb6⟩)
      | (go_at_call 16; (with_reducible refine (eqGraph_same A3 F3 n3 c3 m3 d3 A6 F6 n6 c6 m6 d6 cs es _ ?_ ?_ ?_ ?_ ?_).mono ?_); (exact GSt.r3 (And.left (And.left (by assumption)))); (exact ho6.reads); (omega); (omega); (have := ho6.oi.len; have := hla.out; omega); rintro e w7 ⟨rfl, hb7⟩))
  have hh7 : (GSt w.heap.size s3 A F A3 F3 n c m d n3 c3 m3 d3 cs es w7 ∧ Below w.heap.size w w7) := And.left (by assumption)
  go_wp2
  go_ret
  exact ⟨rfl, hh7.2⟩
set_option maxHeartbeats 1000000 in
theorem law_CertificateOf_big (A : Option Addr) (n c : Nat) (F : Option Addr) (m d : Nat) (cs : List Int) (es : List Ed) (b : Int) (w : World) (ha : RG w A n F m cs es) (hn : n ≤ 9223372036854775807) (hm : m ≤ 9223372036854775807) (hs : ¬ (n : Int) + m ≤ 1048576) :
    Calls Tryz.prog 4 #[.agg #[.slice A n c, .slice F m d], .int .i64 b] w fun e w' => e = .returned (.bool true) ∧ Below w.heap.size w w' := by
  have E1 := Lib.hid (show szF 1048576 ((n : Int) + m) = -1 by simp [szF, hs])
  clear hs
  have b1 := below_alloc w (.cells #[.slice A n c, .slice F m d] 41)
  go_enter Tryz.func4, Tryz.ntmps4
  go_wp2_with fail
  refine (szGraph_any 1048576 A n c F m d _ (by omega) (by omega) (by omega) (by omega)).mono ?_
  rintro e w0 ⟨rfl, hb0⟩
  rw [E1.out]
  go_wp2
  go_ret
  exact ⟨rfl, below_then b1 hb0⟩
theorem law_CertificateOf (A : Option Addr) (n c : Nat) (F : Option Addr) (m d : Nat) (cs : List Int) (es : List Ed) (b : Int) (w : World) (ha : RG w A n F m cs es) (hn : n ≤ 9223372036854775807) (hm : m ≤ 9223372036854775807) (_ : I64 b) :
    Calls Tryz.prog 4 #[.agg #[.slice A n c, .slice F m d], .int .i64 b] w fun e w' => e = .returned (.bool true) ∧ Below w.heap.size w w' := by
  by_cases hs : (n : Int) + m ≤ 1048576
  · exact law_CertificateOf_ok A n c F m d cs es b w ha hs (certT cs es b) (codeP cs es b)
      (fun A n c F m d w h1 h2 h3 => specCertificateOf_any A n c F m d cs es b w h1 (by omega) (by omega))
      (fun A n c F m d w h1 h2 h3 => certificateOf_any A n c F m d cs es b w h1 (by omega) (by omega))
  · exact law_CertificateOf_big A n c F m d cs es b w ha hn hm hs
end Go.Proofs.YtkihflnenifcgaaGreatDoor
/- From the form's reading of an argument to this proof's words: a slice of numbers, of bytes, of slices of numbers. No condition beyond those stated. -/
namespace Go.Proofs.YtkihflnenifcgaaGreatDoor
open Go.ChangeShapes Go.WideShapes Go.ChangeAt Go.RowKit Go.Deep

section
variable {H : Type} {enc : TypeId × Value → H} {P : Program} {w : World} {fuel : Nat}
theorem open_RI {t e : TypeId} {v : Value} {x : DataW H × List MemPlace} (ht : P.underlying t = some (.slice e)) (he : P.underlying e = some (.int .i64)) (hc : P.cellsOf e = 1)
    (h : DataW.trod enc P w 0 (fun _ => true) true fuel t [v] = some x) : ∃ A n c zs, v = .slice A n c ∧ n ≤ c ∧ c ≤ 9223372036854775807 ∧ RI w A n zs := by
  rcases open_ints ht he hc h with ⟨hcs, _⟩ | ⟨a, len, cap, zs, hcs, _, hl, hm, hz, _, hcell, hwz⟩
  · simp at hcs
    exact ⟨none, 0, 0, [], hcs, by omega, by omega, RS.nil_ _ _ _⟩
  · simp at hcs hz
    refine ⟨some a, len, cap, zs.take len, hcs, hl, by unfold maxLen at hm; exact hm, ?_, fun j y hy => ?_⟩
    · rw [List.length_take]; omega
    · rw [List.getElem?_take] at hy
      split at hy
      · rename_i hj
        have hj' : j < zs.length := by omega
        have e1 : zs.getD j 0 = y := by simp [List.getD, hy]
        refine ⟨a, _, rfl, hcell j hj', by rw [e1], ?_⟩
        exact I64.of_wf (hwz y (List.mem_of_getElem? hy))
      · cases hy
theorem open_RR {t e q : TypeId} {v : Value} {x : DataW H × List MemPlace} (ht : P.underlying t = some (.slice e)) (he : P.underlying e = some (.slice q)) (hq : P.underlying q = some (.int .i64))
    (ce : P.cellsOf e = 1) (cq : P.cellsOf q = 1) (h : DataW.trod enc P w 0 (fun _ => true) true fuel t [v] = some x) :
    ∃ A n c zss, v = .slice A n c ∧ n ≤ c ∧ c ≤ 9223372036854775807 ∧ RR w A n zss := by
  rcases open_int_rows ht he hq ce cq h with ⟨hcs, _⟩ | ⟨a, len, cap, A, L, C, Z, hcs, _, hl, hm, _, hr⟩
  · simp at hcs
    exact ⟨none, 0, 0, [], hcs, by omega, by omega, RS.nil_ _ _ _⟩
  · simp at hcs
    refine ⟨some a, len, cap, (List.range len).map fun r => (Z r).take (L r), hcs, hl, by unfold maxLen at hm; exact hm, by simp, fun j y hy => ?_⟩
    have hj : j < len := by
      have := (List.getElem?_eq_some_iff.1 hy).1
      simpa using this
    have ey : (Z j).take (L j) = y := by simpa [hj] using hy
    obtain ⟨h1, h2, h3, h4, h5, h6, h7⟩ := hr j (by omega)
    refine ⟨a, _, rfl, h1, A j, L j, C j, rfl, h2, by unfold maxLen at h3; exact h3, ?_, fun i z hz => ?_⟩
    · rw [← ey, List.length_take]; omega
    · rw [← ey, List.getElem?_take] at hz
      split at hz
      · rename_i hi
        have hi' : i < C j := by omega
        cases hA : A j with
        | none => have := h6 hA; omega
        | some a' =>
          have hcell := (h7 a' hA).2 i hi'
          have e1 : (Z j).getD i 0 = z := by simp [List.getD, hz]
          exact ⟨a', _, rfl, hcell, by rw [e1], I64.of_wf (h5 z (List.mem_of_getElem? hz))⟩
      · cases hz
theorem open_RB {t e : TypeId} {v : Value} {x : DataW H × List MemPlace} (ht : P.underlying t = some (.slice e)) (he : P.underlying e = some (.int .u8)) (hc : P.cellsOf e = 1)
    (h : DataW.trod enc P w 0 (fun _ => true) true fuel t [v] = some x) : ∃ A n c zs, v = .slice A n c ∧ n ≤ c ∧ c ≤ 9223372036854775807 ∧ RS EByte w A n zs := by
  rcases open_ints ht he hc h with ⟨hcs, _⟩ | ⟨a, len, cap, zs, hcs, _, hl, hm, hz, _, hcell, hwz⟩
  · simp at hcs
    exact ⟨none, 0, 0, [], hcs, by omega, by omega, RS.nil_ _ _ _⟩
  · simp at hcs hz
    refine ⟨some a, len, cap, zs.take len, hcs, hl, by unfold maxLen at hm; exact hm, ?_, fun j y hy => ?_⟩
    · rw [List.length_take]; omega
    · rw [List.getElem?_take] at hy
      split at hy
      · rename_i hj
        have hj' : j < zs.length := by omega
        have e1 : zs.getD j 0 = y := by simp [List.getD, hy]
        refine ⟨a, _, rfl, hcell j hj', by rw [e1], ?_⟩
        exact bounds_u8 (hwz y (List.mem_of_getElem? hy))
      · cases hy
end
end Go.Proofs.YtkihflnenifcgaaGreatDoor
/- From the form's reading of an argument to this proof's words: a slice of edges. No condition beyond those stated. -/
namespace Go.Proofs.YtkihflnenifcgaaGreatDoor
open Go.ChangeShapes Go.WideShapes Go.ChangeAt Go.RowKit Go.Deep

theorem add_spot {w : World} {a : Addr} {k : Nat} {v : Value} (h0 : a.spot = none) (h : w.cell? (a.add k) = some v) : w.cell? ⟨a.block, a.off + k, none⟩ = some v := by
  unfold Addr.add at h
  split at h
  · rename_i hk
    subst hk
    obtain ⟨b, o, s⟩ := a
    simp only at h0
    subst h0
    simpa using h
  · exact h
theorem cell_spot {w : World} {a : Addr} {v : Value} (h : w.cell? a = some v) : a.spot = none := by
  unfold World.cell? at h
  split at h
  · split at h
    · cases h
    · rename_i hs
      simpa using hs
  · cases h
section
variable {H : Type} {enc : TypeId × Value → H} {P : Program} {w : World} {fuel : Nat}
theorem open_RE {t e : TypeId} {f0 f1 : Field} {v : Value} {x : DataW H × List MemPlace} (ht : P.underlying t = some (.slice e)) (he : P.underlying e = some (.struct #[f0, f1])) (ce : P.cellsOf e = 2) (o0 : f0.offset = 0) (o1 : f1.offset = 1)
    (c0 : P.cellsOf f0.type = 1) (c1 : P.cellsOf f1.type = 1) (h0 : P.underlying f0.type = some (.int .i64)) (h1 : P.underlying f1.type = some (.int .i64))
    (h : DataW.trod enc P w 0 (fun _ => true) true fuel t [v] = some x) : ∃ A n c es, v = .slice A n c ∧ n ≤ c ∧ c ≤ 9223372036854775807 ∧ RE w A n es := by
  rcases open_slice_pairs ht he ce o0 o1 c0 c1 h with ⟨hcs, _⟩ | ⟨a, len, cap, m, n, V0, V1, D0, D1, P0, P1, hcs, hb, hl, hm, hmm, hx, hi⟩
  · simp at hcs
    exact ⟨none, 0, 0, [], hcs, by omega, by omega, rfl, fun j e h => by simp at h⟩
  · simp at hcs hmm
    have hnum : ∀ i, i < m → ∃ p : Int × Int, V0 i = .int .i64 p.1 ∧ V1 i = .int .i64 p.2 ∧ I64 p.1 ∧ I64 p.2 := fun i him => by
      obtain ⟨_, _, t0, t1⟩ := hi i him
      obtain ⟨z0, e0, _, w0⟩ := DataW.trod_int h0 t0
      obtain ⟨z1, e1, _, w1⟩ := DataW.trod_int h1 t1
      exact ⟨(z0, z1), by simpa using e0, by simpa using e1, I64.of_wf w0, I64.of_wf w1⟩
    refine ⟨some a, len, cap, (List.range len).map fun i => if h : i < m then (hnum i h).choose else (0, 0), hcs, hl, by unfold maxLen at hm; exact hm, by simp, fun j e he => ?_⟩
    have hj : j < len := by
      have := (List.getElem?_eq_some_iff.1 he).1
      simpa using this
    have hjm : j < m := by omega
    have ee : (hnum j hjm).choose = e := by simpa [hj, hjm] using he
    obtain ⟨q0, q1, q2, q3⟩ := (hnum j hjm).choose_spec
    rw [ee] at q0 q1 q2 q3
    obtain ⟨k0, k1, _, _⟩ := hi j hjm
    obtain ⟨z0, _, _, _⟩ := hi 0 (by omega)
    have hs : a.spot = none := cell_spot (by simpa [Addr.add] using z0)
    have g0 := add_spot hs k0
    have g1 := add_spot hs k1
    obtain ⟨b, o, s⟩ := a
    simp only at hs
    subst hs
    rw [q0] at g0
    rw [q1] at g1
    exact ⟨b, o, rfl, g0, g1, q2, q3⟩
end
end Go.Proofs.YtkihflnenifcgaaGreatDoor
