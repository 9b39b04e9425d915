/- What the searches of both sides hand back; the number of automorphisms and the size of a search. No condition beyond those stated. -/
import Derived.Test.YtjgihhnplckjoaaGreatGU
import Derived.Test.YtjgihhnplckjoaaGreatGB
import Derived.Test.YtjgihhnplckjoaaGreatGY
import Derived.Test.YtjgihhnplckjoaaGreatGC
import Derived.Deep.RegionHeld3
set_option linter.unusedVariables false
set_option linter.unusedSimpArgs false
namespace Go.Proofs.YtjgihhnplckjoaaGreat
open Go.RowKit

/-- what the program's search hands back -/
def RetY (w : World) (A : Option Addr) (n c : Nat) (F : Option Addr) (m d : Nat) (cs : List Int) (es : List Ed) (b : Int) (e : Ending) (w' : World) : Prop :=
  Below w.heap.size w w' ∧ ∃ v, e = .returned (.tuple #[.pointer v, .int .i64 (codeP cs es b)]) ∧ (codeP cs es b = 0 → ∃ w0 : World, v = some ⟨w0.heap.size, 0, none⟩ ∧ Below w.heap.size w w0 ∧ (runP cs es b.toNat).spent = false ∧ GraphOk cs es ∧ b.toNat ≤ 20000 ∧
    ∃ N cN BA bn bc FA fn fk FF fm fd, XS w0 w' A n c F m d N n cN BA bn bc FA fn fk FF fm fd (runP cs es b.toNat))
theorem explored_any' (w : World) (A : Option Addr) (n c : Nat) (F : Option Addr) (m d : Nat) (cs : List Int) (es : List Ed) (b : Int) (hG : RG w A n F m cs es) (hn : n ≤ 9223372036854775807) (hm : m ≤ 9223372036854775807) :
    Calls Tryz.prog 40 #[.agg #[.slice A n c, .slice F m d], .int .i64 b] w (RetY w A n c F m d cs es b) := by
  refine (explored_any w A n c F m d cs es b hG hn hm).mono ?_
  rintro e w' ⟨hb, h⟩
  refine ⟨hb, ?_⟩
  rcases h with ⟨h1, rfl⟩ | ⟨h1, h2, rfl⟩ | ⟨h1, h2, h3, rfl⟩ | ⟨h1, h2, h3, w0, rfl, h4, N, cN, BA, bn, bc, FA, fn, fk, FF, fm, fd, h5⟩
  · have hC : codeP cs es b = 1 := by rw [codeP, tB_no h1]; simp
    exact ⟨none, by rw [hC], fun h => by rw [hC] at h; cases h⟩
  · have hC : codeP cs es b = 2 := by rw [codeP, tB_yes h1, h2]; simp
    exact ⟨none, by rw [hC], fun h => by rw [hC] at h; cases h⟩
  · have hC : codeP cs es b = 5 := by rw [codeP, tB_yes h1, h2]; simp [h3]
    exact ⟨none, by rw [hC], fun h => by rw [hC] at h; cases h⟩
  · have hC : codeP cs es b = 0 := by rw [codeP, tB_yes h1, h2]; simp [h3]
    exact ⟨_, by rw [hC], fun _ => ⟨w0, rfl, h4, h3, h1, by have := inB_true h2; omega, _, _, _, _, _, _, _, _, _, _, _, h5⟩⟩
theorem codeP_cases (cs : List Int) (es : List Ed) (b : Int) : codeP cs es b = 0 ∨ (codeP cs es b ≠ 0 ∧ (codeP cs es b != 0) = true) := by
  by_cases h : codeP cs es b = 0
  · exact .inl h
  · exact .inr ⟨h, by simp [h]⟩
noncomputable def countP' (cs : List Int) (es : List Ed) (b : Int) : Int := if codeP cs es b = 0 then ((runP cs es b.toNat).best.length : Int) else 0
noncomputable def nodesP (cs : List Int) (es : List Ed) (b : Int) : Int := if codeP cs es b = 0 then ((runP cs es b.toNat).nodes : Int) else 0
noncomputable def leavesP (cs : List Int) (es : List Ed) (b : Int) : Int := if codeP cs es b = 0 then ((runP cs es b.toNat).leaves : Int) else 0
set_option maxHeartbeats 1000000 in
theorem impl_CountAutomorphisms (A : Option Addr) (n c : Nat) (F : Option Addr) (m d : Nat) (cs : List Int) (es : List Ed) (b : Int) (w : World) (hG : RG w A n F m cs es) (hn : n ≤ 9223372036854775807) (hm : m ≤ 9223372036854775807) :
    Calls Tryz.prog 13 #[.agg #[.slice A n c, .slice F m d], .int .i64 b] w (fun e w' => e = .returned (.tuple #[.int .i64 (countP' cs es b), .int .i64 (codeP cs es b)]) ∧ Below w.heap.size w w') := by
  have hb1 := below_alloc w (.cells #[.slice A n c, .slice F m d] 31)
  have hx := explored_any' _ A n c F m d cs es b (hG.keep hb1) hn hm
  rcases codeP_cases cs es b with h0 | ⟨h0, h1⟩
  · have HC := Lib.hid h0
    have HN := Lib.hid (show countP' cs es b = ((runP cs es b.toNat).best.length : Int) by rw [countP', if_pos h0])
    have hbn := runP_len cs es b.toNat
    clear h0
    go_enter Tryz.func13, Tryz.ntmps13
    go_wp2_with (first | (go_at_call 40; refine hx.mono ?_; rintro e w2 ⟨hb2, v, rfl, hv⟩; obtain ⟨w0, rfl, hb0, -, -, hb20, N, cN, BA, bn, bc, FA, fn, fk, FF, fm, fd, hX⟩ := hv HC.out; clear hv; rw [HC.out]; have q9 := hX.cells.2.2.2.2.2; have hbl := Lib.hid (show (runP cs es b.toNat).best.length = bn from (hX.sb.best.choose_spec.1.slen)); have hbn2 : bn ≤ 20001 := by (have := hbl.out; omega)) | (go_at_call 41; refine (sizeR_any _ _ _ _ (by omega)).mono ?_; rintro e w3 ⟨rfl, rfl⟩))
    go_ret2
    exact ⟨by rw [HN.out, HC.out, hbl.out]; rfl, hb1.trans (hb2.mono hb1.size)⟩
  · have HC := Lib.hid h0
    have HN := Lib.hid (show countP' cs es b = 0 by rw [countP', if_neg h0])
    clear h0
    go_enter Tryz.func13, Tryz.ntmps13
    go_wp2_with (go_at_call 40; refine hx.mono ?_; rintro e w2 ⟨hb2, v, rfl, hv⟩; clear hv)
    go_ret2
    exact ⟨by rw [HN.out]; rfl, hb1.trans (hb2.mono hb1.size)⟩
set_option maxHeartbeats 1000000 in
theorem spec_CountAutomorphisms (A : Option Addr) (n c : Nat) (F : Option Addr) (m d : Nat) (cs : List Int) (es : List Ed) (b : Int) (w : World) (hG : RG w A n F m cs es) (hn : n ≤ 9223372036854775807) (hm : m ≤ 9223372036854775807) :
    Calls Tryz.prog 11 #[.agg #[.slice A n c, .slice F m d], .int .i64 b] w (fun e w' => e = .returned (.tuple #[.int .i64 (countP' cs es b), .int .i64 (codeP cs es b)]) ∧ Below w.heap.size w w') := by
  have hb1 := below_alloc w (.cells #[.slice A n c, .slice F m d] 31)
  have hx := l22Start_any _ A n c F m d cs es b (hG.keep hb1) hn hm
  rcases codeP_cases cs es b with h0 | ⟨h0, h1⟩
  · have HC := Lib.hid h0
    have HN := Lib.hid (show countP' cs es b = ((runP cs es b.toNat).best.length : Int) by rw [countP', if_pos h0])
    have hbn := runP_len cs es b.toNat
    clear h0
    go_enter Tryz.func11, Tryz.ntmps11
    go_wp2_with ((go_at_call 37; refine hx.mono ?_; rintro e w2 ⟨hb2, v, rfl, hv⟩; obtain ⟨w0, rfl, hb0, -, -, hb20, N, cN, BA, bn, bc, FA, fn, fk, FF, fm, fd, hX⟩ := hv HC.out; clear hv; rw [HC.out]; have q9 := hX.cells.2.1; have hbl := Lib.hid (show (runP cs es b.toNat).best.length = bn from (hX.sb.best.choose_spec.1.slen)); have hbn2 : bn ≤ 20001 := by (have := hbl.out; omega)))
    go_ret2
    exact ⟨by rw [HN.out, HC.out, hbl.out]; rfl, hb1.trans (hb2.mono hb1.size)⟩
  · have HC := Lib.hid h0
    have HN := Lib.hid (show countP' cs es b = 0 by rw [countP', if_neg h0])
    clear h0
    go_enter Tryz.func11, Tryz.ntmps11
    go_wp2_with (go_at_call 37; refine hx.mono ?_; rintro e w2 ⟨hb2, v, rfl, hv⟩; clear hv)
    go_ret2
    exact ⟨by rw [HN.out]; rfl, hb1.trans (hb2.mono hb1.size)⟩
set_option maxHeartbeats 1000000 in
theorem impl_SearchSize (A : Option Addr) (n c : Nat) (F : Option Addr) (m d : Nat) (cs : List Int) (es : List Ed) (b : Int) (w : World) (hG : RG w A n F m cs es) (hn : n ≤ 9223372036854775807) (hm : m ≤ 9223372036854775807) :
    Calls Tryz.prog 16 #[.agg #[.slice A n c, .slice F m d], .int .i64 b] w (fun e w' => e = .returned (.tuple #[.int .i64 (nodesP cs es b), .int .i64 (leavesP cs es b), .int .i64 (codeP cs es b)]) ∧ Below w.heap.size w w') := by
  have hb1 := below_alloc w (.cells #[.slice A n c, .slice F m d] 31)
  have hx := explored_any' _ A n c F m d cs es b (hG.keep hb1) hn hm
  rcases codeP_cases cs es b with h0 | ⟨h0, h1⟩
  · have HC := Lib.hid h0
    have HN := Lib.hid (show nodesP cs es b = ((runP cs es b.toNat).nodes : Int) by rw [nodesP, if_pos h0])
    have HL := Lib.hid (show leavesP cs es b = ((runP cs es b.toNat).leaves : Int) by rw [leavesP, if_pos h0])
    clear h0
    go_enter Tryz.func16, Tryz.ntmps16
    go_wp2_with (go_at_call 40; refine hx.mono ?_; rintro e w2 ⟨hb2, v, rfl, hv⟩; obtain ⟨w0, rfl, hb0, -, -, hb20, N, cN, BA, bn, bc, FA, fn, fk, FF, fm, fd, hX⟩ := hv HC.out; clear hv; rw [HC.out]; have q5 := hX.cells.2.1; have q6 := hX.cells.2.2.1)
    go_quiet (fail)
    go_wp2
    go_ret3
    exact ⟨by rw [HN.out, HL.out, HC.out]; rfl, (hb1.trans (hb2.mono hb1.size)).trans (below_drewn' _ _ _)⟩
  · have HC := Lib.hid h0
    have HN := Lib.hid (show nodesP cs es b = 0 by rw [nodesP, if_neg h0])
    have HL := Lib.hid (show leavesP cs es b = 0 by rw [leavesP, if_neg h0])
    clear h0
    go_enter Tryz.func16, Tryz.ntmps16
    go_wp2_with (go_at_call 40; refine hx.mono ?_; rintro e w2 ⟨hb2, v, rfl, hv⟩; clear hv)
    go_ret3
    exact ⟨by rw [HN.out, HL.out]; rfl, hb1.trans (hb2.mono hb1.size)⟩
set_option maxHeartbeats 1000000 in
theorem spec_SearchSize (A : Option Addr) (n c : Nat) (F : Option Addr) (m d : Nat) (cs : List Int) (es : List Ed) (b : Int) (w : World) (hG : RG w A n F m cs es) (hn : n ≤ 9223372036854775807) (hm : m ≤ 9223372036854775807) :
    Calls Tryz.prog 15 #[.agg #[.slice A n c, .slice F m d], .int .i64 b] w (fun e w' => e = .returned (.tuple #[.int .i64 (nodesP cs es b), .int .i64 (leavesP cs es b), .int .i64 (codeP cs es b)]) ∧ Below w.heap.size w w') := by
  have hb1 := below_alloc w (.cells #[.slice A n c, .slice F m d] 31)
  have hx := l22Start_any _ A n c F m d cs es b (hG.keep hb1) hn hm
  rcases codeP_cases cs es b with h0 | ⟨h0, h1⟩
  · have HC := Lib.hid h0
    have HN := Lib.hid (show nodesP cs es b = ((runP cs es b.toNat).nodes : Int) by rw [nodesP, if_pos h0])
    have HL := Lib.hid (show leavesP cs es b = ((runP cs es b.toNat).leaves : Int) by rw [leavesP, if_pos h0])
    clear h0
    go_enter Tryz.func15, Tryz.ntmps15
    go_wp2_with (go_at_call 37; refine hx.mono ?_; rintro e w2 ⟨hb2, v, rfl, hv⟩; obtain ⟨w0, rfl, hb0, -, -, hb20, N, cN, BA, bn, bc, FA, fn, fk, FF, fm, fd, hX⟩ := hv HC.out; clear hv; rw [HC.out]; have q5 := hX.cells.2.2.1; have q6 := hX.cells.2.2.2.1)
    go_quiet (fail)
    go_wp2
    go_ret3
    exact ⟨by rw [HN.out, HL.out, HC.out]; rfl, (hb1.trans (hb2.mono hb1.size)).trans (below_drewn' _ _ _)⟩
  · have HC := Lib.hid h0
    have HN := Lib.hid (show nodesP cs es b = 0 by rw [nodesP, if_neg h0])
    have HL := Lib.hid (show leavesP cs es b = 0 by rw [leavesP, if_neg h0])
    clear h0
    go_enter Tryz.func15, Tryz.ntmps15
    go_wp2_with (go_at_call 37; refine hx.mono ?_; rintro e w2 ⟨hb2, v, rfl, hv⟩; clear hv)
    go_ret3
    exact ⟨by rw [HN.out, HL.out]; rfl, hb1.trans (hb2.mono hb1.size)⟩
end Go.Proofs.YtjgihhnplckjoaaGreat
/- The laws on a graph and a budget that return numbers. No condition beyond those stated. -/
namespace Go.Proofs.YtjgihhnplckjoaaGreat
open Go.RowKit

set_option maxRecDepth 100000 in
set_option maxHeartbeats 2000000 in
theorem law_CountAutomorphisms_ok (A : Option Addr) (n c : Nat) (F : Option Addr) (m d : Nat) (cs : List Int) (es : List Ed) (b : Int) (w : World) (ha : RG w A n F m cs es) (hs : (n : Int) + m ≤ 1048576) (r0 r1 : Int)
    (hspec : (∀ (A : Option Addr) (n c : Nat) (F : Option Addr) (m d : Nat) (w : World), RG w A n F m cs es → n ≤ 1048576 → m ≤ 1048576 → Calls Tryz.prog 11 #[.agg #[.slice A n c, .slice F m d], .int .i64 b] w (fun e w' => e = .returned (.tuple #[.int .i64 r0, .int .i64 r1]) ∧ Below w.heap.size w w')))
    (himpl : (∀ (A : Option Addr) (n c : Nat) (F : Option Addr) (m d : Nat) (w : World), RG w A n F m cs es → n ≤ 1048576 → m ≤ 1048576 → Calls Tryz.prog 13 #[.agg #[.slice A n c, .slice F m d], .int .i64 b] w (fun e w' => e = .returned (.tuple #[.int .i64 r0, .int .i64 r1]) ∧ Below w.heap.size w w'))) :
    Calls Tryz.prog 3 #[.agg #[.slice A n c, .slice F m d], .int .i64 b] w fun e w' => e = .returned (.bool true) ∧ Below w.heap.size w w' := by
  have hla := Lib.hid ha.ri.len
  have hle := Lib.hid ha.re.len
  obtain ⟨bz1, bz2⟩ : n ≤ 1048576 ∧ m ≤ 1048576 := by omega
  have E1 := Lib.hid (szF_parts hs)
  have hbp : (0 : Int) ≤ 1048576 - (n + m) := by omega
  generalize hbk : (1048576 - ((n : Int) + m)) = bk at *
  have HS := Lib.hid hspec
  have HI := Lib.hid himpl
  clear hbk hspec himpl
  have p1 := Blk.new w 25 #[.slice A n c, .slice F m d]
  have b1 := below_alloc w (.cells #[.slice A n c, .slice F m d] 25)
  go_enter Tryz.func3, Tryz.ntmps3
  go_wp2_with fail
  refine (szGraph_any 1048576 A n c F m d _ (by omega) (by omega) (by omega) (by omega)).mono ?_
  rintro e w0 ⟨rfl, hb0⟩
  rw [E1.out]
  have q1 := p1.after hb0
  have b0 := below_then b1 hb0
  clear p1 b1 hb0
  obtain ⟨u0, u1⟩ := q1.cells2
  go_wp2_with fail
  refine (toGraph_any A n c F m d cs es _ (ha.keep b0) (by omega) (by omega)).mono ?_
  rintro e w1 ⟨A1, n1, c1, F1, m1, d1, rfl, ho1, hb1⟩
  have k1 : n1 ≤ 1048576 ∧ m1 ≤ 1048576 := by have := ho1.oi.len; have := ho1.oe.len; have := hla.out; have := hle.out; omega
  have q2 := q1.after hb1
  have b1 := below_then b0 hb1
  clear q1 b0 hb1 u0 u1
  go_wp2_with fail
  refine (HS.out A1 n1 c1 F1 m1 d1 _ ho1.reads (by omega) (by omega)).mono ?_
  rintro e w2 ⟨rfl, hb2⟩
  have b2 := below_then b1 hb2
  have q3 := q2.after hb2
  clear ho1 q2 b1 hb2
  obtain ⟨u0, u1⟩ := q3.cells2
  go_wp2_with fail
  refine (toGraph_any A n c F m d cs es _ (ha.keep b2) (by omega) (by omega)).mono ?_
  rintro e w3 ⟨A3, n3, c3, F3, m3, d3, rfl, ho3, hb3⟩
  have k3 : n3 ≤ 1048576 ∧ m3 ≤ 1048576 := by have := ho3.oi.len; have := ho3.oe.len; have := hla.out; have := hle.out; omega
  have b3 := below_then b2 hb3
  have b6 := below_alloc w3 (.cells #[.slice A3 n3 c3, .slice F3 m3 d3] 31)
  have p6 := Blk.new w3 31 #[.slice A3 n3 c3, .slice F3 m3 d3]
  have q4 := (q3.after hb3).after b6
  have r6 := ho3.reads.keep b6
  have b7 := below_then b3 b6
  clear ho3 hb3 b2 b3 q3 u0 u1 b6
  obtain ⟨u0, u1⟩ := p6.cells2
  go_wp2_with fail
  refine (HI.out A3 n3 c3 F3 m3 d3 _ r6 (by omega) (by omega)).mono ?_
  rintro e w4 ⟨rfl, hb4⟩
  have M1 : GSt w.heap.size w3.heap.size A F A3 F3 n c m d n3 c3 m3 d3 cs es w4 := ⟨q4.after hb4, p6.after hb4, ha.keep (below_then b7 hb4), r6.keep hb4⟩
  have bb := below_then b7 hb4
  clear hb4 b7 q4 p6 r6 u0 u1
  generalize w3.heap.size = s3 at *
  have HM := Lib.hid M1
  have HB := Lib.hid bb
  clear M1
  go_wp2_with fail
  go_region_held3 (fun w' => (GSt w.heap.size s3 A F A3 F3 n c m d n3 c3 m3 d3 cs es w' ∧ Below w.heap.size w w') ∧ w'.cell? ⟨w.heap.size, 0, none⟩ = some (.slice A n c) ∧ w'.cell? ⟨w.heap.size, 1, none⟩ = some (.slice F m d) ∧ w'.cell? ⟨s3, 0, none⟩ = some (.slice A3 n3 c3) ∧ w'.cell? ⟨s3, 1, none⟩ = some (.slice F3 m3 d3))
    (first | exact (HM.out.step (below_drewn _ 1)).full (HB.out.trans ((below_drewn _ 1).mono HB.out.size)) | exact (GSt.step (And.left (And.left (by assumption))) (by assumption)).full (below_then (And.right (And.left (by assumption))) (by assumption)))
    (first
      | (go_at_call 12; (with_reducible refine (toGraph_any A n c F m d cs es _ ?_ (by omega) (by omega)).mono ?_); (exact ha.keep (And.right (And.left (by assumption)))); rintro e w6 ⟨A6, n6, c6, F6, m6, d6, rfl, ho6, hb6⟩)
      | (go_at_call 14; (with_reducible refine (eqGraph_same A3 F3 n3 c3 m3 d3 A6 F6 n6 c6 m6 d6 cs es _ ?_ ?_ ?_ ?_ ?_).mono ?_); (exact GSt.r3 (And.left (And.left (by assumption)))); (exact ho6.reads); (omega); (omega); (have := ho6.oi.len; have := hla.out; omega); rintro e w7 ⟨rfl, hb7⟩))
  have hh7 : (GSt w.heap.size s3 A F A3 F3 n c m d n3 c3 m3 d3 cs es w7 ∧ Below w.heap.size w w7) := And.left (by assumption)
  go_wp2
  go_ret
  exact ⟨rfl, hh7.2⟩
set_option maxHeartbeats 1000000 in
theorem law_CountAutomorphisms_big (A : Option Addr) (n c : Nat) (F : Option Addr) (m d : Nat) (cs : List Int) (es : List Ed) (b : Int) (w : World) (ha : RG w A n F m cs es) (hn : n ≤ 9223372036854775807) (hm : m ≤ 9223372036854775807) (hs : ¬ (n : Int) + m ≤ 1048576) :
    Calls Tryz.prog 3 #[.agg #[.slice A n c, .slice F m d], .int .i64 b] w fun e w' => e = .returned (.bool true) ∧ Below w.heap.size w w' := by
  have E1 := Lib.hid (show szF 1048576 ((n : Int) + m) = -1 by simp [szF, hs])
  clear hs
  have b1 := below_alloc w (.cells #[.slice A n c, .slice F m d] 25)
  go_enter Tryz.func3, Tryz.ntmps3
  go_wp2_with fail
  refine (szGraph_any 1048576 A n c F m d _ (by omega) (by omega) (by omega) (by omega)).mono ?_
  rintro e w0 ⟨rfl, hb0⟩
  rw [E1.out]
  go_wp2
  go_ret
  exact ⟨rfl, below_then b1 hb0⟩
set_option maxRecDepth 100000 in
set_option maxHeartbeats 2000000 in
theorem law_SearchSize_ok (A : Option Addr) (n c : Nat) (F : Option Addr) (m d : Nat) (cs : List Int) (es : List Ed) (b : Int) (w : World) (ha : RG w A n F m cs es) (hs : (n : Int) + m ≤ 1048576) (r0 r1 r2 : Int)
    (hspec : (∀ (A : Option Addr) (n c : Nat) (F : Option Addr) (m d : Nat) (w : World), RG w A n F m cs es → n ≤ 1048576 → m ≤ 1048576 → Calls Tryz.prog 15 #[.agg #[.slice A n c, .slice F m d], .int .i64 b] w (fun e w' => e = .returned (.tuple #[.int .i64 r0, .int .i64 r1, .int .i64 r2]) ∧ Below w.heap.size w w')))
    (himpl : (∀ (A : Option Addr) (n c : Nat) (F : Option Addr) (m d : Nat) (w : World), RG w A n F m cs es → n ≤ 1048576 → m ≤ 1048576 → Calls Tryz.prog 16 #[.agg #[.slice A n c, .slice F m d], .int .i64 b] w (fun e w' => e = .returned (.tuple #[.int .i64 r0, .int .i64 r1, .int .i64 r2]) ∧ Below w.heap.size w w'))) :
    Calls Tryz.prog 4 #[.agg #[.slice A n c, .slice F m d], .int .i64 b] w fun e w' => e = .returned (.bool true) ∧ Below w.heap.size w w' := by
  have hla := Lib.hid ha.ri.len
  have hle := Lib.hid ha.re.len
  obtain ⟨bz1, bz2⟩ : n ≤ 1048576 ∧ m ≤ 1048576 := by omega
  have E1 := Lib.hid (szF_parts hs)
  have hbp : (0 : Int) ≤ 1048576 - (n + m) := by omega
  generalize hbk : (1048576 - ((n : Int) + m)) = bk at *
  have HS := Lib.hid hspec
  have HI := Lib.hid himpl
  clear hbk hspec himpl
  have p1 := Blk.new w 25 #[.slice A n c, .slice F m d]
  have b1 := below_alloc w (.cells #[.slice A n c, .slice F m d] 25)
  go_enter Tryz.func4, Tryz.ntmps4
  go_wp2_with fail
  refine (szGraph_any 1048576 A n c F m d _ (by omega) (by omega) (by omega) (by omega)).mono ?_
  rintro e w0 ⟨rfl, hb0⟩
  rw [E1.out]
  have q1 := p1.after hb0
  have b0 := below_then b1 hb0
  clear p1 b1 hb0
  obtain ⟨u0, u1⟩ := q1.cells2
  go_wp2_with fail
  refine (toGraph_any A n c F m d cs es _ (ha.keep b0) (by omega) (by omega)).mono ?_
  rintro e w1 ⟨A1, n1, c1, F1, m1, d1, rfl, ho1, hb1⟩
  have k1 : n1 ≤ 1048576 ∧ m1 ≤ 1048576 := by have := ho1.oi.len; have := ho1.oe.len; have := hla.out; have := hle.out; omega
  have q2 := q1.after hb1
  have b1 := below_then b0 hb1
  clear q1 b0 hb1 u0 u1
  go_wp2_with fail
  refine (HS.out A1 n1 c1 F1 m1 d1 _ ho1.reads (by omega) (by omega)).mono ?_
  rintro e w2 ⟨rfl, hb2⟩
  have b2 := below_then b1 hb2
  have q3 := q2.after hb2
  clear ho1 q2 b1 hb2
  obtain ⟨u0, u1⟩ := q3.cells2
  go_wp2_with fail
  refine (toGraph_any A n c F m d cs es _ (ha.keep b2) (by omega) (by omega)).mono ?_
  rintro e w3 ⟨A3, n3, c3, F3, m3, d3, rfl, ho3, hb3⟩
  have k3 : n3 ≤ 1048576 ∧ m3 ≤ 1048576 := by have := ho3.oi.len; have := ho3.oe.len; have := hla.out; have := hle.out; omega
  have b3 := below_then b2 hb3
  have b6 := below_alloc w3 (.cells #[.slice A3 n3 c3, .slice F3 m3 d3] 31)
  have p6 := Blk.new w3 31 #[.slice A3 n3 c3, .slice F3 m3 d3]
  have q4 := (q3.after hb3).after b6
  have r6 := ho3.reads.keep b6
  have b7 := below_then b3 b6
  clear ho3 hb3 b2 b3 q3 u0 u1 b6
  obtain ⟨u0, u1⟩ := p6.cells2
  go_wp2_with fail
  refine (HI.out A3 n3 c3 F3 m3 d3 _ r6 (by omega) (by omega)).mono ?_
  rintro e w4 ⟨rfl, hb4⟩
  have M1 : GSt w.heap.size w3.heap.size A F A3 F3 n c m d n3 c3 m3 d3 cs es w4 := ⟨q4.after hb4, p6.after hb4, ha.keep (below_then b7 hb4), r6.keep hb4⟩
  have bb := below_then b7 hb4
  clear hb4 b7 q4 p6 r6 u0 u1
  generalize w3.heap.size = s3 at *
  have HM := Lib.hid M1
  have HB := Lib.hid bb
  clear M1
  go_wp2_with fail
  go_region_held3 (fun w' => (GSt w.heap.size s3 A F A3 F3 n c m d n3 c3 m3 d3 cs es w' ∧ Below w.heap.size w w') ∧ w'.cell? ⟨w.heap.size, 0, none⟩ = some (.slice A n c) ∧ w'.cell? ⟨w.heap.size, 1, none⟩ = some (.slice F m d) ∧ w'.cell? ⟨s3, 0, none⟩ = some (.slice A3 n3 c3) ∧ w'.cell? ⟨s3, 1, none⟩ = some (.slice F3 m3 d3))
    (first | exact (HM.out.step (below_drewn _ 1)).full (HB.out.trans ((below_drewn _ 1).mono HB.out.size)) | exact (GSt.step (And.left (And.left (by assumption))) (by assumption)).full (below_then (And.right (And.left (by assumption))) (by assumption)))
    (first
      | (go_at_call 12; (with_reducible refine (toGraph_any A n c F m d cs es _ ?_ (by omega) (by omega)).mono ?_); (exact ha.keep (And.right (And.left (by assumption)))); rintro e w6 ⟨A6, n6, c6, F6, m6, d6, rfl, ho6, hb6⟩)
      | (go_at_call 14; (with_reducible refine (eqGraph_same A3 F3 n3 c3 m3 d3 A6 F6 n6 c6 m6 d6 cs es _ ?_ ?_ ?_ ?_ ?_).mono ?_); (exact GSt.r3 (And.left (And.left (by assumption)))); (exact ho6.reads); (omega); (omega); (have := ho6.oi.len; have := hla.out; omega); rintro e w7 ⟨rfl, hb7⟩))
  have hh7 : (GSt w.heap.size s3 A F A3 F3 n c m d n3 c3 m3 d3 cs es w7 ∧ Below w.heap.size w w7) := And.left (by assumption)
  go_wp2
  go_ret
  exact ⟨rfl, hh7.2⟩
set_option maxHeartbeats 1000000 in
theorem law_SearchSize_big (A : Option Addr) (n c : Nat) (F : Option Addr) (m d : Nat) (cs : List Int) (es : List Ed) (b : Int) (w : World) (ha : RG w A n F m cs es) (hn : n ≤ 9223372036854775807) (hm : m ≤ 9223372036854775807) (hs : ¬ (n : Int) + m ≤ 1048576) :
    Calls Tryz.prog 4 #[.agg #[.slice A n c, .slice F m d], .int .i64 b] w fun e w' => e = .returned (.bool true) ∧ Below w.heap.size w w' := by
  have E1 := Lib.hid (show szF 1048576 ((n : Int) + m) = -1 by simp [szF, hs])
  clear hs
  have b1 := below_alloc w (.cells #[.slice A n c, .slice F m d] 25)
  go_enter Tryz.func4, Tryz.ntmps4
  go_wp2_with fail
  refine (szGraph_any 1048576 A n c F m d _ (by omega) (by omega) (by omega) (by omega)).mono ?_
  rintro e w0 ⟨rfl, hb0⟩
  rw [E1.out]
  go_wp2
  go_ret
  exact ⟨rfl, below_then b1 hb0⟩
end Go.Proofs.YtjgihhnplckjoaaGreat
/- The laws on the number of automorphisms and on the size of a search. No condition. -/
namespace Go.Proofs.YtjgihhnplckjoaaGreat
open Go.RowKit

theorem law_CountAutomorphisms (A : Option Addr) (n c : Nat) (F : Option Addr) (m d : Nat) (cs : List Int) (es : List Ed) (b : Int) (w : World) (ha : RG w A n F m cs es) (hn : n ≤ 9223372036854775807) (hm : m ≤ 9223372036854775807) (_ : I64 b) :
    Calls Tryz.prog 3 #[.agg #[.slice A n c, .slice F m d], .int .i64 b] w fun e w' => e = .returned (.bool true) ∧ Below w.heap.size w w' := by
  by_cases hs : (n : Int) + m ≤ 1048576
  · exact law_CountAutomorphisms_ok A n c F m d cs es b w ha hs (countP' cs es b) (codeP cs es b)
      (fun A n c F m d w h1 h2 h3 => spec_CountAutomorphisms A n c F m d cs es b w h1 (by omega) (by omega))
      (fun A n c F m d w h1 h2 h3 => impl_CountAutomorphisms A n c F m d cs es b w h1 (by omega) (by omega))
  · exact law_CountAutomorphisms_big A n c F m d cs es b w ha hn hm hs
theorem law_SearchSize (A : Option Addr) (n c : Nat) (F : Option Addr) (m d : Nat) (cs : List Int) (es : List Ed) (b : Int) (w : World) (ha : RG w A n F m cs es) (hn : n ≤ 9223372036854775807) (hm : m ≤ 9223372036854775807) (_ : I64 b) :
    Calls Tryz.prog 4 #[.agg #[.slice A n c, .slice F m d], .int .i64 b] w fun e w' => e = .returned (.bool true) ∧ Below w.heap.size w w' := by
  by_cases hs : (n : Int) + m ≤ 1048576
  · exact law_SearchSize_ok A n c F m d cs es b w ha hs (nodesP cs es b) (leavesP cs es b) (codeP cs es b)
      (fun A n c F m d w h1 h2 h3 => spec_SearchSize A n c F m d cs es b w h1 (by omega) (by omega))
      (fun A n c F m d w h1 h2 h3 => impl_SearchSize A n c F m d cs es b w h1 (by omega) (by omega))
  · exact law_SearchSize_big A n c F m d cs es b w ha hn hm hs
end Go.Proofs.YtjgihhnplckjoaaGreat
