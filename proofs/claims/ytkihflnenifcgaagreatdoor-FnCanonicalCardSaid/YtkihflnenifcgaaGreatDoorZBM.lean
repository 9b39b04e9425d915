/- Plain law: a graph that is relabeled has the same canonical form. No condition beyond those stated. -/
import Derived.Test.YtkihflnenifcgaaGreatDoorZAR
import Derived.Test.YtkihflnenifcgaaGreatDoorZBL
import Derived.Test.YtkihflnenifcgaaGreatDoorZAN
import Derived.Test.YtkihflnenifcgaaGreatDoorZAO
import Derived.Test.YtkihflnenifcgaaGreatDoorZAI
import Derived.Test.YtkihflnenifcgaaGreatDoorZAS
import Derived.Test.YtkihflnenifcgaaGreatDoorZAT
import Derived.Test.YtkihflnenifcgaaGreatDoorZAD
import Derived.Test.YtkihflnenifcgaaGreatDoorZAK
import Derived.Test.YtkihflnenifcgaaGreatDoorZAX
import Derived.Test.YtkihflnenifcgaaGreatDoorProg
import Derived.Test.YtkihflnenifcgaaGreatDoorZAB
set_option linter.unusedVariables false
set_option linter.unusedSimpArgs false
namespace Go.Proofs.YtkihflnenifcgaaGreatDoor
open Go.RowKit

theorem rel_graph {cs : List Int} {es : List Ed} {q : List Int} (h : GraphOk cs es) (hq : Perm q) (hl : q.length = cs.length) : GraphOk (relC cs q) (relE es q) := by
  have he := graph_edges h
  have hr : EdgesOk cs.length (relE es q) := by
    refine ⟨fun e hm => ?_, setG_strict cmpE_ord _⟩
    rw [relE_tab he hq hl, tabE_mem] at hm
    obtain ⟨a, b, rfl, h1, h2, -⟩ := hm
    exact ⟨by simp, by simp; omega, by simp; omega⟩
  have hel : (relE es q).length ≤ es.length := by
    have := setG_len (c := cmpE) (es.map (imgE q))
    rw [List.length_map] at this
    exact this
  refine ⟨by rw [relC_len]; exact h.clen, Nat.le_trans hel h.elen, fun k hk => ?_, fun i hi => ?_, fun i hi => ?_⟩
  · rw [relC_len] at hk
    obtain ⟨v, hv, e⟩ := perm_surj hq (i := k) (by omega)
    have := relC_nth (cs := cs) hq hl (v := v) (by omega)
    rw [e, Int.toNat_natCast] at this
    rw [this]
    exact h.col v (by omega)
  · rw [relC_len]
    exact hr.edge _ (by rw [nthE_get hi]; exact List.getElem_mem _)
  · have := List.pairwise_iff_getElem.1 hr.strict i (i + 1) (by omega) hi (by omega)
    rw [nthE_get (by omega), nthE_get hi]
    exact (cmpE_neg _ _).1 this
theorem rel_back {cs q : List Int} (hq : Perm q) (hl : q.length = cs.length) : cs = thenP q (relC cs q) := by
  refine List.ext_getElem (by rw [thenP_len, hl]) fun v h1 h2 => ?_
  rw [← nth_get h1, ← nth_get h2, thenP_nth (by omega), relC_nth hq hl h1]
/-- the canonical form is the relabeled graph's too -/
theorem can_rel {cs : List Int} {es : List Ed} {q : List Int} {b : Int} (h0 : codeP cs es b = 0) (hq : Perm q) (hl : q.length = cs.length) :
    GraphOk cs es ∧ codeP (relC cs q) (relE es q) b = 0 ∧ canC (relC cs q) (relE es q) b = canC cs es b ∧ canE (relC cs q) (relE es q) b = canE cs es b := by
  obtain ⟨hs, hg, -⟩ := codeP_ok h0
  have he := graph_edges hg
  have hi := rel_iso he hq hl
  have hg2 := rel_graph hg hq hl
  have hb : inB b 1 20000 = true := by
    unfold codeP at h0
    rw [tB_yes hg, if_neg (by simp)] at h0
    cases e : inB b 1 20000 with
    | true => rfl
    | false => rw [e, if_pos rfl] at h0; cases h0
  have hsp := (iso_spent hi rfl (relC_len _ _) (rel_back hq hl) b.toNat).1
  have h2 : codeP (relC cs q) (relE es q) b = 0 := by
    unfold codeP
    rw [tB_yes hg2, if_neg (by simp), hb, if_neg (by simp), ← hsp, hs]
    rfl
  obtain ⟨f1, f2⟩ := iso_same hi rfl (relC_len _ _) he (by have := graph_edges hg2; rwa [relC_len] at this) (rel_back hq hl) hs (by rw [← hsp]; exact hs)
  refine ⟨hg, h2, ?_, ?_⟩
  · unfold canC; rw [if_pos h0, if_pos h2, f1]
  · unfold canE; rw [if_pos h0, if_pos h2, f2]
/-- the form is the graph, relabeled by the list that comes with it -/
theorem can_form {cs : List Int} {es : List Ed} {b : Int} (h0 : codeP cs es b = 0) : Perm (canQ cs es b) ∧ (canQ cs es b).length = cs.length ∧ relC cs (canQ cs es b) = canC cs es b ∧ relE es (canQ cs es b) = canE cs es b := by
  obtain ⟨hs, hg, -⟩ := codeP_ok h0
  have hm := row0_mem (runP_best hs)
  unfold canQ canC canE
  rw [if_pos h0, if_pos h0, if_pos h0]
  generalize row (runP cs es b.toNat).best 0 = p at hm ⊢
  have hF := (runP_seen cs es hs).forms p hm
  have hC := (runP_leaf cs es b.toNat p hm).cells (refP_cells _ _)
  exact ⟨hC.2, hC.1.len, hF.1, hF.2⟩
end Go.Proofs.YtkihflnenifcgaaGreatDoor
/- Certificates: the program's side. No condition beyond those stated. -/
namespace Go.Proofs.YtkihflnenifcgaaGreatDoor
open Go.RowKit Go.Shelf

/-- a graph's certificate -/
noncomputable def certT (cs : List Int) (es : List Ed) (b : Int) : ByteArray := if codeP cs es b = 0 then graphT (canC cs es b) (canE cs es b) else ⟨#[]⟩
theorem can_ok {cs : List Int} {es : List Ed} {b : Int} (h0 : codeP cs es b = 0) : GraphOk (canC cs es b) (canE cs es b) := by
  obtain ⟨h1, h2, h3, h4⟩ := can_form h0
  obtain ⟨-, hg, -⟩ := codeP_ok h0
  rw [← h3, ← h4]
  exact rel_graph hg h1 h2
set_option maxRecDepth 100000 in
set_option maxHeartbeats 2000000 in
theorem certificateOf_any (A : Option Addr) (n c : Nat) (F : Option Addr) (m d : Nat) (cs : List Int) (es : List Ed) (b : Int) (w : World) (hG : RG w A n F m cs es) (hn : n ≤ 9223372036854775807) (hm : m ≤ 9223372036854775807) :
    Calls Tryz.prog 10 #[.agg #[.slice A n c, .slice F m d], .int .i64 b] w fun e w' => e = .returned (.tuple #[.string (certT cs es b), .int .i64 (codeP cs es b)]) ∧ Below w.heap.size w w' := by
  have hb1 := below_alloc w (.cells #[.slice A n c, .slice F m d] 27)
  have B1 := Blk.new w 27 #[.slice A n c, .slice F m d]
  have hcan := impl_CanonicalGraph A n c F m d cs es b _ (hG.keep hb1) hn hm
  obtain ⟨x0, x1⟩ := B1.cells2
  go_enter Tryz.func10, Tryz.ntmps10
  go_wp2_with (fail)
  refine hcan.mono ?_
  rintro e w2 ⟨A2, n2, c2, F2, m2, d2, P2, np, cp, rfl, oA, oF, oP, -, hb2⟩
  have hb12 := below_then hb1 hb2
  by_cases h0 : codeP cs es b = 0
  · have hok := can_ok h0
    have hT := Lib.hid (show certT cs es b = graphT (canC cs es b) (canE cs es b) by unfold certT; rw [if_pos h0])
    have hG2 : RG w2 A2 n2 F2 m2 (canC cs es b) (canE cs es b) := ⟨oA.reads, oF.reads⟩
    have hb3 := below_alloc w2 (.cells #[.slice A2 n2 c2, .slice F2 m2 d2] 27)
    have B3 := Blk.new w2 27 #[.slice A2 n2 c2, .slice F2 m2 d2]
    have htx := graphText_any A2 n2 c2 F2 m2 d2 (canC cs es b) (canE cs es b) _ (hG2.keep hb3) hok
    have hb13 := below_then hb12 hb3
    obtain ⟨y0, y1⟩ := B3.cells2
    have HK0 := Lib.hid h0
    rw [h0]
    clear hok hG2 oA oF oP hcan h0
    go_wp2_with (go_at_call 12; refine htx.mono ?_; rintro e w4 ⟨rfl, hb4⟩)
    go_ret2
    exact ⟨by rw [hT.out, HK0.out]; rfl, hb13.trans (hb4.mono hb13.size)⟩
  · have hT := Lib.hid (show certT cs es b = ⟨#[]⟩ by unfold certT; rw [if_neg h0])
    have hk : (codeP cs es b != 0) = true := by simp [h0]
    have hb3 := below_alloc w2 (.cells #[.slice A2 n2 c2, .slice F2 m2 d2] 27)
    have hb13 := below_then hb12 hb3
    obtain ⟨K, hK⟩ : ∃ K, codeP cs es b = K := ⟨_, rfl⟩
    rw [hK] at hk ⊢
    have HK := Lib.hid hK
    clear hK h0 hcan
    go_wp2
    go_ret2
    exact ⟨by rw [hT.out, HK.out]; rfl, hb13⟩
end Go.Proofs.YtkihflnenifcgaaGreatDoor
/- The permutation that leaves all in place, on both sides. No condition beyond those stated. -/
namespace Go.Proofs.YtkihflnenifcgaaGreatDoor
open Go.RowKit

theorem iota_step {n k : Nat} (h : k < n) : (copied (iotaP n) (List.replicate n 0) k).set k (k : Int) = copied (iotaP n) (List.replicate n 0) (k + 1) := by
  have := copied_step (xs := iotaP n) (zs := List.replicate n 0) (j := k) (by rw [iotaP_len]; exact h) (by simpa using h)
  rwa [iotaP_nth h] at this
set_option maxHeartbeats 1000000 in
theorem identity_any (n : Nat) (w : World) (hn : n ≤ 1048576) :
    Calls Tryz.prog 52 #[.int .i64 n] w (RetI w 2 (iotaP n)) := by
  have hmk := run_make_row' (P := Tryz.prog) 24 2 (.int .i64 0) 8 Tryz.underlying24 int_info rfl .i64 .i64 n (by omega) (by omega)
  have ho0 := OI.made w w.heap.size 2 n (Nat.le_refl _) (by omega)
  rw [← copied_zero (iotaP n) (List.replicate n 0)] at ho0
  have hb0 := below_alloc w (.cells (madeCells #[.int .i64 0] n) 2)
  go_enter Tryz.func52, Tryz.ntmps52
  go_wp2
  go_loopw [4, 9] (fun _ i wr => ∃ k : Nat, k ≤ n ∧ i = .int .i64 k ∧ OI wr w.heap.size 2 (some ⟨w.heap.size, 0, none⟩) n n (copied (iotaP n) (List.replicate n 0) k) ∧ Below w.heap.size w wr) (fun _ i _ => n - (intOf i).toNat)
  case atStart => exact ⟨0, Nat.zero_le _, rfl, ho0, hb0⟩
  case round =>
    clear ho0 hb0 hmk
    obtain ⟨k, hk, rfl, ho, hw⟩ := hrel
    by_cases hlt : k < n
    · obtain ⟨g, hg, cc, cf, -⟩ := ho.cell hlt
      cases hg
      have ho2 := ho.set k (u := (k : Int)) (by unfold I64; omega)
      rw [iota_step hlt] at ho2
      have hw2 := Below.setCell hw (p := ⟨w.heap.size, k, none⟩) (Nat.le_refl _) (.int .i64 (k : Int))
      clear ho hw
      go_wp2
      go_roundw
      case rel => exact ⟨k + 1, by omega, by go_num, ho2, hw2⟩
      case measure => simp [intOf]; omega
    · obtain rfl : k = n := by omega
      have hall := copied_all (xs := iotaP k) (zs := List.replicate k 0) (by rw [iotaP_len]; simp)
      rw [iotaP_len] at hall
      rw [hall] at ho
      go_wp2
      go_ret
      exact ⟨_, _, _, rfl, ho, hw⟩
end Go.Proofs.YtkihflnenifcgaaGreatDoor
/- impl.isOrder, impl.RelabelGraph. No condition beyond those stated. -/
namespace Go.Proofs.YtkihflnenifcgaaGreatDoor
open Go.RowKit

set_option maxHeartbeats 800000 in
theorem isOrder_any (A : Option Addr) (n c m : Nat) (p : List Int) (w : World) (ha : RI w A n p) (hn : n ≤ 1048576) (hm : m ≤ 1048576) :
    Calls Tryz.prog 22 #[.slice A n c, .int .i64 m] w (fun e w' => e = .returned (.bool (decide (srt p = iotaP m))) ∧ Below w.heap.size w w') := by
  go_enter Tryz.func22, Tryz.ntmps22
  go_wp2_with fail
  refine (clone_any A n c p w ha (by omega)).mono ?_
  rintro e w1 ⟨A1, n1, c1, rfl, ho1, hb1⟩
  obtain rfl : n1 = n := by rw [← ho1.len, ha.len]
  go_wp2_with fail
  refine (sort_any w.heap.size 2 A1 n1 c1 p w1 ho1 (by omega)).mono ?_
  rintro e w2 ⟨rfl, ho2, hg2⟩
  have hb2 := below_own hb1 hg2 hb1.size (fun b hb => (ho1.os.lt hb).1)
  go_wp2_with fail
  refine (identity_any m w2 hm).mono ?_
  rintro e w3 ⟨A3, n3, c3, rfl, ho3, hb3⟩
  have ho4 := ho2.below hb3
  have hw3 := hb2.trans (hb3.mono hb2.size)
  go_wp2_with fail
  refine (slicesEqual_any A1 A3 n1 n3 c1 c3 (srt p) (iotaP m) w3 ho4.reads ho3.reads (by omega) (by rw [← ho3.len, iotaP_len]; omega)).mono ?_
  rintro e w4 ⟨rfl, hd4⟩
  have hw4 := hw3.trans (hd4.below.mono hw3.size)
  go_wp2
  go_ret
  exact ⟨rfl, hw4⟩
theorem srt_iota {n : Nat} {p : List Int} (hp : Perm p) (hl : p.length = n) : srt p = iotaP n := by
  refine nth_ext (by rw [srt_len, hl, iotaP_len]) fun k hk => ?_
  rw [srt_len] at hk
  rw [perm_inOrder hp k hk, iotaP_nth (by omega)]
/-- a graph in memory of its own, and a code -/
def RetGC (w : World) (cs : List Int) (es : List Ed) (en : Ending) (w' : World) : Prop :=
  ∃ A n c F m d, en = .returned (.tuple #[.agg #[.slice A n c, .slice F m d], .int .i64 0]) ∧ OI w' w.heap.size 2 A n c cs ∧ OE w' w.heap.size 65 F m d es ∧ Below w.heap.size w w'
set_option maxRecDepth 100000 in
set_option maxHeartbeats 800000 in
theorem relabelGraph_any (A : Option Addr) (n c : Nat) (F : Option Addr) (m d : Nat) (cs : List Int) (es : List Ed) (P : Option Addr) (cP : Nat) (p : List Int) (w : World) (ha : RG w A n F m cs es) (hP : RI w P n p) (hp : Perm p) (hn : n ≤ 4096) (hm : m ≤ 1048576) (hg : GraphOk cs es) (he : EdgesOk n es) :
    Calls Tryz.prog 8 #[.agg #[.slice A n c, .slice F m d], .slice P n cP] w (RetGC w (relC cs p) (relE es p)) := by
  have hb0 := (below_alloc w (.cells #[.slice A n c, .slice F m d] 27)).trans ((below_alloc _ (.cells #[.slice none 0 0, .slice none 0 0] 27)).mono (by simp))
  have X := (Blk.new w 27 #[.slice A n c, .slice F m d]).alloc (.cells #[.slice none 0 0, .slice none 0 0] 27)
  have R : Blk ((w.alloc (.cells #[.slice A n c, .slice F m d] 27)).alloc (.cells #[.slice none 0 0, .slice none 0 0] 27)) (w.heap.size + 1) 27 #[.slice none 0 0, .slice none 0 0] := by
    have := Blk.new (w.alloc (.cells #[.slice A n c, .slice F m d] 27)) 27 #[.slice none 0 0, .slice none 0 0]
    simpa using this
  have hlp := Lib.hid hP.len
  have hv := validGraph_any A n c F m d cs es _ (ha.keep hb0) (by omega) (by omega)
  rw [show tB (GraphOk cs es) = true from tB_true.2 hg] at hv
  clear hg
  go_enter Tryz.func8, Tryz.ntmps8
  go_wp2_with fail
  refine hv.mono ?_
  rintro e w1 ⟨rfl, hb1⟩
  have X1 := X.after hb1
  have R1 := R.after hb1
  have hw1 := hb0.trans (hb1.mono hb0.size)
  obtain ⟨x0, x1⟩ := X1.cells2
  clear hb0 hb1 hv X R
  have hs3 := sizeI_any A n c w1 (by omega)
  have hi4 := isOrder_any P n cP n p w1 (hP.keep hw1) (by omega) (by omega)
  rw [show decide (srt p = iotaP n) = true from by simp [srt_iota hp hlp.out]] at hi4
  go_wp2_with fail
  refine hs3.mono ?_
  rintro e w' ⟨rfl, rfl⟩
  go_wp2_with fail
  refine hi4.mono ?_
  rintro e w4 ⟨rfl, hb4⟩
  have X4 := X1.after hb4
  have R4 := R1.after hb4
  have hw4 := hw1.trans (hb4.mono hw1.size)
  clear X1 R1 hb4 hs3 hi4 x0 x1 hw1
  obtain ⟨x0, x1⟩ := X4.cells2
  have hr := relabeledGraph_any A n c F m d cs es P n cP p w4 (ha.keep hw4) (hP.keep hw4) rfl hp hn hm he
  go_wp2_with fail
  refine hr.mono ?_
  rintro e w5 ⟨A5, n5, c5, F5, m5, d5, rfl, hO, hb5⟩
  have R5 := R4.after hb5
  have hsz := hw4.size
  have hoi := hO.oi.more hsz
  have hoe := hO.oe.more hsz
  have hw5 := hw4.trans (hb5.mono hsz)
  have hlt := R5.lt
  obtain ⟨r0, r1⟩ := R5.cells2
  have f0 := R5.frozen 0
  have f1 := R5.frozen 1
  have e1 : some (w.heap.size + 1) ≠ blk A5 := OS.typed' hoi.os R5 (by decide)
  have e2 : some (w.heap.size + 1) ≠ blk F5 := OS.typed' hoe.os R5 (by decide)
  have oA := (hoi.kept (grown_set (g := w.heap.size + 1) (p := 0) (u := .slice A5 n5 c5)) (.inr fun e => e1 e.symm)).kept (grown_set (g := w.heap.size + 1) (p := 1) (u := .slice F5 m5 d5)) (.inr fun e => e1 e.symm)
  have oF := (hoe.kept (grown_set (g := w.heap.size + 1) (p := 0) (u := .slice A5 n5 c5)) (.inr fun e => e2 e.symm)).kept (grown_set (g := w.heap.size + 1) (p := 1) (u := .slice F5 m5 d5)) (.inr fun e => e2 e.symm)
  have hw6 := Below.setCell (Below.setCell hw5 (p := ⟨w.heap.size + 1, 0, none⟩) (Nat.le_succ _) (.slice A5 n5 c5)) (p := ⟨w.heap.size + 1, 1, none⟩) (Nat.le_succ _) (.slice F5 m5 d5)
  have R6 := (R5.set_ 0 (.slice A5 n5 c5)).set_ 1 (.slice F5 m5 d5)
  clear hO hoi hoe hw5 hb5 hr X4 R4 R5 hw4
  go_wp2
  clear r0 r1 x0 x1
  obtain ⟨y0, y1⟩ := Blk.cells2 (by simpa using R6)
  exact bodyPost_ret (v := .tuple #[.agg #[.slice A5 n5 c5, .slice F5 m5 d5], .int .i64 0]) (by simp [results, Tryz.results8, go_sem, y0, y1]) rfl ⟨A5, n5, c5, F5, m5, d5, rfl, oA, oF, hw6⟩
end Go.Proofs.YtkihflnenifcgaaGreatDoor
/- What the drawn laws share: lengths of inputs, numbers chosen by bytes, numbers looked for in a list. No condition beyond those stated. -/
namespace Go.Proofs.YtkihflnenifcgaaGreatDoor
open Go.RowKit

set_option maxHeartbeats 400000 in
theorem b10Long_yes (A : Option Addr) (n c : Nat) (w : World) (hn : 1048576 < n) : Calls Tryz.prog 5 #[.slice A n c] w fun e w' => e = .returned (.bool true) ∧ w = w' := by
  have h : (n : Int) > 1048576 := by omega
  go_enter Tryz.func5, Tryz.ntmps5
  go_wp2
  go_ret
  exact ⟨by simp, rfl⟩
set_option maxHeartbeats 400000 in
theorem b10Long_no (A : Option Addr) (n c : Nat) (w : World) (hn : n ≤ 1048576) : Calls Tryz.prog 5 #[.slice A n c] w fun e w' => e = .returned (.bool false) ∧ w = w' := by
  have h : ¬ (n : Int) > 1048576 := by omega
  go_enter Tryz.func5, Tryz.ntmps5
  go_wp2
  go_ret
  exact ⟨by simp, rfl⟩
/-- the number that a byte chooses, or its index behind the end -/
def atP (zs : List Int) (i k : Int) : Int := if k ≤ 1 then 0 else if i < zs.length then nth zs i.toNat % k else (i * 37 + 11) % k
theorem atP_bd {zs : List Int} {i k : Int} (h : 1 ≤ k) : 0 ≤ atP zs i k ∧ atP zs i k < k := by
  unfold atP
  split
  · omega
  · split
    · exact ⟨Int.emod_nonneg _ (by omega), Int.emod_lt_of_pos _ (by omega)⟩
    · exact ⟨Int.emod_nonneg _ (by omega), Int.emod_lt_of_pos _ (by omega)⟩
set_option maxHeartbeats 1000000 in
theorem b10At_any (A : Option Addr) (n c : Nat) (zs : List Int) (i : Nat) (k : Int) (w : World) (ha : RS EByte w A n zs) (hi2 : i ≤ 1000000) (hk2 : k ≤ 1000000) (hn : n ≤ 9223372036854775807) :
    Calls Tryz.prog 25 #[.slice A n c, .int .i64 i, .int .i64 k] w fun e w' => e = .returned (.int .i64 (atP zs i k)) ∧ w = w' := by
  have hla := Lib.hid ha.len
  by_cases h0 : k ≤ 1
  · have HA := Lib.hid (show atP zs i k = 0 by rw [atP, if_pos h0])
    go_enter Tryz.func25, Tryz.ntmps25
    go_wp2
    go_ret
    exact ⟨by rw [HA.out]; rfl, rfl⟩
  · by_cases hlt : i < n
    · have HA := Lib.hid (show atP zs i k = nth zs i % k by rw [atP, if_neg h0, if_pos (by rw [hla.out]; omega), Int.toNat_natCast])
      obtain ⟨ad, u, x, rfl, hx, hc, rfl, x0, x1⟩ := ha.get hlt
      have HX := Lib.hid (nth_eq hx)
      have h0' : 1 < k := by omega
      clear hx h0
      go_enter Tryz.func25, Tryz.ntmps25
      go_wp2
      go_ret
      exact ⟨by rw [HA.out, HX.out]; rfl, rfl⟩
    · have HA := Lib.hid (show atP zs i k = ((i : Int) * 37 + 11) % k by rw [atP, if_neg h0, if_neg (by rw [hla.out]; omega)])
      have h0' : 1 < k := by omega
      have hge : n ≤ i := by omega
      clear h0
      go_enter Tryz.func25, Tryz.ntmps25
      go_wp2
      go_ret
      exact ⟨by rw [HA.out]; rfl, rfl⟩
end Go.Proofs.YtkihflnenifcgaaGreatDoor
