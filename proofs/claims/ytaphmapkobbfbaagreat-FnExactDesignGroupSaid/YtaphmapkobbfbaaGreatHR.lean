/- The group of a design, plain: rows put where the search finds them. -/
import Derived.Test.YtaphmapkobbfbaaGreatHP
import Derived.Test.YtaphmapkobbfbaaGreatHA
import Derived.Test.YtaphmapkobbfbaaGreatHQ
set_option linter.unusedVariables false
set_option linter.unusedSimpArgs false
namespace Go.Proofs.YtaphmapkobbfbaaGreat

theorem setG_self {zss : List (List Int)} (hs : StrictL cmpL zss) : setG cmpL zss = zss := setG_eq cmpL_ord hs fun _ => Iff.rfl
theorem putG_snoc {zss : List (List Int)} (hs : StrictL cmpL zss) (x : List Int) : putG cmpL zss x = setG cmpL (zss ++ [x]) := by
  rw [setG_snoc, setG_self hs]
theorem fd_same {zss : List (List Int)} {x : List Int} {k : Nat} (hs : StrictL cmpL zss) (h : FdAt zss x k true) : putG cmpL zss x = zss := by
  rw [putG_snoc hs]
  rcases h.2 with ⟨-, hx⟩ | ⟨h, -⟩
  · refine setG_eq cmpL_ord hs fun y => ⟨fun hy => List.mem_append_left _ hy, fun hy => ?_⟩
    rcases List.mem_append.1 hy with hy | hy
    · exact hy
    · rw [List.mem_singleton.1 hy]; exact hx
  · cases h
theorem fd_put {zss : List (List Int)} {x : List Int} {k : Nat} (hs : StrictL cmpL zss) (h : FdAt zss x k false) : zss.take k ++ [x] ++ zss.drop k = putG cmpL zss x := by
  rw [putG_snoc hs]
  obtain ⟨hk, h⟩ := h
  rcases h with ⟨h, -⟩ | ⟨-, h1, h2⟩
  · cases h
  · refine (setG_eq cmpL_ord ?_ fun y => ?_).symm
    · have a1 : ∀ a ∈ zss.take k, cmpL a x < 0 := fun a ha => by
        obtain ⟨i, hi, rfl⟩ := List.mem_iff_getElem.1 ha
        rw [List.length_take] at hi
        rw [List.getElem_take]
        have := h1 i (by omega)
        rwa [row_get (by omega)] at this
      have a2 : ∀ a ∈ zss.drop k, cmpL x a < 0 := fun a ha => by
        obtain ⟨i, hi, rfl⟩ := List.mem_iff_getElem.1 ha
        rw [List.length_drop] at hi
        rw [List.getElem_drop]
        have := h2 (k + i) (by omega) (by omega)
        rw [row_get (by omega)] at this
        have := cmpL_ord.swap zss[k + i] x
        omega
      unfold StrictL
      rw [List.append_assoc, List.pairwise_append]
      refine ⟨hs.sublist (List.take_sublist _ _), List.pairwise_cons.2 ⟨a2, hs.sublist (List.drop_sublist _ _)⟩, fun a ha b hb => ?_⟩
      rcases List.mem_cons.1 hb with rfl | hb
      · exact a1 a ha
      · exact cmpL_ord.lt_trans (a1 a ha) (a2 b hb)
    · have e : y ∈ zss ↔ y ∈ zss.take k ∨ y ∈ zss.drop k := by rw [← List.mem_append, List.take_append_drop]
      simp only [List.mem_append, List.mem_singleton, e]
      constructor
      · rintro ((h | h) | h)
        · exact .inl (.inl h)
        · exact .inr h
        · exact .inl (.inr h)
      · rintro ((h | h) | h)
        · exact .inl (.inl h)
        · exact .inr h
        · exact .inl (.inr h)
/-- the cut automorphisms -/
def cutL (V : Nat) (best : List (List Int)) : List (List Int) := best.map fun p => thenP (p.take V) (invP ((row best 0).take V))
theorem cutL_len (V : Nat) (best : List (List Int)) : (cutL V best).length = best.length := by simp [cutL]
theorem cutL_at {V : Nat} {best : List (List Int)} {k : Nat} (h : k < best.length) : row (cutL V best) k = thenP ((row best k).take V) (invP ((row best 0).take V)) := by
  rw [row_get (by rw [cutL_len]; exact h)]
  unfold cutL
  rw [List.getElem_map, row_get h]
theorem cutL_aut {V m : Nat} {best : List (List Int)} (h0 : 0 < best.length) (h : ∀ p ∈ best, UpL (dsC V m) p ∧ Perm p) : (autL best).map (fun p => p.take V) = cutL V best := by
  unfold autL cutL
  rw [List.map_map]
  refine List.map_congr_left fun p hp => ?_
  have hr : row best 0 ∈ best := by rw [row_get h0]; exact List.getElem_mem _
  exact cut_then (h p hp).1 (h p hp).2 (h _ hr).1 (h _ hr).2
end Go.Proofs.YtaphmapkobbfbaaGreat
/- DesignGroup, the reference's side. No condition beyond those stated. -/
namespace Go.Proofs.YtaphmapkobbfbaaGreat
open Go.RowKit

noncomputable def grL (v : Int) (bs : List (List Int)) (b : Int) : List (List Int) := setG cmpL (cutL v.toNat (runP (dgC v.toNat bs) (dgE v.toNat bs) b.toNat).best)
noncomputable def grK (v : Int) (bs : List (List Int)) (b : Int) : Int := if dK v bs b ≠ 0 then dK v bs b else if 720 < (grL v bs b).length then 5 else 0
noncomputable def grV (v : Int) (bs : List (List Int)) (b : Int) : Int := if grK v bs b = 0 then v else 0
noncomputable def grR (v : Int) (bs : List (List Int)) (b : Int) : List (List Int) := if grK v bs b = 0 then grL v bs b else []
theorem gr_err {v : Int} {bs : List (List Int)} {b : Int} (h : dK v bs b ≠ 0) : grK v bs b = dK v bs b ∧ grV v bs b = 0 ∧ grR v bs b = [] := by
  have h1 : grK v bs b = dK v bs b := by simp [grK, h]
  exact ⟨h1, by simp [grV, h1, h], by simp [grR, h1, h]⟩
theorem gr_big {v : Int} {bs : List (List Int)} {b : Int} (h : dK v bs b = 0) (k : 720 < (grL v bs b).length) : grK v bs b = 5 ∧ grV v bs b = 0 ∧ grR v bs b = [] := by
  have h1 : grK v bs b = 5 := by simp [grK, h, k]
  exact ⟨h1, by simp [grV, h1], by simp [grR, h1]⟩
theorem gr_ok {v : Int} {bs : List (List Int)} {b : Int} (h : dK v bs b = 0) (k : ¬ 720 < (grL v bs b).length) : grK v bs b = 0 ∧ grV v bs b = v ∧ grR v bs b = grL v bs b := by
  have h1 : grK v bs b = 0 := by simp [grK, h, k]
  exact ⟨h1, by simp [grV, h1], by simp [grR, h1]⟩
/-- a group that reads so, and a code -/
def RetGp (w : World) (v : Int) (bs : List (List Int)) (b : Int) (e : Ending) (w' : World) : Prop :=
  ∃ A n c, e = .returned (.tuple #[.agg #[.int .i64 (grV v bs b), .slice A n c], .int .i64 (grK v bs b)]) ∧ RR w' A n (grR v bs b) ∧ Below w.heap.size w w'
set_option maxRecDepth 100000 in
set_option maxHeartbeats 1000000 in
theorem spec_DesignGroup_err (v : Int) (A : Option Addr) (n c : Nat) (bs : List (List Int)) (b : Int) (w : World) (ha : RR w A n bs) (hn : n ≤ 1048576) (h0 : dK v bs b ≠ 0) :
    Calls Tryz.prog 27 #[.agg #[.int .i64 v, .slice A n c], .int .i64 b] w (RetGp w v bs b) := by
  have hb1 := below_then (below_alloc w (.cells #[.int .i64 v, .slice A n c] 28)) (below_alloc _ (.cells #[.int .i64 0, .slice none 0 0] 45))
  have X := (Blk.new w 28 #[.int .i64 v, .slice A n c]).alloc (.cells #[.int .i64 0, .slice none 0 0] 45)
  have Y : Blk ((w.alloc (.cells #[.int .i64 v, .slice A n c] 28)).alloc (.cells #[.int .i64 0, .slice none 0 0] 45)) (w.heap.size + 1) 45 #[.int .i64 0, .slice none 0 0] := by
    have := Blk.new (w.alloc (.cells #[.int .i64 v, .slice A n c] 28)) 45 #[.int .i64 0, .slice none 0 0]
    simpa using this
  have hf := l23Find_all _ v A n c bs b _ X (ha.keep hb1) (by omega)
  have HR := Lib.hid (gr_err h0)
  have h0' : (dK v bs b != 0) = true := by simp [h0]
  clear h0
  generalize hW1 : (w.alloc (.cells #[.int .i64 v, .slice A n c] 28)).alloc (.cells #[.int .i64 0, .slice none 0 0] 45) = W1 at *
  go_enter Tryz.func27, Tryz.ntmps27
  go_wp2_with fail
  refine hf.mono ?_
  rintro e w2 ⟨hb2, p, rfl, -⟩
  have Y2 := Y.after hb2
  obtain ⟨y0, y1⟩ := Y2.cells2
  have f0 := Y2.frozen 0
  have f1 := Y2.frozen 1
  have YF := (Y2.set_ 0 (.int .i64 0)).set_ 1 (.slice none 0 0)
  obtain ⟨z0, z1⟩ : ((w2.setCell ⟨w.heap.size + 1, 0, none⟩ (.int .i64 0)).setCell ⟨w.heap.size + 1, 1, none⟩ (.slice none 0 0)).cell? ⟨w.heap.size + 1, 0, none⟩ = some (.int .i64 0) ∧ ((w2.setCell ⟨w.heap.size + 1, 0, none⟩ (.int .i64 0)).setCell ⟨w.heap.size + 1, 1, none⟩ (.slice none 0 0)).cell? ⟨w.heap.size + 1, 1, none⟩ = some (.slice none 0 0) := ⟨YF.cell 0, YF.cell 1⟩
  have hw2 := hb1.trans (hb2.mono hb1.size)
  clear hf
  go_wp2
  refine bodyPost_ret (v := .tuple #[.agg #[.int .i64 0, .slice none 0 0], .int .i64 (dK v bs b)]) (by simp [results, Tryz.results27, go_sem, z0, z1]) rfl ?_
  exact ⟨none, 0, 0, by rw [HR.out.1, HR.out.2.1], by rw [HR.out.2.2]; exact RS.nil_ _ _ _, (hw2.setCell (p := ⟨w.heap.size + 1, 0, none⟩) (by simp) _).setCell (p := ⟨w.heap.size + 1, 1, none⟩) (by simp) _⟩
/-- the cut rows, as the loop reads them -/
theorem cut_rows {V m : Nat} {best : List (List Int)} (h : ∀ p ∈ best, UpL (dsC V m) p ∧ Perm p) {k : Nat} (hk : k < best.length) : ((row best k).take V).length = V ∧ Perm ((row best k).take V) := by
  have hr : row best k ∈ best := by rw [row_get hk]; exact List.getElem_mem _
  exact up_perm (h _ hr).1 (h _ hr).2
theorem cut_set {V : Nat} {best : List (List Int)} {k : Nat} (h : k < best.length) : putG cmpL (setG cmpL ((cutL V best).take k)) (thenP ((row best k).take V) (invP ((row best 0).take V))) = setG cmpL ((cutL V best).take (k + 1)) := by
  rw [← cutL_at h]
  exact setG_take (by rw [cutL_len]; exact h)
theorem run_cut {V m : Nat} (es : List Ed) (b : Nat) : ∀ p ∈ (runP (dsC V m) es b).best, UpL (dsC V m) p ∧ Perm p := fun p hp => ⟨runP_up _ _ b hp, (runP_rows _ _ b p hp).2⟩
end Go.Proofs.YtaphmapkobbfbaaGreat
/- DesignGroup, the reference's loop . -/
namespace Go.Proofs.YtaphmapkobbfbaaGreat
open Go.RowKit

theorem setG_more (l : List (List Int)) (k : Nat) : (setG cmpL (l.take k)).length ≤ (setG cmpL l).length :=
  List.Nodup.length_le_of_subset (strict_nodup cmpL_ord (setG_strict cmpL_ord _)) fun x hx => (setG_mem cmpL_ord _ _).2 (List.mem_of_mem_take ((setG_mem cmpL_ord _ _).1 hx))
set_option maxRecDepth 100000 in
set_option maxHeartbeats 2000000 in
theorem spec_DesignGroup_ok (V : Nat) (A : Option Addr) (n c : Nat) (bs : List (List Int)) (b : Int) (w : World) (ha : RR w A n bs) (hn : n ≤ 1048576) (h0 : dK (V : Int) bs b = 0) :
    Calls Tryz.prog 27 #[.agg #[.int .i64 V, .slice A n c], .int .i64 b] w (RetGp w (V : Int) bs b) := by
  have hb1 := below_then (below_alloc w (.cells #[.int .i64 V, .slice A n c] 28)) (below_alloc _ (.cells #[.int .i64 0, .slice none 0 0] 45))
  have X := (Blk.new w 28 #[.int .i64 V, .slice A n c]).alloc (.cells #[.int .i64 0, .slice none 0 0] 45)
  have Y : Blk ((w.alloc (.cells #[.int .i64 V, .slice A n c] 28)).alloc (.cells #[.int .i64 0, .slice none 0 0] 45)) (w.heap.size + 1) 45 #[.int .i64 0, .slice none 0 0] := by
    have := Blk.new (w.alloc (.cells #[.int .i64 V, .slice A n c] 28)) 45 #[.int .i64 0, .slice none 0 0]
    simpa using this
  have hf := l23Find_all _ V A n c bs b _ X (ha.keep hb1) (by omega)
  have HC := Lib.hid h0
  clear h0
  generalize hW1 : (w.alloc (.cells #[.int .i64 V, .slice A n c] 28)).alloc (.cells #[.int .i64 0, .slice none 0 0] 45) = W1 at *
  go_enter Tryz.func27, Tryz.ntmps27
  go_wp2_with fail
  refine hf.mono ?_
  rintro e w2 ⟨hb2, p, rfl, hp⟩
  obtain ⟨GA, gn, gc, GF, gm, gd, w0, rfl, hb0, N, cN, BA, bn, bc, FA, fn, fk, FF, fm, fd, hX⟩ := hp HC.out
  rw [HC.out]
  have hw2 := hb1.trans (hb2.mono hb1.size)
  have X2 := X.after hb2
  have Y2 := Y.after hb2
  have hYl := Y2.lt
  obtain ⟨vs, hbv, -⟩ := hX.sb.best
  have hbn := hbv.slen
  have c9 := hX.cells.2.1
  obtain ⟨x0, x1⟩ := X2.cells2
  obtain ⟨VV, hVV, hD, hin, hg0, hcp⟩ := dK_zero HC.out
  obtain rfl : VV = V := by omega
  obtain ⟨s1, s2, s3⟩ := codeP_ok hcp
  have hbl := runP_len (dgC VV bs) (dgE VV bs) b.toNat
  have HB := Lib.hid (runP_best s1)
  have hbn0 : 0 < bn := by rw [← hbn]; exact List.length_pos_iff.2 HB.out
  have hdg : dgC VV bs = dsC VV bs.length := by
    by_cases h : dsF VV bs = true
    · rw [dgK, h] at hg0; cases hg0
    · rw [dgC, if_neg h]
  have hUp := run_cut (V := VV) (m := bs.length) (dgE VV bs) b.toNat
  rw [← hdg] at hUp
  simp only [Int.toNat_natCast] at hbn hbv
  generalize hbest : (runP (dgC VV bs) (dgE VV bs) b.toNat).best = best at *
  rw [hdg] at hUp
  have hr := hbv.reads
  have hlb := Lib.hid hr.len
  obtain ⟨ba, B0, m0, c0, rfl, b1, b2, b3, b4⟩ := hr.get hbn0
  rw [add_zero_] at b1
  obtain ⟨q1, q2⟩ := cut_rows hUp (k := 0) (by rw [hlb.out]; exact hbn0)
  have hm0 : VV ≤ m0 := by rw [List.length_take] at q1; have := b4.len; omega
  have hcut := b4.take (k := VV) hm0
  have hv32 := hD.v2
  have hal := below_alloc w2 (.cells #[] 37)
  have hL0 : OB (w2.alloc (.cells #[] 37)) w2.heap.size (some ⟨w2.heap.size, 0, none⟩) 0 0 [] (setG cmpL ((cutL VV best).take 0)) := ⟨OS.lit w2 w2.heap.size 37 1 0 #[] (Nat.le_refl _) rfl (by omega), rfl, fun _ _ _ h => by simp at h⟩
  go_wp2
  generalize hW2 : w2.alloc (.cells #[] 37) = W2 at *
  have c9 := below_cell hal c9
  have b1 := below_cell hal b1
  have x0 := below_cell hal x0
  have hcut := hcut.keep hal
  have hr := hr.keep hal
  have hwW := hw2.trans (hal.mono hw2.size)
  have X2 := X2.after hal
  have Y2 := Y2.after hal
  have HBK := Lib.hid (fun (w' : World) (hb : Below W2.heap.size W2 w') => l04Back_any B0 VV c0 _ w' (hcut.keep hb) q2 (by omega))
  go_region_held_law (fun w' => Below W2.heap.size W2 w' ∧ w'.cell? ⟨w0.heap.size, 5, none⟩ = some (.slice (some ba) bn bc) ∧ w'.cell? ba = some (.slice B0 m0 c0) ∧ w'.cell? ⟨w.heap.size, 0, none⟩ = some (.int .i64 VV))
    (first | exact ⟨below_drewn _ 1, c9, b1, x0⟩ | exact ⟨by assumption, below_cell (by assumption) c9, below_cell (by assumption) b1, below_cell (by assumption) x0⟩)
    (first | (go_at_call 49; (with_reducible refine (HBK.out _ ?_).mono ?_); (exact below_drewn _ 1); rintro e w3 ⟨A3, n3, c3, rfl, ho3, hb3⟩; have hX3 : Below W2.heap.size W2 w3 := (below_drewn _ 1).trans (hb3.mono (Nat.le_refl _))))
  have hn3 : n3 = VV := by rw [← ho3.len, invP_len, q1]
  subst hn3
  have hw3 := hwW.trans (hX3.mono hwW.size)
  have ri3 := ho3.reads
  have X3 := X2.after hX3
  have Y3 := Y2.after hX3
  have hr3 := hr.keep hX3
  have c93 := below_cell hX3 c9
  have hL3 := hL0.below hX3
  have hlW2 : w2.heap.size ≤ w3.heap.size := Nat.le_trans hal.size hX3.size
  have hgl : grL (n3 : Int) bs b = setG cmpL (cutL n3 best) := by rw [grL, Int.toNat_natCast, hbest]
  clear hb3 ho3 X2 Y2 hr c9 b1 x0 hL0 HBK hcut hbv hX hb2 hp hwW hw2
  go_wp2
  go_loopw [8, 10] (fun l i wr => ∃ (j : Nat) (L : Addr) (n' c' : Nat) (xs : List Sl), i = .int .i64 j ∧ j ≤ bn ∧ l = .slice (some L) n' c' ∧ n' ≤ 720 ∧ OB wr w2.heap.size (some L) n' c' xs (setG cmpL ((cutL n3 best).take j)) ∧ Below w3.heap.size w3 wr) (fun _ i _ => bn - (intOf i).toNat)
  case atStart => exact ⟨0, _, 0, 0, _, rfl, Nat.zero_le _, rfl, by omega, hL3, Below.refl _ _⟩
  case round =>
    clear hL3
    obtain ⟨j, L, n', c', xs, rfl, hj, rfl, h720, hL, hwr⟩ := hrel
    obtain ⟨hnc, hcc⟩ := hL.os.cap
    have c9' := below_cell hwr c93
    by_cases hlt : j < bn
    · obtain ⟨ba', Bj, mj, cj, hba, d1, d2, d3, d4⟩ := (hr3.keep hwr).get hlt
      cases hba
      obtain ⟨e1, e2⟩ := cut_rows hUp (k := j) (by rw [hlb.out]; exact hlt)
      have hmj : n3 ≤ mj := by rw [List.length_take] at e1; have := d4.len; omega
      have hcj := d4.take (k := n3) hmj
      have x3 := ((X3.after hwr).cells2).1
      have HT := Lib.hid (fun (w' : World) (hb : Below wr.heap.size wr w') => l04Times_any Bj n3 cj _ A3 n3 c3 _ w' (hcj.keep hb) ((ri3.keep hwr).keep hb) e2 (Nat.le_refl _) (by omega))
      have hst := Lib.hid (cut_set (V := n3) (best := best) (k := j) (by rw [hlb.out]; exact hlt))
      have hlL := Lib.hid hL.slen.2
      have HStr := Lib.hid (setG_strict cmpL_ord ((cutL n3 best).take j))
      have HMore := Lib.hid (setG_more (cutL n3 best) (j + 1))
      go_wp2
      go_region_held_law (fun w' => Below wr.heap.size wr w' ∧ w'.cell? ⟨w0.heap.size, 5, none⟩ = some (.slice (some ba) bn bc) ∧ w'.cell? (ba.add j) = some (.slice Bj mj cj) ∧ w'.cell? ⟨w.heap.size, 0, none⟩ = some (.int .i64 n3))
        (first | exact ⟨below_drewn _ 1, c9', d1, x3⟩ | exact ⟨by assumption, below_cell (by assumption) c9', below_cell (by assumption) d1, below_cell (by assumption) x3⟩)
        (first | (go_at_call 50; (with_reducible refine (HT.out _ ?_).mono ?_); (exact below_drewn _ 1); rintro e w5 ⟨A5, n5, c5, rfl, ho5, hb5⟩; have hX5 : Below wr.heap.size wr w5 := (below_drewn _ 1).trans (hb5.mono (Nat.le_refl _))))
      have hn5 : n5 = n3 := by rw [← ho5.len, thenP_len, e1]
      subst hn5
      have hL5 := hL.below hX5
      have ho5' := ho5.more (B' := w2.heap.size) (by have := hwr.size; simp; omega)
      have hw5 := hwr.trans (hX5.mono hwr.size)
      have ri5 := ho5.reads
      have cap5 := ho5.os.cap
      clear ho5 hb5 hL HT hcj d4 d1 d2 d3 c9' x3
      generalize setG cmpL ((cutL n5 best).take j) = S at *
      generalize thenP (List.take n5 (row best j)) (invP (List.take n5 (row best 0))) = x at *
      have hfd := l05Find_any (some L) n' c' S A5 n5 c5 x w5 hL5.reads (by omega) ri5 cap5.1 cap5.2 HStr.out
      go_wp2_with fail
      refine hfd.mono ?_
      rintro e w6 ⟨k, f, rfl, hF, hd6⟩
      clear hfd
      have hw6 := hw5.trans (hd6.below.mono hw5.size)
      cases f with
      | true =>
        have HS := Lib.hid ((fd_same HStr.out hF).symm.trans hst.out)
        have hL6 := hL5.below hd6.below
        rw [HS.out] at hL6
        clear hF
        go_wp2
        go_roundw
        case rel => exact ⟨j + 1, L, n', c', _, by go_num, by omega, rfl, h720, hL6, hw6⟩
        case measure => simp [intOf]; omega
      | false =>
        have HS := Lib.hid ((fd_put HStr.out hF).trans hst.out)
        have hkn : k ≤ n' := by have := hF.1; rw [hlL.out] at this; exact this
        by_cases hfull : n' = 720
        · have hbig : 720 < (grL (n5 : Int) bs b).length := by
            rw [hgl]
            have h1 := HMore.out
            rw [← HS.out] at h1
            have h2 := hlL.out
            have h3 : (S.take k ++ [x] ++ S.drop k).length = S.length + 1 := by
              simp only [List.length_append, List.length_take, List.length_drop, List.length_singleton]
              omega
            omega
          have HR := Lib.hid (gr_big HC.out hbig)
          have Y6 := Y3.after hw6
          obtain ⟨y0, y1⟩ := Y6.cells2
          have f0 := Y6.frozen 0
          have f1 := Y6.frozen 1
          have YF := (Y6.set_ 0 (.int .i64 0)).set_ 1 (.slice none 0 0)
          obtain ⟨z0, z1⟩ : ((w6.setCell ⟨w.heap.size + 1, 0, none⟩ (.int .i64 0)).setCell ⟨w.heap.size + 1, 1, none⟩ (.slice none 0 0)).cell? ⟨w.heap.size + 1, 0, none⟩ = some (.int .i64 0) ∧ ((w6.setCell ⟨w.heap.size + 1, 0, none⟩ (.int .i64 0)).setCell ⟨w.heap.size + 1, 1, none⟩ (.slice none 0 0)).cell? ⟨w.heap.size + 1, 1, none⟩ = some (.slice none 0 0) := ⟨YF.cell 0, YF.cell 1⟩
          have hend := hw3.trans (hw6.mono hw3.size)
          have hf720 : ((n' : Int) == 720) = true := by simp; omega
          clear hF hbig
          go_wp2
          refine bodyPost_ret (v := .tuple #[.agg #[.int .i64 0, .slice none 0 0], .int .i64 5]) (by simp [results, Tryz.results27, go_sem, z0, z1]) rfl ?_
          exact ⟨none, 0, 0, by rw [HR.out.1, HR.out.2.1], by rw [HR.out.2.2]; exact RS.nil_ _ _ _, (hend.setCell (p := ⟨w.heap.size + 1, 0, none⟩) (by simp) _).setCell (p := ⟨w.heap.size + 1, 1, none⟩) (by simp) _⟩
        · have hput := l05Put_own w2.heap.size L n' c' k xs S A5 n5 c5 x w6 (hL5.below hd6.below) hkn (by omega) (ho5'.below hd6.below) (Nat.le_trans hlW2 hw6.size)
          rw [HS.out] at hput
          have hf720 : ((n' : Int) == 720) = false := by simp; omega
          clear hF
          go_wp2_with fail
          refine hput.mono ?_
          rintro e w7 ⟨A7, c7, xs7, rfl, hL7, hb7⟩
          obtain ⟨gq, rfl, -⟩ := hL7.os.form (by omega)
          have hw7 := hw6.trans (hb7.mono hw6.size)
          clear hput
          go_wp2
          go_roundw
          case rel => exact ⟨j + 1, _, n' + 1, c7, xs7, by go_num, by omega, rfl, by omega, hL7, hw7⟩
          case measure => simp [intOf]; omega
    · obtain rfl : j = bn := by omega
      rw [List.take_of_length_le (by rw [cutL_len, hlb.out]; exact Nat.le_refl _)] at hL
      have HR := Lib.hid (gr_ok HC.out (show ¬ 720 < (grL (n3 : Int) bs b).length by rw [hgl, hL.slen.2]; omega))
      have HG := Lib.hid hgl
      have Yr := Y3.after hwr
      have x3 := ((X3.after hwr).cells2).1
      obtain ⟨y0, y1⟩ := Yr.cells2
      have f0 := Yr.frozen 0
      have f1 := Yr.frozen 1
      have YF := (Yr.set_ 0 (.int .i64 n3)).set_ 1 (.slice (some L) n' c')
      obtain ⟨z0, z1⟩ : ((wr.setCell ⟨w.heap.size + 1, 0, none⟩ (.int .i64 n3)).setCell ⟨w.heap.size + 1, 1, none⟩ (.slice (some L) n' c')).cell? ⟨w.heap.size + 1, 0, none⟩ = some (.int .i64 n3) ∧ ((wr.setCell ⟨w.heap.size + 1, 0, none⟩ (.int .i64 n3)).setCell ⟨w.heap.size + 1, 1, none⟩ (.slice (some L) n' c')).cell? ⟨w.heap.size + 1, 1, none⟩ = some (.slice (some L) n' c') := ⟨YF.cell 0, YF.cell 1⟩
      have hend := hw3.trans (hwr.mono hw3.size)
      clear hgl
      go_wp2
      refine bodyPost_ret (v := .tuple #[.agg #[.int .i64 n3, .slice (some L) n' c'], .int .i64 0]) (by simp [results, Tryz.results27, go_sem, z0, z1]) rfl ?_
      refine ⟨some L, n', c', by rw [HR.out.1, HR.out.2.1], ?_, (hend.setCell (p := ⟨w.heap.size + 1, 0, none⟩) (by simp) _).setCell (p := ⟨w.heap.size + 1, 1, none⟩) (by simp) _⟩
      rw [HR.out.2.2, HG.out]
      refine OB.reads ((hL.setLow (p := ⟨w.heap.size + 1, 0, none⟩) ?_ _).setLow (p := ⟨w.heap.size + 1, 1, none⟩) ?_ _)
      all_goals
        show w.heap.size + 1 < w2.heap.size
        exact hYl
theorem spec_DesignGroup (v : Int) (A : Option Addr) (n c : Nat) (bs : List (List Int)) (b : Int) (w : World) (ha : RR w A n bs) (hn : n ≤ 1048576) :
    Calls Tryz.prog 27 #[.agg #[.int .i64 v, .slice A n c], .int .i64 b] w (RetGp w v bs b) := by
  by_cases h : dK v bs b = 0
  · obtain ⟨V, rfl, -⟩ := dK_zero h
    exact spec_DesignGroup_ok V A n c bs b w ha hn h
  · exact spec_DesignGroup_err v A n c bs b w ha hn h
end Go.Proofs.YtaphmapkobbfbaaGreat
