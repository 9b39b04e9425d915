/- The law on DesignObject. No condition. -/
import Derived.Test.YtaphmapkobbfbaaGreatGC
import Derived.Test.YtaphmapkobbfbaaGreatHL
import Derived.Deep.RegionHeld3
import Derived.Test.YtaphmapkobbfbaaGreatGX
import Derived.Test.YtaphmapkobbfbaaGreatHN
set_option linter.unusedVariables false
set_option linter.unusedSimpArgs false
namespace Go.Proofs.YtaphmapkobbfbaaGreat
open Go.RowKit

theorem cells_nil' : cells [] = 0 := rfl

/-- such a struct, its rows in memory of the call's own -/
def RetDesign (w : World) (v : Int) (zss : List (List Int)) (en : Ending) (w' : World) : Prop :=
  ∃ A n c, en = .returned (.agg #[.int .i64 v, .slice A n c]) ∧ OR w' w.heap.size 37 2 A n c zss ∧ Below w.heap.size w w'

set_option maxHeartbeats 400000 in
theorem szDesign_any (v l : Int) (A : Option Addr) (n c : Nat) (xs : List (List Int)) (w : World) (ha : RR w A n xs) (hn : n ≤ 9223372036854775807) (h0 : 0 ≤ l) (hl : l ≤ 1048576) :
    Calls Tryz.prog 8 #[.agg #[.int .i64 v, .slice A n c], .int .i64 l] w fun e w' => e = .returned (.int .i64 (szF l (bulk xs))) ∧ Below w.heap.size w w' := by
  have hb1 := below_alloc w (.cells #[.int .i64 v, .slice A n c] 24)
  have ha' := ha.keep hb1
  clear ha
  by_cases h : (bulk xs : Int) ≤ l
  · have H := Lib.hid (show szF l (bulk xs) = l - bulk xs by simp [szF, h])
    go_enter Tryz.func8, Tryz.ntmps8
    go_wp2_with (go_at_call 13; refine (szInt64SS_any _ _ _ _ xs _ ha' hn h0 hl).mono ?_; rintro e w1 ⟨rfl, rfl⟩; rw [H.out])
    go_ret
    exact ⟨by rw [H.out]; rfl, hb1⟩
  · have H := Lib.hid (show szF l (bulk xs) = -1 by simp [szF, h])
    clear h
    go_enter Tryz.func8, Tryz.ntmps8
    go_wp2_with (go_at_call 13; refine (szInt64SS_any _ _ _ _ xs _ ha' hn h0 hl).mono ?_; rintro e w1 ⟨rfl, rfl⟩; rw [H.out])
    go_ret
    exact ⟨by rw [H.out]; rfl, hb1⟩
set_option maxHeartbeats 400000 in
theorem toDesign_any (v : Int) (A : Option Addr) (n c : Nat) (xs : List (List Int)) (w : World) (ha : RR w A n xs) (hn : n ≤ 1099511627776) (hr : lens xs n ≤ 1099511627776) :
    Calls Tryz.prog 10 #[.agg #[.int .i64 v, .slice A n c]] w (RetDesign w v xs) := by
  have hb1 := below_alloc w (.cells #[.int .i64 v, .slice A n c] 24)
  go_enter Tryz.func10, Tryz.ntmps10
  go_wp2_with fail
  refine (toInt64SS_any A n c xs _ (ha.keep ((hb1.alloc (by simp) _).alloc (by simp; omega) _)) hn hr).mono ?_
  rintro e w1 ⟨A2, n2, c2, rfl, ho, hb⟩
  obtain ⟨hc, hf⟩ := bcell hb
  have hz : w.heap.size + 1 + 1 < w1.heap.size := by have := hb.size; simp at this; omega
  go_wp2
  refine bodyPost_ret (v := .agg #[.int .i64 v, .slice A2 n2 c2]) (by simp [results, Tryz.results10, go_sem, hc]) rfl ⟨A2, n2, c2, rfl, ?_, ?_⟩
  · have ho' : OR w1 (w.heap.size + 1 + 1 + 1) 37 2 A2 n2 c2 xs := by simpa using ho
    refine OR.more (B := w.heap.size + 1 + 1 + 1) ?_ (by omega)
    repeat (refine OR.setLow ?_ (by simp) _)
    exact ho'
  · repeat (refine Below.setCell ?_ (by simp; try omega) _)
    exact ((hb1.alloc (by simp) _).alloc (by simp; omega) _).trans (hb.mono (by simp; omega))
set_option maxHeartbeats 400000 in
theorem eqDesign_same (v : Int) (A B : Option Addr) (n m c d : Nat) (xs : List (List Int)) (w : World) (ha : RR w A n xs) (hb : RR w B m xs) (hn : n ≤ 9223372036854775807) (hm : m ≤ 9223372036854775807) :
    Calls Tryz.prog 12 #[.agg #[.int .i64 v, .slice A n c], .agg #[.int .i64 v, .slice B m d]] w fun e w' => e = .returned (.bool true) ∧ Below w.heap.size w w' := by
  have hb2 := below_then (below_alloc w (.cells #[.int .i64 v, .slice A n c] 28)) (below_alloc (w.alloc (.cells #[.int .i64 v, .slice A n c] 28)) (.cells #[.int .i64 v, .slice B m d] 28))
  have ha' := ha.keep hb2
  have hb' := hb.keep hb2
  clear ha hb
  go_enter Tryz.func12, Tryz.ntmps12
  go_wp2_with (go_at_call 17; refine (eqInt64SS_any _ _ _ _ _ _ xs xs _ ha' hb' hn hm).mono ?_; rintro e w1 ⟨rfl, hd1⟩; rw [show decide (xs = xs) = true from by simp])
  go_ret
  exact ⟨rfl, hb2.trans (hd1.below.mono hb2.size)⟩
set_option maxHeartbeats 400000 in
theorem markDesign_any (v : Int) (B D : Nat) (A : Option Addr) (n c k : Nat) (zss : List (List Int)) (w : World) (ha : ORd w B D 37 2 A n c zss) (hc : n ≤ 1099511627776) (hn : k + cells zss ≤ 4611686018427387904) :
    Calls Tryz.prog 23 #[.agg #[.int .i64 v, .slice A n c], .int .i64 k] w fun en w' => en = .returned (.int .i64 ((k + cells zss : Nat) : Int)) ∧ ORd w' B D 37 2 A n c (marksR k zss) ∧ Mid w w' B D := by
  have hb := below_alloc w (.cells #[.int .i64 v, .slice A n c] 28)
  go_enter Tryz.func23, Tryz.ntmps23
  go_wp2_with fail
  refine (markInt64SS_any B D _ _ A n c k zss _ (ha.below hb) hc hn).mono ?_
  rintro e w1 ⟨rfl, ho, hm⟩
  go_wp2
  go_ret
  exact ⟨rfl, ho, (Mid.of_below hb (Nat.le_refl _) B D).trans hm⟩



end Go.Proofs.YtaphmapkobbfbaaGreat
/- The law on isomorphic designs. No condition. -/

namespace Go.Proofs.YtaphmapkobbfbaaGreat
open Go.RowKit

theorem keep4D {W w' : World} {p1 p2 p3 p4 : Addr} {u1 u2 u3 u4 : Value} (hb : Below W.heap.size W w') (h1 : W.cell? p1 = some u1) (h2 : W.cell? p2 = some u2) (h3 : W.cell? p3 = some u3) (h4 : W.cell? p4 = some u4) :
    Below W.heap.size W w' ∧ w'.cell? p1 = some u1 ∧ w'.cell? p2 = some u2 ∧ w'.cell? p3 = some u3 ∧ w'.cell? p4 = some u4 :=
  ⟨hb, below_cell hb h1, below_cell hb h2, below_cell hb h3, below_cell hb h4⟩
theorem below_orD {W w1 w2 : World} (h : Below W.heap.size W w1) (k : Below w1.heap.size w1 w2) : Below W.heap.size W w2 := h.trans (k.mono h.size)
structure DSt (g1 g6 : Nat) (v : Int) (A A3 : Option Addr) (n c n3 c3 : Nat) (zss : List (List Int)) (w' : World) : Prop where
  p1 : Blk w' g1 24 #[.int .i64 v, .slice A n c]
  p6 : Blk w' g6 28 #[.int .i64 v, .slice A3 n3 c3]
  r1 : RR w' A n zss
  r3 : RR w' A3 n3 zss
section
variable {w w' w'' : World} {g1 g6 g2 g7 : Nat} {v u : Int} {A A3 B B3 : Option Addr} {n c n3 c3 m d m3 d3 : Nat} {xs ys : List (List Int)}
theorem DSt.step (h : DSt g1 g6 v A A3 n c n3 c3 xs w') (hb : Below w'.heap.size w' w'') : DSt g1 g6 v A A3 n c n3 c3 xs w'' :=
  ⟨h.p1.after hb, h.p6.after hb, h.r1.keep hb, h.r3.keep hb⟩
theorem DSt.full2 (h : DSt g1 g6 v A A3 n c n3 c3 xs w') (k : DSt g2 g7 u B B3 m d m3 d3 ys w') (hb : Below w.heap.size w w') :
    ((DSt g1 g6 v A A3 n c n3 c3 xs w' ∧ DSt g2 g7 u B B3 m d m3 d3 ys w') ∧ Below w.heap.size w w') ∧ w'.cell? ⟨g1, 0, none⟩ = some (.int .i64 v) ∧ w'.cell? ⟨g1, 1, none⟩ = some (.slice A n c) ∧ w'.cell? ⟨g6, 0, none⟩ = some (.int .i64 v) ∧ w'.cell? ⟨g6, 1, none⟩ = some (.slice A3 n3 c3) :=
  ⟨⟨⟨h, k⟩, hb⟩, h.p1.cells2.1, h.p1.cells2.2, h.p6.cells2.1, h.p6.cells2.2⟩
end
theorem szB_yes {l t : Int} (h : t ≤ l) : szF l t = l - t := by simp [szF, h]
theorem szB_no {l t : Int} (h : ¬ t ≤ l) : szF l t = -1 := by simp [szF, h]
set_option maxRecDepth 100000 in
set_option maxHeartbeats 4000000 in
theorem law_IsomorphicDesigns_ok (v : Int) (A : Option Addr) (n c : Nat) (xs : List (List Int)) (u : Int) (B : Option Addr) (m d : Nat) (ys : List (List Int)) (b : Int) (w : World) (ha : RR w A n xs) (hh : RR w B m ys) (hs : (bulk xs : Int) ≤ 1048576) (hs' : (bulk ys : Int) ≤ 1048576 - bulk xs) (r : Bool) (cd : Int)
    (hspec : ∀ (A : Option Addr) (n c : Nat) (B : Option Addr) (m d : Nat) (w : World), RR w A n xs → RR w B m ys → n ≤ 1048576 → m ≤ 1048576 → Calls Tryz.prog 9 #[.agg #[.int .i64 v, .slice A n c], .agg #[.int .i64 u, .slice B m d], .int .i64 b] w (fun e w' => e = .returned (.tuple #[.bool r, .int .i64 cd]) ∧ Below w.heap.size w w'))
    (himpl : ∀ (A : Option Addr) (n c : Nat) (B : Option Addr) (m d : Nat) (w : World), RR w A n xs → RR w B m ys → n ≤ 1048576 → m ≤ 1048576 → Calls Tryz.prog 11 #[.agg #[.int .i64 v, .slice A n c], .agg #[.int .i64 u, .slice B m d], .int .i64 b] w (fun e w' => e = .returned (.tuple #[.bool r, .int .i64 cd]) ∧ Below w.heap.size w w')) :
    Calls Tryz.prog 3 #[.agg #[.int .i64 v, .slice A n c], .agg #[.int .i64 u, .slice B m d], .int .i64 b] w fun e w' => e = .returned (.bool true) ∧ Below w.heap.size w w' := by
  have hla := Lib.hid ha.len
  have hla' := Lib.hid hh.len
  have hbx := bulk_eq ha
  have hby := bulk_eq hh
  obtain ⟨bz1, bz2, bz3, bz4⟩ : n ≤ 1048576 ∧ m ≤ 1048576 ∧ lens xs n ≤ 1048576 ∧ lens ys m ≤ 1048576 := by omega
  have E1 := Lib.hid (szB_yes hs)
  have hbp : (0 : Int) ≤ 1048576 - bulk xs ∧ (1048576 - bulk xs : Int) ≤ 1048576 := by omega
  generalize hbk : (1048576 - (bulk xs : Int)) = bk at *
  have E2 := Lib.hid (szB_yes hs')
  have hbp2 : (0 : Int) ≤ bk - bulk ys := by omega
  generalize hbk2 : (bk - (bulk ys : Int)) = bk2 at *
  have HS := Lib.hid hspec
  have HI := Lib.hid himpl
  obtain ⟨hbp, hbp'⟩ := hbp
  clear hbk hbk2 hspec himpl hbx hby hs hs'
  have p1 := (Blk.new w 24 #[.int .i64 v, .slice A n c]).alloc (.cells #[.int .i64 u, .slice B m d] 24)
  have p2 : Blk ((w.alloc (.cells #[.int .i64 v, .slice A n c] 24)).alloc (.cells #[.int .i64 u, .slice B m d] 24)) (w.heap.size + 1) 24 #[.int .i64 u, .slice B m d] := by
    have := Blk.new (w.alloc (.cells #[.int .i64 v, .slice A n c] 24)) 24 #[.int .i64 u, .slice B m d]
    simpa using this
  have b1 := below_then (below_alloc w (.cells #[.int .i64 v, .slice A n c] 24)) (below_alloc _ (.cells #[.int .i64 u, .slice B m d] 24))
  go_enter Tryz.func3, Tryz.ntmps3
  go_wp2_with fail
  refine (szDesign_any v 1048576 A n c xs _ (ha.keep b1) (by omega) (by omega) (by omega)).mono ?_
  rintro e w0 ⟨rfl, hb0⟩
  rw [E1.out]
  have q1 := p1.after hb0
  have q2 := p2.after hb0
  have b0 := below_then b1 hb0
  clear p1 p2 b1 hb0
  obtain ⟨u0, u1⟩ := q1.cells2
  obtain ⟨v0, v1⟩ := q2.cells2
  go_wp2_with fail
  refine (szDesign_any u bk B m d ys _ (hh.keep b0) (by omega) (by omega) (by omega)).mono ?_
  rintro e w1 ⟨rfl, hb1⟩
  rw [E2.out]
  have q1 := q1.after hb1
  have q2 := q2.after hb1
  have b1 := below_then b0 hb1
  clear b0 hb1 u0 u1 v0 v1
  obtain ⟨u0, u1⟩ := q1.cells2
  obtain ⟨v0, v1⟩ := q2.cells2
  have HT := Lib.hid (fun (W' : World) (hb : Below w1.heap.size w1 W') => toDesign_any v A n c xs W' (ha.keep (below_orD b1 hb)) (by omega) (by omega))
  have HT' := Lib.hid (fun (W' : World) (hb : Below w1.heap.size w1 W') => toDesign_any u B m d ys W' (hh.keep (below_orD b1 hb)) (by omega) (by omega))
  go_wp2
  go_region_held3 (fun w' => Below w1.heap.size w1 w' ∧ w'.cell? ⟨w.heap.size, 0, none⟩ = some (.int .i64 v) ∧ w'.cell? ⟨w.heap.size, 1, none⟩ = some (.slice A n c) ∧ w'.cell? ⟨w.heap.size + 1, 0, none⟩ = some (.int .i64 u) ∧ w'.cell? ⟨w.heap.size + 1, 1, none⟩ = some (.slice B m d))
    (first | exact keep4D (below_drewn _ 1) u0 u1 v0 v1 | exact keep4D (below_orD (And.left (by assumption)) (by assumption)) u0 u1 v0 v1)
    (first
      | (go_at_call 10; (with_reducible refine (HT.out _ ?_).mono ?_); (exact And.left (by assumption)); rintro e w2 ⟨A2, n2, c2, rfl, ho2, hb2⟩)
      | (go_at_call 10; (with_reducible refine (HT'.out _ ?_).mono ?_); (exact And.left (by assumption)); rintro e w3 ⟨A3, n3, c3, rfl, ho3, hb3⟩)
      | (go_at_call 9; (with_reducible refine (HS.out A2 n2 c2 A3 n3 c3 _ ?_ ?_ ?_ ?_).mono ?_); (exact ho2.reads.keep hb3); (exact ho3.reads); (have := ho2.len; have := hla.out; omega); (have := ho3.len; have := hla'.out; omega); rintro e w4 ⟨rfl, hb4⟩))
  have hh4 : Below w1.heap.size w1 w4 := And.left (by assumption)
  have b4 := below_orD b1 hh4
  have q1 := q1.after hh4
  have q2 := q2.after hh4
  clear u0 u1 v0 v1 hb2 hb3 hb4 ho2 ho3 HT HT' b1
  obtain ⟨u0, u1⟩ := q1.cells2
  go_wp2_with fail
  refine (toDesign_any v A n c xs _ (ha.keep b4) (by omega) (by omega)).mono ?_
  rintro e w5 ⟨A5, n5, c5, rfl, ho5, hb5⟩
  have k5 : n5 ≤ 1048576 := by have := ho5.len; have := hla.out; omega
  have b5 := below_then b4 hb5
  have a6 := below_alloc w5 (.cells #[.int .i64 v, .slice A5 n5 c5] 28)
  have X5 := Blk.new w5 28 #[.int .i64 v, .slice A5 n5 c5]
  have b6 := below_then b5 a6
  have r5 := ho5.reads.keep a6
  have q1 := (q1.after hb5).after a6
  have q2 := (q2.after hb5).after a6
  clear u0 u1 hb5 ho5 b4 b5 hh4
  obtain ⟨W6, hW6⟩ : ∃ W6, w5.alloc (.cells #[.int .i64 v, .slice A5 n5 c5] 28) = W6 := ⟨_, rfl⟩
  rw [hW6] at a6 X5 b6 r5 q1 q2
  clear a6
  obtain ⟨v0, v1⟩ := q2.cells2
  go_wp2_with fail
  clear hW6
  refine (toDesign_any u B m d ys _ (hh.keep b6) (by omega) (by omega)).mono ?_
  rintro e w7 ⟨A7, n7, c7, rfl, ho7, hb7⟩
  have k7 : n7 ≤ 1048576 := by have := ho7.len; have := hla'.out; omega
  have b7 := below_then b6 hb7
  have a8 := below_alloc w7 (.cells #[.int .i64 u, .slice A7 n7 c7] 28)
  have X7 := Blk.new w7 28 #[.int .i64 u, .slice A7 n7 c7]
  have b8 := below_then b7 a8
  have r7 := ho7.reads.keep a8
  have r5 := (r5.keep hb7).keep a8
  have q1 := (q1.after hb7).after a8
  have q2 := (q2.after hb7).after a8
  have X5 := (X5.after hb7).after a8
  clear v0 v1 hb7 ho7 b6 b7
  obtain ⟨W8, hW8⟩ : ∃ W8, w7.alloc (.cells #[.int .i64 u, .slice A7 n7 c7] 28) = W8 := ⟨_, rfl⟩
  rw [hW8] at a8 X7 b8 r7 r5 q1 q2 X5
  clear a8
  obtain ⟨u0, u1⟩ := X5.cells2
  obtain ⟨v0, v1⟩ := X7.cells2
  go_wp2_with fail
  clear hW8
  refine (HI.out A5 n5 c5 A7 n7 c7 _ r5 r7 k5 k7).mono ?_
  rintro e w9 ⟨rfl, hb9⟩
  have b9 := below_then b8 hb9
  have M1 : DSt w.heap.size w5.heap.size v A A5 n c n5 c5 xs w9 := ⟨q1.after hb9, X5.after hb9, ha.keep b9, r5.keep hb9⟩
  have M2 : DSt (w.heap.size + 1) w7.heap.size u B A7 m d n7 c7 ys w9 := ⟨q2.after hb9, X7.after hb9, hh.keep b9, r7.keep hb9⟩
  clear u0 u1 v0 v1 hb9 b8 q1 q2 X5 X7 r5 r7
  generalize w5.heap.size = s5 at *
  generalize w7.heap.size = s7 at *
  have HM := Lib.hid M1
  have HM2 := Lib.hid M2
  have HB := Lib.hid b9
  clear M1 M2
  go_wp2_with fail
  go_region_held3 (fun w' => (((DSt w.heap.size s5 v A A5 n c n5 c5 xs w' ∧ DSt (w.heap.size + 1) s7 u B A7 m d n7 c7 ys w') ∧ Below w.heap.size w w')) ∧ w'.cell? ⟨w.heap.size, 0, none⟩ = some (.int .i64 v) ∧ w'.cell? ⟨w.heap.size, 1, none⟩ = some (.slice A n c) ∧ w'.cell? ⟨s5, 0, none⟩ = some (.int .i64 v) ∧ w'.cell? ⟨s5, 1, none⟩ = some (.slice A5 n5 c5))
    (first | exact (HM.out.step (below_drewn _ 1)).full2 (HM2.out.step (below_drewn _ 1)) (HB.out.trans ((below_drewn _ 1).mono HB.out.size)) | exact (DSt.step (And.left (And.left (And.left (by assumption)))) (by assumption)).full2 (DSt.step (And.right (And.left (And.left (by assumption)))) (by assumption)) (below_then (And.right (And.left (by assumption))) (by assumption)))
    (first
      | (go_at_call 10; (with_reducible refine (toDesign_any v A n c xs _ ?_ (by omega) (by omega)).mono ?_); (exact DSt.r1 (And.left (And.left (And.left (by assumption))))); rintro e w10 ⟨A6, n6, c6, rfl, ho6, hb6⟩)
      | (go_at_call 12; (with_reducible refine (eqDesign_same v A5 A6 n5 n6 c5 c6 xs _ ?_ ?_ ?_ ?_).mono ?_); (exact DSt.r3 (And.left (And.left (And.left (by assumption))))); (exact ho6.reads); (omega); (have := ho6.len; have := hla.out; omega); rintro e w11 ⟨rfl, hb11⟩))
  have hh7 : ((DSt w.heap.size s5 v A A5 n c n5 c5 xs w11 ∧ DSt (w.heap.size + 1) s7 u B A7 m d n7 c7 ys w11) ∧ Below w.heap.size w w11) := And.left (by assumption)
  have HM := Lib.hid hh7.1.1
  have HM2 := Lib.hid hh7.1.2
  have HB := Lib.hid hh7.2
  clear hh7 hb6 hb11 ho6
  go_wp2
  go_region_held3 (fun w' => (((DSt (w.heap.size + 1) s7 u B A7 m d n7 c7 ys w' ∧ DSt w.heap.size s5 v A A5 n c n5 c5 xs w') ∧ Below w.heap.size w w')) ∧ w'.cell? ⟨w.heap.size + 1, 0, none⟩ = some (.int .i64 u) ∧ w'.cell? ⟨w.heap.size + 1, 1, none⟩ = some (.slice B m d) ∧ w'.cell? ⟨s7, 0, none⟩ = some (.int .i64 u) ∧ w'.cell? ⟨s7, 1, none⟩ = some (.slice A7 n7 c7))
    (first | exact (HM2.out.step (below_drewn _ 1)).full2 (HM.out.step (below_drewn _ 1)) (HB.out.trans ((below_drewn _ 1).mono HB.out.size)) | exact (DSt.step (And.left (And.left (And.left (by assumption)))) (by assumption)).full2 (DSt.step (And.right (And.left (And.left (by assumption)))) (by assumption)) (below_then (And.right (And.left (by assumption))) (by assumption)))
    (first
      | (go_at_call 10; (with_reducible refine (toDesign_any u B m d ys _ ?_ (by omega) (by omega)).mono ?_); (exact DSt.r1 (And.left (And.left (And.left (by assumption))))); rintro e w12 ⟨A8, n8, c8, rfl, ho8, hb8⟩)
      | (go_at_call 12; (with_reducible refine (eqDesign_same u A7 A8 n7 n8 c7 c8 ys _ ?_ ?_ ?_ ?_).mono ?_); (exact DSt.r3 (And.left (And.left (And.left (by assumption))))); (exact ho8.reads); (omega); (have := ho8.len; have := hla'.out; omega); rintro e w13 ⟨rfl, hb13⟩))
  have hh8 : ((DSt (w.heap.size + 1) s7 u B A7 m d n7 c7 ys w13 ∧ DSt w.heap.size s5 v A A5 n c n5 c5 xs w13) ∧ Below w.heap.size w w13) := And.left (by assumption)
  go_wp2
  go_ret
  exact ⟨rfl, hh8.2⟩
set_option maxHeartbeats 1000000 in
theorem law_IsomorphicDesigns_big (v : Int) (A : Option Addr) (n c : Nat) (xs : List (List Int)) (u : Int) (B : Option Addr) (m d : Nat) (ys : List (List Int)) (b : Int) (w : World) (ha : RR w A n xs) (hh : RR w B m ys) (hn : n ≤ 9223372036854775807) (hm : m ≤ 9223372036854775807) (hs : ¬ ((bulk xs : Int) ≤ 1048576 ∧ (bulk ys : Int) ≤ 1048576 - bulk xs)) :
    Calls Tryz.prog 3 #[.agg #[.int .i64 v, .slice A n c], .agg #[.int .i64 u, .slice B m d], .int .i64 b] w fun e w' => e = .returned (.bool true) ∧ Below w.heap.size w w' := by
  have p1 := (Blk.new w 24 #[.int .i64 v, .slice A n c]).alloc (.cells #[.int .i64 u, .slice B m d] 24)
  have p2 : Blk ((w.alloc (.cells #[.int .i64 v, .slice A n c] 24)).alloc (.cells #[.int .i64 u, .slice B m d] 24)) (w.heap.size + 1) 24 #[.int .i64 u, .slice B m d] := by
    have := Blk.new (w.alloc (.cells #[.int .i64 v, .slice A n c] 24)) 24 #[.int .i64 u, .slice B m d]
    simpa using this
  have b1 := below_then (below_alloc w (.cells #[.int .i64 v, .slice A n c] 24)) (below_alloc _ (.cells #[.int .i64 u, .slice B m d] 24))
  by_cases h1 : (bulk xs : Int) ≤ 1048576
  · have E1 := Lib.hid (szB_yes h1)
    have hbp : (0 : Int) ≤ 1048576 - bulk xs ∧ (1048576 - bulk xs : Int) ≤ 1048576 := by omega
    have h2 : ¬ (bulk ys : Int) ≤ 1048576 - bulk xs := fun h => hs ⟨h1, h⟩
    have E2 := Lib.hid (szB_no h2)
    obtain ⟨hbp, hbp'⟩ := hbp
    generalize hbk : (1048576 - (bulk xs : Int)) = bk at *
    clear hs h1 h2 hbk
    go_enter Tryz.func3, Tryz.ntmps3
    go_wp2_with fail
    refine (szDesign_any v 1048576 A n c xs _ (ha.keep b1) (by omega) (by omega) (by omega)).mono ?_
    rintro e w0 ⟨rfl, hb0⟩
    rw [E1.out]
    have q2 := p2.after hb0
    have b0 := below_then b1 hb0
    clear p1 p2 b1 hb0
    obtain ⟨v0, v1⟩ := q2.cells2
    go_wp2_with fail
    refine (szDesign_any u bk B m d ys _ (hh.keep b0) (by omega) (by omega) (by omega)).mono ?_
    rintro e w1 ⟨rfl, hb1⟩
    rw [E2.out]
    go_wp2
    go_ret
    exact ⟨rfl, below_then b0 hb1⟩
  · have E1 := Lib.hid (szB_no h1)
    clear hs h1 p2
    go_enter Tryz.func3, Tryz.ntmps3
    go_wp2_with fail
    refine (szDesign_any v 1048576 A n c xs _ (ha.keep b1) (by omega) (by omega) (by omega)).mono ?_
    rintro e w0 ⟨rfl, hb0⟩
    rw [E1.out]
    go_wp2
    go_ret
    exact ⟨rfl, below_then b1 hb0⟩
theorem law_IsomorphicDesigns (v : Int) (A : Option Addr) (n c : Nat) (xs : List (List Int)) (u : Int) (B : Option Addr) (m d : Nat) (ys : List (List Int)) (b : Int) (w : World) (ha : RR w A n xs) (hn : n ≤ c) (hc : c ≤ 9223372036854775807) (hb : RR w B m ys) (hm : m ≤ d) (hd : d ≤ 9223372036854775807) (_ : I64 b) :
    Calls Tryz.prog 3 #[.agg #[.int .i64 v, .slice A n c], .agg #[.int .i64 u, .slice B m d], .int .i64 b] w fun e w' => e = .returned (.bool true) ∧ Below w.heap.size w w' := by
  by_cases hs : (bulk xs : Int) ≤ 1048576 ∧ (bulk ys : Int) ≤ 1048576 - bulk xs
  · exact law_IsomorphicDesigns_ok v A n c xs u B m d ys b w ha hb hs.1 hs.2 (dsgR v xs u ys b) (dsgK v xs u ys b)
      (fun A n c B m d w h1 h2 h3 h4 => spec_IsomorphicDesigns v A n c xs u B m d ys b w h1 h2 h3 h4)
      (fun A n c B m d w h1 h2 h3 h4 => impl_IsomorphicDesigns v A n c xs u B m d ys b w h1 h2 h3 h4)
  · exact law_IsomorphicDesigns_big v A n c xs u B m d ys b w ha hb (by omega) (by omega) hs
end Go.Proofs.YtaphmapkobbfbaaGreat
