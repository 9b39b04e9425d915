/- The laws on covers. No condition. -/
import Derived.Test.YtdcoppighkbofaaIC
import Derived.Test.YtdcoppighkbofaaIA
import Derived.Test.YtdcoppighkbofaaGB
import Derived.Deep.RegionHeld3
set_option linter.unusedVariables false
set_option linter.unusedSimpArgs false
namespace Go.Proofs.Ytdcoppighkbofaa
open Go.RowKit


/-- such a struct, its rows in memory of the call's own -/
def RetCover (w : World) (v : Int) (zss : List (List Int)) (en : Ending) (w' : World) : Prop :=
  ∃ A n c, en = .returned (.agg #[.int .i64 v, .slice A n c]) ∧ OR w' w.heap.size 32 2 A n c zss ∧ Below w.heap.size w w'

set_option maxHeartbeats 400000 in
theorem szCover_any (v l : Int) (A : Option Addr) (n c : Nat) (xs : List (List Int)) (w : World) (ha : RR w A n xs) (hn : n ≤ 9223372036854775807) (h0 : 0 ≤ l) (hl : l ≤ 1048576) :
    Calls Try.prog 6 #[.agg #[.int .i64 v, .slice A n c], .int .i64 l] w fun e w' => e = .returned (.int .i64 (szF l (bulk xs))) ∧ Below w.heap.size w w' := by
  have hb1 := below_alloc w (.cells #[.int .i64 v, .slice A n c] 24)
  have ha' := ha.keep hb1
  clear ha
  by_cases h : (bulk xs : Int) ≤ l
  · have H := Lib.hid (show szF l (bulk xs) = l - bulk xs by simp [szF, h])
    go_enter Try.func6, Try.ntmps6
    go_wp2_with (go_at_call 22; refine (szInt64SS_any _ _ _ _ xs _ ha' hn h0 hl).mono ?_; rintro e w1 ⟨rfl, rfl⟩; rw [H.out])
    go_ret
    exact ⟨by rw [H.out]; rfl, hb1⟩
  · have H := Lib.hid (show szF l (bulk xs) = -1 by simp [szF, h])
    clear h
    go_enter Try.func6, Try.ntmps6
    go_wp2_with (go_at_call 22; refine (szInt64SS_any _ _ _ _ xs _ ha' hn h0 hl).mono ?_; rintro e w1 ⟨rfl, rfl⟩; rw [H.out])
    go_ret
    exact ⟨by rw [H.out]; rfl, hb1⟩
set_option maxHeartbeats 400000 in
theorem toCover_any (v : Int) (A : Option Addr) (n c : Nat) (xs : List (List Int)) (w : World) (ha : RR w A n xs) (hn : n ≤ 1099511627776) (hr : lens xs n ≤ 1099511627776) :
    Calls Try.prog 8 #[.agg #[.int .i64 v, .slice A n c]] w (RetCover w v xs) := by
  have hb1 := below_alloc w (.cells #[.int .i64 v, .slice A n c] 24)
  go_enter Try.func8, Try.ntmps8
  go_wp2_with fail
  refine (toInt64SS_any A n c xs _ (ha.keep ((hb1.alloc (by simp) _).alloc (by simp; omega) _)) hn hr).mono ?_
  rintro e w1 ⟨A2, n2, c2, rfl, ho, hb⟩
  obtain ⟨hc, hf⟩ := bcell hb
  have hz : w.heap.size + 1 + 1 < w1.heap.size := by have := hb.size; simp at this; omega
  go_wp2
  refine bodyPost_ret (v := .agg #[.int .i64 v, .slice A2 n2 c2]) (by simp [results, Try.results8, go_sem, hc]) rfl ⟨A2, n2, c2, rfl, ?_, ?_⟩
  · have ho' : OR w1 (w.heap.size + 1 + 1 + 1) 32 2 A2 n2 c2 xs := by simpa using ho
    refine OR.more (B := w.heap.size + 1 + 1 + 1) ?_ (by omega)
    repeat (refine OR.setLow ?_ (by simp) _)
    exact ho'
  · repeat (refine Below.setCell ?_ (by simp; try omega) _)
    exact ((hb1.alloc (by simp) _).alloc (by simp; omega) _).trans (hb.mono (by simp; omega))
set_option maxHeartbeats 400000 in
theorem eqCover_same (v : Int) (A B : Option Addr) (n m c d : Nat) (xs : List (List Int)) (w : World) (ha : RR w A n xs) (hb : RR w B m xs) (hn : n ≤ 9223372036854775807) (hm : m ≤ 9223372036854775807) :
    Calls Try.prog 10 #[.agg #[.int .i64 v, .slice A n c], .agg #[.int .i64 v, .slice B m d]] w fun e w' => e = .returned (.bool true) ∧ Below w.heap.size w w' := by
  have hb2 := below_then (below_alloc w (.cells #[.int .i64 v, .slice A n c] 28)) (below_alloc (w.alloc (.cells #[.int .i64 v, .slice A n c] 28)) (.cells #[.int .i64 v, .slice B m d] 28))
  have ha' := ha.keep hb2
  have hb' := hb.keep hb2
  clear ha hb
  go_enter Try.func10, Try.ntmps10
  go_wp2_with (go_at_call 19; refine (eqInt64SS_any _ _ _ _ _ _ xs xs _ ha' hb' hn hm).mono ?_; rintro e w1 ⟨rfl, hd1⟩; rw [show decide (xs = xs) = true from by simp])
  go_ret
  exact ⟨rfl, hb2.trans (hd1.below.mono hb2.size)⟩
set_option maxHeartbeats 400000 in
theorem markCover_any (v : Int) (B D : Nat) (A : Option Addr) (n c k : Nat) (zss : List (List Int)) (w : World) (ha : ORd w B D 32 2 A n c zss) (hc : n ≤ 1099511627776) (hn : k + cells zss ≤ 4611686018427387904) :
    Calls Try.prog 14 #[.agg #[.int .i64 v, .slice A n c], .int .i64 k] w fun en w' => en = .returned (.int .i64 ((k + cells zss : Nat) : Int)) ∧ ORd w' B D 32 2 A n c (marksR k zss) ∧ Mid w w' B D := by
  have hb := below_alloc w (.cells #[.int .i64 v, .slice A n c] 28)
  go_enter Try.func14, Try.ntmps14
  go_wp2_with fail
  refine (markInt64SS_any B D _ _ A n c k zss _ (ha.below hb) hc hn).mono ?_
  rintro e w1 ⟨rfl, ho, hm⟩
  go_wp2
  go_ret
  exact ⟨rfl, ho, (Mid.of_below hb (Nat.le_refl _) B D).trans hm⟩

theorem szC_yes {l t : Int} (h : t ≤ l) : szF l t = l - t := by simp [szF, h]
theorem szC_no {l t : Int} (h : ¬ t ≤ l) : szF l t = -1 := by simp [szF, h]
/-- the argument's variable and the copy's, behind the copy's rows -/
structure CSt (g1 g6 : Nat) (v : Int) (A A3 : Option Addr) (n c n3 c3 : Nat) (zss : List (List Int)) (w' : World) : Prop where
  p1 : Blk w' g1 24 #[.int .i64 v, .slice A n c]
  p6 : Blk w' g6 28 #[.int .i64 v, .slice A3 n3 c3]
  r1 : RR w' A n zss
  r3 : RR w' A3 n3 zss
theorem CSt.step {w' w'' : World} {g1 g6 : Nat} {v : Int} {A A3 : Option Addr} {n c n3 c3 : Nat} {zss : List (List Int)} (h : CSt g1 g6 v A A3 n c n3 c3 zss w') (hb : Below w'.heap.size w' w'') : CSt g1 g6 v A A3 n c n3 c3 zss w'' :=
  ⟨h.p1.after hb, h.p6.after hb, h.r1.keep hb, h.r3.keep hb⟩
theorem CSt.full {w w' : World} {g1 g6 : Nat} {v : Int} {A A3 : Option Addr} {n c n3 c3 : Nat} {zss : List (List Int)} (h : CSt g1 g6 v A A3 n c n3 c3 zss w') (hb : Below w.heap.size w w') :
    (CSt g1 g6 v A A3 n c n3 c3 zss w' ∧ Below w.heap.size w w') ∧ w'.cell? ⟨g1, 0, none⟩ = some (.int .i64 v) ∧ w'.cell? ⟨g1, 1, none⟩ = some (.slice A n c) ∧ w'.cell? ⟨g6, 0, none⟩ = some (.int .i64 v) ∧ w'.cell? ⟨g6, 1, none⟩ = some (.slice A3 n3 c3) :=
  ⟨⟨h, hb⟩, h.p1.cells2.1, h.p1.cells2.2, h.p6.cells2.1, h.p6.cells2.2⟩
/-- an own list with both bounds -/
def OId (w : World) (B D : Nat) (A : Option Addr) (n c : Nat) (zs : List Int) : Prop := OI w B 2 A n c zs ∧ ∀ k, blk A = some k → k < D
theorem OI.boundI {w : World} {B : Nat} {A : Option Addr} {n c : Nat} {zs : List Int} (h : OI w B 2 A n c zs) : OId w B w.heap.size A n c zs := ⟨h, fun _ hk => (h.os.lt hk).2⟩
theorem OId.below {w w' : World} {B D : Nat} {A : Option Addr} {n c : Nat} {zs : List Int} (h : OId w B D A n c zs) (hb : Below w.heap.size w w') : OId w' B D A n c zs := ⟨h.1.below hb, h.2⟩
theorem OId.mid {w w' : World} {B D B' D' : Nat} {A : Option Addr} {n c : Nat} {zs : List Int} (h : OId w B D A n c zs) (hm : Mid w w' B' D') (hd : D' ≤ B ∨ D ≤ B') : OId w' B D A n c zs :=
  ⟨h.1.mid hm (fun b hb => by have h1 := h.2 b hb; have h2 := (h.1.os.lt hb).1; omega), h.2⟩
/-- between the calls of a law: the reference's result read since w2; the program's one from B on and below D -/
structure LCi (w w2 w' : World) (Z Y : List Int) (B D : Nat) (A2 A4 : Option Addr) (n2 n4 c4 : Nat) : Prop where
  bw : Below w.heap.size w w2
  b2 : Below w2.heap.size w2 w'
  r2 : RI w2 A2 n2 Z
  o4 : OId w' B D A4 n4 c4 Y
  hB : w2.heap.size ≤ B
structure LCr (w w2 w' : World) (Z Y : List (List Int)) (B D : Nat) (A2 A4 : Option Addr) (n2 n4 c4 : Nat) : Prop where
  bw : Below w.heap.size w w2
  b2 : Below w2.heap.size w2 w'
  r2 : RR w2 A2 n2 Z
  o4 : ORd w' B D 32 2 A4 n4 c4 Y
  hB : w2.heap.size ≤ B
theorem mid_lift {w2 w' w'' : World} {B D : Nat} (b2 : Below w2.heap.size w2 w') (hm : Mid w' w'' B D) (h : w2.heap.size ≤ B) : Below w2.heap.size w2 w'' :=
  b2.trans ((Mid.below (B := w2.heap.size) (D := D) ⟨hm.os, hm.tape, hm.output, hm.size, fun k hk hb => hm.blk k hk (hb.elim (fun h' => .inl (by omega)) .inr)⟩ b2.size))
section
variable {w w2 w' w'' : World} {Z Y Y' : List Int} {B D : Nat} {A2 A4 : Option Addr} {n2 n4 c4 : Nat}
theorem LCi.below (h : LCi w w2 w' Z Y B D A2 A4 n2 n4 c4) : Below w.heap.size w w' := h.bw.trans (h.b2.mono h.bw.size)
theorem LCi.step (h : LCi w w2 w' Z Y B D A2 A4 n2 n4 c4) (hb : Below w'.heap.size w' w'') : LCi w w2 w'' Z Y B D A2 A4 n2 n4 c4 := ⟨h.bw, h.b2.trans (hb.mono h.b2.size), h.r2, h.o4.below hb, h.hB⟩
theorem LCi.mid {B' D' : Nat} (h : LCi w w2 w' Z Y B D A2 A4 n2 n4 c4) (hm : Mid w' w'' B' D') (h1 : w2.heap.size ≤ B') (ho : D' ≤ B ∨ D ≤ B') : LCi w w2 w'' Z Y B D A2 A4 n2 n4 c4 := ⟨h.bw, mid_lift h.b2 hm h1, h.r2, h.o4.mid hm ho, h.hB⟩
theorem LCi.marked (h : LCi w w2 w' Z Y B D A2 A4 n2 n4 c4) (hm : Mid w' w'' B D) (ho : OId w'' B D A4 n4 c4 Y') : LCi w w2 w'' Z Y' B D A2 A4 n2 n4 c4 := ⟨h.bw, mid_lift h.b2 hm h.hB, h.r2, ho, h.hB⟩
theorem LCi.rd (h : LCi w w2 w' Z Y B D A2 A4 n2 n4 c4) : RI w' A2 n2 Z := h.r2.keep h.b2
end
section
variable {w w2 w' w'' : World} {Z Y Y' : List (List Int)} {B D : Nat} {A2 A4 : Option Addr} {n2 n4 c4 : Nat}
theorem LCr.below (h : LCr w w2 w' Z Y B D A2 A4 n2 n4 c4) : Below w.heap.size w w' := h.bw.trans (h.b2.mono h.bw.size)
theorem LCr.step (h : LCr w w2 w' Z Y B D A2 A4 n2 n4 c4) (hb : Below w'.heap.size w' w'') : LCr w w2 w'' Z Y B D A2 A4 n2 n4 c4 := ⟨h.bw, h.b2.trans (hb.mono h.b2.size), h.r2, h.o4.below hb, h.hB⟩
theorem LCr.mid {B' D' : Nat} (h : LCr w w2 w' Z Y B D A2 A4 n2 n4 c4) (hm : Mid w' w'' B' D') (h1 : w2.heap.size ≤ B') (ho : D' ≤ B ∨ D ≤ B') : LCr w w2 w'' Z Y B D A2 A4 n2 n4 c4 := ⟨h.bw, mid_lift h.b2 hm h1, h.r2, h.o4.mid hm ho, h.hB⟩
theorem LCr.marked (h : LCr w w2 w' Z Y B D A2 A4 n2 n4 c4) (hm : Mid w' w'' B D) (ho : ORd w'' B D 32 2 A4 n4 c4 Y') : LCr w w2 w'' Z Y' B D A2 A4 n2 n4 c4 := ⟨h.bw, mid_lift h.b2 hm h.hB, h.r2, ho, h.hB⟩
theorem LCr.rd (h : LCr w w2 w' Z Y B D A2 A4 n2 n4 c4) : RR w' A2 n2 Z := h.r2.keep h.b2
end
set_option maxRecDepth 100000 in
set_option maxHeartbeats 4000000 in
theorem law_CountCovers_ok (v : Int) (A : Option Addr) (n c : Nat) (zss : List (List Int)) (b : Int) (w : World) (ha : RR w A n zss) (hn : n ≤ c) (hc : c ≤ 9223372036854775807) (hs : (bulk zss : Int) ≤ 1048576) :
    Calls Try.prog 3 #[.agg #[.int .i64 v, .slice A n c], .int .i64 b] w fun e w' => e = .returned (.bool true) ∧ Below w.heap.size w w' := by
  have hla := Lib.hid ha.len
  have hbc := bulk_cells zss
  obtain ⟨bz1, bz2⟩ : n ≤ 1048576 ∧ cells zss ≤ 1048576 := by have := hla.out; omega
  have hlens : lens zss n ≤ 1099511627776 := by have := bulk_eq ha; omega
  have E1 := Lib.hid (szC_yes hs)
  have hbp : (0 : Int) ≤ 1048576 - bulk zss := by omega
  clear hbc
  generalize hbk : (1048576 - (bulk zss : Int)) = bk at *
  clear hbk
  have p1 := Blk.new w 24 #[.int .i64 v, .slice A n c]
  have b1 := below_alloc w (.cells #[.int .i64 v, .slice A n c] 24)
  go_enter Try.func3, Try.ntmps3
  go_wp2_with fail
  refine (szCover_any v 1048576 A n c zss _ (ha.keep b1) (by omega) (by omega) (by omega)).mono ?_
  rintro e w0 ⟨rfl, hb0⟩
  rw [E1.out]
  have q1 := p1.after hb0
  have b0 := below_then b1 hb0
  clear p1 b1 hb0
  obtain ⟨u0, u1⟩ := q1.cells2
  go_wp2_with fail
  refine (toCover_any v A n c zss _ (ha.keep b0) (by omega) hlens).mono ?_
  rintro e w1 ⟨A1, n1, c1, rfl, ho1, hb1⟩
  have k1 : n1 ≤ 1048576 := by have := ho1.len; have := hla.out; omega
  have q2 := q1.after hb1
  have b1 := below_then b0 hb1
  clear q1 b0 hb1 u0 u1
  go_wp2_with fail
  refine (spec_CountCovers v A1 n1 c1 zss b _ ho1.reads (by omega)).mono ?_
  rintro e w2 ⟨rfl, hb2⟩
  have bw2 := below_then b1 hb2
  have q3 := q2.after hb2
  clear ho1 q2 b1 hb2
  obtain ⟨u0, u1⟩ := q3.cells2
  go_wp2_with fail
  refine (toCover_any v A n c zss _ (ha.keep bw2) (by omega) hlens).mono ?_
  rintro e w3 ⟨A3, n3, c3, rfl, ho3, hb3⟩
  have k3 : n3 ≤ 1048576 := by have := ho3.len; have := hla.out; omega
  have od3 := ho3.bound
  have z3 := hb3.size
  have b6 := below_alloc w3 (.cells #[.int .i64 v, .slice A3 n3 c3] 28)
  have p6 := Blk.new w3 28 #[.int .i64 v, .slice A3 n3 c3]
  have q4 := (q3.after hb3).after b6
  have od3' := od3.below b6
  have b3' := below_then hb3 b6
  have z6 : (w3.alloc (.cells #[.int .i64 v, .slice A3 n3 c3] 28)).heap.size = w3.heap.size + 1 := by simp
  obtain ⟨W6, hW6⟩ : ∃ W6, w3.alloc (.cells #[.int .i64 v, .slice A3 n3 c3] 28) = W6 := ⟨_, rfl⟩
  rw [hW6] at p6 q4 od3' b3' b6 z6
  have hgl : w.heap.size < w2.heap.size := q3.lt
  clear ho3 hb3 od3 q3 u0 u1
  obtain ⟨u0, u1⟩ := p6.cells2
  have himp := impl_CountCovers v A3 n3 c3 zss b W6 od3'.reads (by omega)
  go_wp2_with fail
  clear hW6
  refine himp.mono ?_
  rintro e w4 ⟨rfl, hb4⟩
  have M0 : CSt w.heap.size w3.heap.size v A A3 n c n3 c3 zss w4 := ⟨q4.after hb4, p6.after hb4, ha.keep (below_then (below_then bw2 b3') hb4), (od3'.below hb4).reads⟩
  have bb5 := below_then (below_then bw2 b3') hb4
  clear u0 u1 hb4 b3' bw2 b6 od3' q4 p6 z6 himp z3
  generalize ((covA zss v b).length : Int) = NN at *
  generalize covK zss v b false = KK at *
  go_wp2_with fail
  generalize w3.heap.size = s3 at *
  have HM := Lib.hid M0
  have HB := Lib.hid bb5
  clear M0 bb5
  go_region_held3 (fun w' => (CSt w.heap.size s3 v A A3 n c n3 c3 zss w' ∧ Below w.heap.size w w') ∧ w'.cell? ⟨w.heap.size, 0, none⟩ = some (.int .i64 v) ∧ w'.cell? ⟨w.heap.size, 1, none⟩ = some (.slice A n c) ∧ w'.cell? ⟨s3, 0, none⟩ = some (.int .i64 v) ∧ w'.cell? ⟨s3, 1, none⟩ = some (.slice A3 n3 c3))
    (first | exact (HM.out.step (below_drewn _ 1)).full (HB.out.trans ((below_drewn _ 1).mono HB.out.size)) | exact (CSt.step (And.left (And.left (by assumption))) (by assumption)).full (below_then (And.right (And.left (by assumption))) (by assumption)))
    (first
      | (go_at_call 8; (with_reducible refine (toCover_any v A n c zss _ ?_ (by omega) hlens).mono ?_); (exact CSt.r1 (And.left (And.left (by assumption)))); rintro e w6 ⟨A6, n6, c6, rfl, ho6, hb6⟩)
      | (go_at_call 10; (with_reducible refine (eqCover_same v A3 A6 n3 n6 c3 c6 zss _ ?_ ?_ ?_ ?_).mono ?_); (exact CSt.r3 (And.left (And.left (by assumption)))); (exact ho6.reads); (omega); (have := ho6.len; have := hla.out; omega); rintro e w7 ⟨rfl, hb7⟩))
  have hh7 : (CSt w.heap.size s3 v A A3 n c n3 c3 zss w7 ∧ Below w.heap.size w w7) := And.left (by assumption)
  have HB7 := Lib.hid hh7.2
  clear hh7 hb6 hb7 ho6
  go_wp2
  go_ret
  exact ⟨rfl, HB7.out⟩
set_option maxHeartbeats 4000000 in
theorem law_CountCovers (v : Int) (A : Option Addr) (n c : Nat) (zss : List (List Int)) (b : Int) (w : World) (ha : RR w A n zss) (hn : n ≤ c) (hc : c ≤ 9223372036854775807) (hb : I64 b) :
    Calls Try.prog 3 #[.agg #[.int .i64 v, .slice A n c], .int .i64 b] w fun e w' => e = .returned (.bool true) ∧ Below w.heap.size w w' := by
  by_cases hs : (bulk zss : Int) ≤ 1048576
  · exact law_CountCovers_ok v A n c zss b w ha hn hc hs
  · have E1 := Lib.hid (szC_no hs)
    have b1 := below_alloc w (.cells #[.int .i64 v, .slice A n c] 24)
    go_enter Try.func3, Try.ntmps3
    go_wp2_with fail
    refine (szCover_any v 1048576 A n c zss _ (ha.keep b1) (by omega) (by omega) (by omega)).mono ?_
    rintro e w0 ⟨rfl, hb0⟩
    rw [E1.out]
    go_wp2
    go_ret
    exact ⟨rfl, below_then b1 hb0⟩
set_option maxRecDepth 100000 in
set_option maxHeartbeats 4000000 in
theorem law_FirstCover_ok (v : Int) (A : Option Addr) (n c : Nat) (zss : List (List Int)) (b : Int) (w : World) (ha : RR w A n zss) (hn : n ≤ c) (hc : c ≤ 9223372036854775807) (hs : (bulk zss : Int) ≤ 1048576) :
    Calls Try.prog 4 #[.agg #[.int .i64 v, .slice A n c], .int .i64 b] w fun e w' => e = .returned (.bool true) ∧ Below w.heap.size w w' := by
  have hla := Lib.hid ha.len
  have hbc := bulk_cells zss
  obtain ⟨bz1, bz2⟩ : n ≤ 1048576 ∧ cells zss ≤ 1048576 := by have := hla.out; omega
  have hlens : lens zss n ≤ 1099511627776 := by have := bulk_eq ha; omega
  have E1 := Lib.hid (szC_yes hs)
  have hbp : (0 : Int) ≤ 1048576 - bulk zss := by omega
  clear hbc
  generalize hbk : (1048576 - (bulk zss : Int)) = bk at *
  clear hbk
  have p1 := Blk.new w 24 #[.int .i64 v, .slice A n c]
  have b1 := below_alloc w (.cells #[.int .i64 v, .slice A n c] 24)
  go_enter Try.func4, Try.ntmps4
  go_wp2_with fail
  refine (szCover_any v 1048576 A n c zss _ (ha.keep b1) (by omega) (by omega) (by omega)).mono ?_
  rintro e w0 ⟨rfl, hb0⟩
  rw [E1.out]
  have q1 := p1.after hb0
  have b0 := below_then b1 hb0
  clear p1 b1 hb0
  obtain ⟨u0, u1⟩ := q1.cells2
  go_wp2_with fail
  refine (toCover_any v A n c zss _ (ha.keep b0) (by omega) hlens).mono ?_
  rintro e w1 ⟨A1, n1, c1, rfl, ho1, hb1⟩
  have k1 : n1 ≤ 1048576 := by have := ho1.len; have := hla.out; omega
  have q2 := q1.after hb1
  have b1 := below_then b0 hb1
  clear q1 b0 hb1 u0 u1
  go_wp2_with fail
  refine (spec_FirstCover v A1 n1 c1 zss b _ ho1.reads (by omega)).mono ?_
  rintro e w2 ⟨A2, n2, c2, rfl, ho2, hb2⟩
  have bw2 := below_then b1 hb2
  have r2 := ho2.reads
  clear ho2
  have q3 := q2.after hb2
  clear ho1 q2 b1 hb2
  obtain ⟨u0, u1⟩ := q3.cells2
  go_wp2_with fail
  refine (toCover_any v A n c zss _ (ha.keep bw2) (by omega) hlens).mono ?_
  rintro e w3 ⟨A3, n3, c3, rfl, ho3, hb3⟩
  have k3 : n3 ≤ 1048576 := by have := ho3.len; have := hla.out; omega
  have od3 := ho3.bound
  have z3 := hb3.size
  have b6 := below_alloc w3 (.cells #[.int .i64 v, .slice A3 n3 c3] 28)
  have p6 := Blk.new w3 28 #[.int .i64 v, .slice A3 n3 c3]
  have q4 := (q3.after hb3).after b6
  have od3' := od3.below b6
  have b3' := below_then hb3 b6
  have z6 : (w3.alloc (.cells #[.int .i64 v, .slice A3 n3 c3] 28)).heap.size = w3.heap.size + 1 := by simp
  obtain ⟨W6, hW6⟩ : ∃ W6, w3.alloc (.cells #[.int .i64 v, .slice A3 n3 c3] 28) = W6 := ⟨_, rfl⟩
  rw [hW6] at p6 q4 od3' b3' b6 z6
  have hgl : w.heap.size < w2.heap.size := q3.lt
  clear ho3 hb3 od3 q3 u0 u1
  obtain ⟨u0, u1⟩ := p6.cells2
  have himp := impl_FirstCover v A3 n3 c3 zss b W6 od3'.reads (by omega)
  go_wp2_with fail
  clear hW6
  refine himp.mono ?_
  rintro e w4 ⟨A4, n4, c4, rfl, ho4, hb4⟩
  have hzb := covFL_bd zss v b
  have HI := Lib.hid (fun (A : Option Addr) (n c : Nat) (w : World) (h1 : RR w A n zss) (h2 : n ≤ 9223372036854775807) => impl_FirstCover v A n c zss b w h1 h2)
  clear himp
  generalize (covFL zss v b) = Z at *
  generalize covFK zss v b = KK at *
  have k2 : n2 ≤ 1048576 := by have := r2.len; omega
  have k4 : n4 ≤ 1048576 := by have := ho4.len; omega
  have M0 : CSt w.heap.size w3.heap.size v A A3 n c n3 c3 zss w4 := ⟨q4.after hb4, p6.after hb4, ha.keep (below_then (below_then bw2 b3') hb4), (od3'.below hb4).reads⟩
  have bb5 := below_then (below_then bw2 b3') hb4
  have o3 := od3'.below hb4
  have L0 : LCi w w2 w4 Z Z W6.heap.size w4.heap.size A2 A4 n2 n4 c4 := ⟨bw2, below_then b3' hb4, r2, ho4.boundI, by omega⟩
  have hD4 := hb4.size
  clear u0 u1 hb4 b3' bw2 b6 od3' q4 p6 r2 ho4
  generalize W6.heap.size = S6 at *
  generalize w4.heap.size = D4 at *
  go_wp2_with fail
  refine (eqInt64S_any A4 A2 n4 n2 c4 c2 Z Z _ L0.o4.1.reads L0.rd (by omega) (by omega)).mono ?_
  rintro e w5 ⟨rfl, hd5⟩
  rw [show decide (Z = Z) = true by simp]
  have M0 := M0.step hd5.below
  have L1 := L0.step hd5.below
  have o5 := o3.below hd5.below
  have bb5 := L1.below
  clear L0 o3 hd5
  go_wp2_with fail
  generalize w3.heap.size = s3 at *
  have HM := Lib.hid M0
  have HB := Lib.hid bb5
  clear M0 bb5
  go_region_held3 (fun w' => (CSt w.heap.size s3 v A A3 n c n3 c3 zss w' ∧ Below w.heap.size w w') ∧ w'.cell? ⟨w.heap.size, 0, none⟩ = some (.int .i64 v) ∧ w'.cell? ⟨w.heap.size, 1, none⟩ = some (.slice A n c) ∧ w'.cell? ⟨s3, 0, none⟩ = some (.int .i64 v) ∧ w'.cell? ⟨s3, 1, none⟩ = some (.slice A3 n3 c3))
    (first | exact (HM.out.step (below_drewn _ 1)).full (HB.out.trans ((below_drewn _ 1).mono HB.out.size)) | exact (CSt.step (And.left (And.left (by assumption))) (by assumption)).full (below_then (And.right (And.left (by assumption))) (by assumption)))
    (first
      | (go_at_call 8; (with_reducible refine (toCover_any v A n c zss _ ?_ (by omega) hlens).mono ?_); (exact CSt.r1 (And.left (And.left (by assumption)))); rintro e w6 ⟨A6, n6, c6, rfl, ho6, hb6⟩)
      | (go_at_call 10; (with_reducible refine (eqCover_same v A3 A6 n3 n6 c3 c6 zss _ ?_ ?_ ?_ ?_).mono ?_); (exact CSt.r3 (And.left (And.left (by assumption)))); (exact ho6.reads); (omega); (have := ho6.len; have := hla.out; omega); rintro e w7 ⟨rfl, hb7⟩))
  have hh7 : (CSt w.heap.size s3 v A A3 n c n3 c3 zss w7 ∧ Below w.heap.size w w7) := And.left (by assumption)
  have hb57 := (below_drewn w5 1).trans (hb6.mono (Nat.le_refl _))
  have L3 := (L1.step hb57).step hb7
  have M3 := hh7.1
  have o7 := (o5.below hb57).below hb7
  clear L1 o5 hb6 hb7 hh7 ho6 hb57
  obtain ⟨u0, u1⟩ := M3.p6.cells2
  go_wp2_with fail
  refine (markCover_any v _ _ A3 n3 c3 1 zss _ o7 (by omega) (by omega)).mono ?_
  rintro e w8 ⟨rfl, _, hm8⟩
  have L4 := L3.mid hm8 (by omega) (by omega)
  have M4 := M3.p1.mid hm8 (by omega)
  clear L3 o7 hm8 M3 u0 u1
  go_wp2_with fail
  refine (eqInt64S_any A4 A2 n4 n2 c4 c2 Z Z _ L4.o4.1.reads L4.rd (by omega) (by omega)).mono ?_
  rintro e w9 ⟨rfl, hd9⟩
  rw [show decide (Z = Z) = true by simp]
  have L4 := L4.step hd9.below
  have M5 := M4.after hd9.below
  clear hd9 M4
  go_wp2_with fail
  refine (markInt64S_own _ _ A4 n4 c4 1 Z _ L4.o4.1 (by omega)).mono ?_
  rintro e w10 ⟨rfl, ho10, hg10⟩
  have hm10 : Mid w9 w10 S6 D4 := Mid.grown hg10 fun k hk => ⟨(L4.o4.1.os.lt hk).1, L4.o4.2 k hk⟩
  have L6 := L4.marked (Y' := marks 1 n4) hm10 ⟨ho10, L4.o4.2⟩
  have M6 := M5.mid hm10 (by omega)
  clear L4 M5 hm10 ho10
  go_wp2_with fail
  refine (heldInt64S_any A4 n4 c4 1 _ L6.o4.1.reads (by omega)).mono ?_
  rintro e w11 ⟨rfl, rfl⟩
  obtain ⟨u0, u1⟩ := M6.cells2
  go_wp2_with fail
  refine (toCover_any v A n c zss _ (ha.keep L6.below) (by omega) hlens).mono ?_
  rintro e w12 ⟨A12, n12, c12, rfl, ho12, hb12⟩
  have k12 : n12 ≤ 1048576 := by have := ho12.len; have := hla.out; omega
  have L8 := L6.step hb12
  clear L6 hb12 M6 u0 u1
  go_wp2_with fail
  refine (HI.out A12 n12 c12 _ ho12.reads (by omega)).mono ?_
  rintro e w13 ⟨A13, n13, c13, rfl, ho13, hb13⟩
  have k13 : n13 ≤ 1048576 := by have := ho13.len; omega
  have L9 := L8.step hb13
  have r13 := ho13.reads
  clear L8 hb13 ho13 ho12
  go_wp2_with fail
  refine (eqInt64S_any A13 A2 n13 n2 c13 c2 Z Z _ r13 L9.rd (by omega) (by omega)).mono ?_
  rintro e w14 ⟨rfl, hd14⟩
  rw [show decide (Z = Z) = true by simp]
  have L10 := L9.step hd14.below
  clear L9 hd14 r13
  go_wp2_with fail
  refine (heldInt64S_any A4 n4 c4 1 _ L10.o4.1.reads (by omega)).mono ?_
  rintro e w15 ⟨rfl, rfl⟩
  go_wp2
  go_ret
  exact ⟨rfl, L10.below⟩
set_option maxHeartbeats 4000000 in
theorem law_FirstCover (v : Int) (A : Option Addr) (n c : Nat) (zss : List (List Int)) (b : Int) (w : World) (ha : RR w A n zss) (hn : n ≤ c) (hc : c ≤ 9223372036854775807) (hb : I64 b) :
    Calls Try.prog 4 #[.agg #[.int .i64 v, .slice A n c], .int .i64 b] w fun e w' => e = .returned (.bool true) ∧ Below w.heap.size w w' := by
  by_cases hs : (bulk zss : Int) ≤ 1048576
  · exact law_FirstCover_ok v A n c zss b w ha hn hc hs
  · have E1 := Lib.hid (szC_no hs)
    have b1 := below_alloc w (.cells #[.int .i64 v, .slice A n c] 24)
    go_enter Try.func4, Try.ntmps4
    go_wp2_with fail
    refine (szCover_any v 1048576 A n c zss _ (ha.keep b1) (by omega) (by omega) (by omega)).mono ?_
    rintro e w0 ⟨rfl, hb0⟩
    rw [E1.out]
    go_wp2
    go_ret
    exact ⟨rfl, below_then b1 hb0⟩
set_option maxRecDepth 100000 in
set_option maxHeartbeats 4000000 in
theorem law_AllCovers_ok (v : Int) (A : Option Addr) (n c : Nat) (zss : List (List Int)) (b : Int) (w : World) (ha : RR w A n zss) (hn : n ≤ c) (hc : c ≤ 9223372036854775807) (hs : (bulk zss : Int) ≤ 1048576) :
    Calls Try.prog 5 #[.agg #[.int .i64 v, .slice A n c], .int .i64 b] w fun e w' => e = .returned (.bool true) ∧ Below w.heap.size w w' := by
  have hla := Lib.hid ha.len
  have hbc := bulk_cells zss
  obtain ⟨bz1, bz2⟩ : n ≤ 1048576 ∧ cells zss ≤ 1048576 := by have := hla.out; omega
  have hlens : lens zss n ≤ 1099511627776 := by have := bulk_eq ha; omega
  have E1 := Lib.hid (szC_yes hs)
  have hbp : (0 : Int) ≤ 1048576 - bulk zss := by omega
  clear hbc
  generalize hbk : (1048576 - (bulk zss : Int)) = bk at *
  clear hbk
  have p1 := Blk.new w 24 #[.int .i64 v, .slice A n c]
  have b1 := below_alloc w (.cells #[.int .i64 v, .slice A n c] 24)
  go_enter Try.func5, Try.ntmps5
  go_wp2_with fail
  refine (szCover_any v 1048576 A n c zss _ (ha.keep b1) (by omega) (by omega) (by omega)).mono ?_
  rintro e w0 ⟨rfl, hb0⟩
  rw [E1.out]
  have q1 := p1.after hb0
  have b0 := below_then b1 hb0
  clear p1 b1 hb0
  obtain ⟨u0, u1⟩ := q1.cells2
  go_wp2_with fail
  refine (toCover_any v A n c zss _ (ha.keep b0) (by omega) hlens).mono ?_
  rintro e w1 ⟨A1, n1, c1, rfl, ho1, hb1⟩
  have k1 : n1 ≤ 1048576 := by have := ho1.len; have := hla.out; omega
  have q2 := q1.after hb1
  have b1 := below_then b0 hb1
  clear q1 b0 hb1 u0 u1
  go_wp2_with fail
  refine (spec_AllCovers v A1 n1 c1 zss b _ ho1.reads (by omega)).mono ?_
  rintro e w2 ⟨A2, n2, c2, rfl, ho2, hb2⟩
  have bw2 := below_then b1 hb2
  have r2 := ho2.reads
  clear ho2
  have q3 := q2.after hb2
  clear ho1 q2 b1 hb2
  obtain ⟨u0, u1⟩ := q3.cells2
  go_wp2_with fail
  refine (toCover_any v A n c zss _ (ha.keep bw2) (by omega) hlens).mono ?_
  rintro e w3 ⟨A3, n3, c3, rfl, ho3, hb3⟩
  have k3 : n3 ≤ 1048576 := by have := ho3.len; have := hla.out; omega
  have od3 := ho3.bound
  have z3 := hb3.size
  have b6 := below_alloc w3 (.cells #[.int .i64 v, .slice A3 n3 c3] 28)
  have p6 := Blk.new w3 28 #[.int .i64 v, .slice A3 n3 c3]
  have q4 := (q3.after hb3).after b6
  have od3' := od3.below b6
  have b3' := below_then hb3 b6
  have z6 : (w3.alloc (.cells #[.int .i64 v, .slice A3 n3 c3] 28)).heap.size = w3.heap.size + 1 := by simp
  obtain ⟨W6, hW6⟩ : ∃ W6, w3.alloc (.cells #[.int .i64 v, .slice A3 n3 c3] 28) = W6 := ⟨_, rfl⟩
  rw [hW6] at p6 q4 od3' b3' b6 z6
  have hgl : w.heap.size < w2.heap.size := q3.lt
  clear ho3 hb3 od3 q3 u0 u1
  obtain ⟨u0, u1⟩ := p6.cells2
  have himp := impl_AllCovers v A3 n3 c3 zss b W6 od3'.reads (by omega)
  go_wp2_with fail
  clear hW6
  refine himp.mono ?_
  rintro e w4 ⟨A4, n4, c4, rfl, ho4, hb4⟩
  obtain ⟨hzb, hzb2⟩ := covA_bd zss v b
  have HI := Lib.hid (fun (A : Option Addr) (n c : Nat) (w : World) (h1 : RR w A n zss) (h2 : n ≤ 9223372036854775807) => impl_AllCovers v A n c zss b w h1 h2)
  clear himp
  generalize (covA zss v b) = Z at *
  generalize covK zss v b false = KK at *
  have k2 : n2 ≤ 1048576 := by have := r2.len; omega
  have k4 : n4 ≤ 1048576 := by have := ho4.len; omega
  have M0 : CSt w.heap.size w3.heap.size v A A3 n c n3 c3 zss w4 := ⟨q4.after hb4, p6.after hb4, ha.keep (below_then (below_then bw2 b3') hb4), (od3'.below hb4).reads⟩
  have bb5 := below_then (below_then bw2 b3') hb4
  have o3 := od3'.below hb4
  have L0 : LCr w w2 w4 Z Z W6.heap.size w4.heap.size A2 A4 n2 n4 c4 := ⟨bw2, below_then b3' hb4, r2, ho4.bound, by omega⟩
  have hD4 := hb4.size
  clear u0 u1 hb4 b3' bw2 b6 od3' q4 p6 r2 ho4
  generalize W6.heap.size = S6 at *
  generalize w4.heap.size = D4 at *
  go_wp2_with fail
  refine (eqInt64SS_any A4 A2 n4 n2 c4 c2 Z Z _ L0.o4.reads L0.rd (by omega) (by omega)).mono ?_
  rintro e w5 ⟨rfl, hd5⟩
  rw [show decide (Z = Z) = true by simp]
  have M0 := M0.step hd5.below
  have L1 := L0.step hd5.below
  have o5 := o3.below hd5.below
  have bb5 := L1.below
  clear L0 o3 hd5
  go_wp2_with fail
  generalize w3.heap.size = s3 at *
  have HM := Lib.hid M0
  have HB := Lib.hid bb5
  clear M0 bb5
  go_region_held3 (fun w' => (CSt w.heap.size s3 v A A3 n c n3 c3 zss w' ∧ Below w.heap.size w w') ∧ w'.cell? ⟨w.heap.size, 0, none⟩ = some (.int .i64 v) ∧ w'.cell? ⟨w.heap.size, 1, none⟩ = some (.slice A n c) ∧ w'.cell? ⟨s3, 0, none⟩ = some (.int .i64 v) ∧ w'.cell? ⟨s3, 1, none⟩ = some (.slice A3 n3 c3))
    (first | exact (HM.out.step (below_drewn _ 1)).full (HB.out.trans ((below_drewn _ 1).mono HB.out.size)) | exact (CSt.step (And.left (And.left (by assumption))) (by assumption)).full (below_then (And.right (And.left (by assumption))) (by assumption)))
    (first
      | (go_at_call 8; (with_reducible refine (toCover_any v A n c zss _ ?_ (by omega) hlens).mono ?_); (exact CSt.r1 (And.left (And.left (by assumption)))); rintro e w6 ⟨A6, n6, c6, rfl, ho6, hb6⟩)
      | (go_at_call 10; (with_reducible refine (eqCover_same v A3 A6 n3 n6 c3 c6 zss _ ?_ ?_ ?_ ?_).mono ?_); (exact CSt.r3 (And.left (And.left (by assumption)))); (exact ho6.reads); (omega); (have := ho6.len; have := hla.out; omega); rintro e w7 ⟨rfl, hb7⟩))
  have hh7 : (CSt w.heap.size s3 v A A3 n c n3 c3 zss w7 ∧ Below w.heap.size w w7) := And.left (by assumption)
  have hb57 := (below_drewn w5 1).trans (hb6.mono (Nat.le_refl _))
  have L3 := (L1.step hb57).step hb7
  have M3 := hh7.1
  have o7 := (o5.below hb57).below hb7
  clear L1 o5 hb6 hb7 hh7 ho6 hb57
  obtain ⟨u0, u1⟩ := M3.p6.cells2
  go_wp2_with fail
  refine (markCover_any v _ _ A3 n3 c3 1 zss _ o7 (by omega) (by omega)).mono ?_
  rintro e w8 ⟨rfl, _, hm8⟩
  have L4 := L3.mid hm8 (by omega) (by omega)
  have M4 := M3.p1.mid hm8 (by omega)
  clear L3 o7 hm8 M3 u0 u1
  go_wp2_with fail
  refine (eqInt64SS_any A4 A2 n4 n2 c4 c2 Z Z _ L4.o4.reads L4.rd (by omega) (by omega)).mono ?_
  rintro e w9 ⟨rfl, hd9⟩
  rw [show decide (Z = Z) = true by simp]
  have L4 := L4.step hd9.below
  have M5 := M4.after hd9.below
  clear hd9 M4
  go_wp2_with fail
  refine (markInt64SS_any _ _ _ _ A4 n4 c4 1 Z _ L4.o4 (by omega) (by omega)).mono ?_
  rintro e w10 ⟨rfl, ho10, hm10⟩
  have L6 := L4.marked hm10 ho10
  have M6 := M5.mid hm10 (by omega)
  clear L4 M5 hm10 ho10
  go_wp2_with fail
  refine (heldInt64SS_any A4 n4 c4 1 Z _ L6.o4.reads (by omega) (by omega)).mono ?_
  rintro e w11 ⟨rfl, rfl⟩
  obtain ⟨u0, u1⟩ := M6.cells2
  go_wp2_with fail
  refine (toCover_any v A n c zss _ (ha.keep L6.below) (by omega) hlens).mono ?_
  rintro e w12 ⟨A12, n12, c12, rfl, ho12, hb12⟩
  have k12 : n12 ≤ 1048576 := by have := ho12.len; have := hla.out; omega
  have L8 := L6.step hb12
  clear L6 hb12 M6 u0 u1
  go_wp2_with fail
  refine (HI.out A12 n12 c12 _ ho12.reads (by omega)).mono ?_
  rintro e w13 ⟨A13, n13, c13, rfl, ho13, hb13⟩
  have k13 : n13 ≤ 1048576 := by have := ho13.len; omega
  have L9 := L8.step hb13
  have r13 := ho13.reads
  clear L8 hb13 ho13 ho12
  go_wp2_with fail
  refine (eqInt64SS_any A13 A2 n13 n2 c13 c2 Z Z _ r13 L9.rd (by omega) (by omega)).mono ?_
  rintro e w14 ⟨rfl, hd14⟩
  rw [show decide (Z = Z) = true by simp]
  have L10 := L9.step hd14.below
  clear L9 hd14 r13
  go_wp2_with fail
  refine (heldInt64SS_any A4 n4 c4 1 Z _ L10.o4.reads (by omega) (by omega)).mono ?_
  rintro e w15 ⟨rfl, rfl⟩
  go_wp2
  go_ret
  exact ⟨rfl, L10.below⟩
set_option maxHeartbeats 4000000 in
theorem law_AllCovers (v : Int) (A : Option Addr) (n c : Nat) (zss : List (List Int)) (b : Int) (w : World) (ha : RR w A n zss) (hn : n ≤ c) (hc : c ≤ 9223372036854775807) (hb : I64 b) :
    Calls Try.prog 5 #[.agg #[.int .i64 v, .slice A n c], .int .i64 b] w fun e w' => e = .returned (.bool true) ∧ Below w.heap.size w w' := by
  by_cases hs : (bulk zss : Int) ≤ 1048576
  · exact law_AllCovers_ok v A n c zss b w ha hn hc hs
  · have E1 := Lib.hid (szC_no hs)
    have b1 := below_alloc w (.cells #[.int .i64 v, .slice A n c] 24)
    go_enter Try.func5, Try.ntmps5
    go_wp2_with fail
    refine (szCover_any v 1048576 A n c zss _ (ha.keep b1) (by omega) (by omega) (by omega)).mono ?_
    rintro e w0 ⟨rfl, hb0⟩
    rw [E1.out]
    go_wp2
    go_ret
    exact ⟨rfl, below_then b1 hb0⟩
end Go.Proofs.Ytdcoppighkbofaa
