/- The law on EquivalentCodes. No condition. -/
import Derived.Test.YtdkbcjdimhgmnaaGreatQKR
set_option linter.unusedVariables false
set_option linter.unusedSimpArgs false
set_option linter.unusedVariables false
namespace Go.Proofs.YtdkbcjdimhgmnaaGreat
open Go.RowKit
theorem keep8E {W w' : World} {p1 p2 p3 p4 p5 p6 p7 p8 : Addr} {u1 u2 u3 u4 u5 u6 u7 u8 : Value} (hb : Below W.heap.size W w') (h : (W.cell? p1 = some u1 ∧ W.cell? p2 = some u2 ∧ W.cell? p3 = some u3 ∧ W.cell? p4 = some u4) ∧ (W.cell? p5 = some u5 ∧ W.cell? p6 = some u6 ∧ W.cell? p7 = some u7 ∧ W.cell? p8 = some u8)) :
    Below W.heap.size W w' ∧ w'.cell? p1 = some u1 ∧ w'.cell? p2 = some u2 ∧ w'.cell? p3 = some u3 ∧ w'.cell? p4 = some u4 ∧ w'.cell? p5 = some u5 ∧ w'.cell? p6 = some u6 ∧ w'.cell? p7 = some u7 ∧ w'.cell? p8 = some u8 := by
  obtain ⟨⟨h1, h2, h3, h4⟩, h5, h6, h7, h8⟩ := h
  exact ⟨hb, below_cell hb h1, below_cell hb h2, below_cell hb h3, below_cell hb h4, below_cell hb h5, below_cell hb h6, below_cell hb h7, below_cell hb h8⟩
theorem below_orE {W w1 w2 : World} (h : Below W.heap.size W w1) (k : Below w1.heap.size w1 w2) : Below W.heap.size W w2 := h.trans (k.mono h.size)
structure ESt (g1 g6 : Nat) (P D : Int) (A A3 : Option Addr) (n c n3 c3 : Nat) (f : List Int) (M M3 : Option Addr) (r rc r3 rc3 : Nat) (zss : List (List Int)) (w' : World) : Prop where
  p1 : Blk w' g1 27 #[.int .i64 P, .int .i64 D, .slice A n c, .slice M r rc]
  p6 : Blk w' g6 33 #[.int .i64 P, .int .i64 D, .slice A3 n3 c3, .slice M3 r3 rc3]
  k1 : RCo w' A n f M r zss
  k3 : RCo w' A3 n3 f M3 r3 zss
section
variable {w w' w'' : World} {g1 g6 g2 g7 : Nat} {P D U V : Int} {A A3 M M3 B B3 N N3 : Option Addr} {n c n3 c3 r rc r3 rc3 m d m3 d3 s sc s3 sc3 : Nat} {f g : List Int} {xs ys : List (List Int)}
theorem ESt.step (h : ESt g1 g6 P D A A3 n c n3 c3 f M M3 r rc r3 rc3 xs w') (hb : Below w'.heap.size w' w'') : ESt g1 g6 P D A A3 n c n3 c3 f M M3 r rc r3 rc3 xs w'' :=
  ⟨h.p1.after hb, h.p6.after hb, h.k1.keep hb, h.k3.keep hb⟩
theorem ESt.full2 (h : ESt g1 g6 P D A A3 n c n3 c3 f M M3 r rc r3 rc3 xs w') (k : ESt g2 g7 U V B B3 m d m3 d3 g N N3 s sc s3 sc3 ys w') (hb : Below w.heap.size w w') :
    ((ESt g1 g6 P D A A3 n c n3 c3 f M M3 r rc r3 rc3 xs w' ∧ ESt g2 g7 U V B B3 m d m3 d3 g N N3 s sc s3 sc3 ys w') ∧ Below w.heap.size w w') ∧ w'.cell? ⟨g1, 0, none⟩ = some (.int .i64 P) ∧ w'.cell? ⟨g1, 1, none⟩ = some (.int .i64 D) ∧ w'.cell? ⟨g1, 2, none⟩ = some (.slice A n c) ∧ w'.cell? ⟨g1, 3, none⟩ = some (.slice M r rc) ∧ w'.cell? ⟨g6, 0, none⟩ = some (.int .i64 P) ∧ w'.cell? ⟨g6, 1, none⟩ = some (.int .i64 D) ∧ w'.cell? ⟨g6, 2, none⟩ = some (.slice A3 n3 c3) ∧ w'.cell? ⟨g6, 3, none⟩ = some (.slice M3 r3 rc3) :=
  ⟨⟨⟨h, k⟩, hb⟩, h.p1.cell 0, h.p1.cell 1, h.p1.cell 2, h.p1.cell 3, h.p6.cell 0, h.p6.cell 1, h.p6.cell 2, h.p6.cell 3⟩
end
theorem szE_yes {l t : Int} (h : t ≤ l) : szF l t = l - t := by simp [szF, h]
theorem szE_no {l t : Int} (h : ¬ t ≤ l) : szF l t = -1 := by simp [szF, h]
set_option maxRecDepth 100000 in
set_option maxHeartbeats 4000000 in
theorem law_EquivalentCodes_ok (P D : Int) (A : Option Addr) (n c : Nat) (f : List Int) (M : Option Addr) (r rc : Nat) (xs : List (List Int)) (U V : Int) (B : Option Addr) (m d : Nat) (g : List Int) (N : Option Addr) (s sc : Nat) (ys : List (List Int)) (b : Int) (w : World) (ha : RCo w A n f M r xs) (hh : RCo w B m g N s ys) (hn : n ≤ 9223372036854775807) (hm : m ≤ 9223372036854775807) (hs : ((n : Int) + bulk xs) ≤ 1048576) (hs' : ((m : Int) + bulk ys) ≤ 1048576 - (n + bulk xs)) (R : Bool) (K : Int)
    (hspec : ∀ (A : Option Addr) (n c : Nat) (M : Option Addr) (r rc : Nat) (B : Option Addr) (m d : Nat) (N : Option Addr) (s sc : Nat) (w : World), RCo w A n f M r xs → RCo w B m g N s ys → n ≤ 1048576 → r ≤ 1048576 → r ≤ rc → rc ≤ 9223372036854775807 → m ≤ 1048576 → s ≤ 1048576 → s ≤ sc → sc ≤ 9223372036854775807 → Calls Tryz.prog 8 #[.agg #[.int .i64 P, .int .i64 D, .slice A n c, .slice M r rc], .agg #[.int .i64 U, .int .i64 V, .slice B m d, .slice N s sc], .int .i64 b] w (fun e w' => e = .returned (.tuple #[.bool R, .int .i64 K]) ∧ Below w.heap.size w w'))
    (himpl : ∀ (A : Option Addr) (n c : Nat) (M : Option Addr) (r rc : Nat) (B : Option Addr) (m d : Nat) (N : Option Addr) (s sc : Nat) (w : World), RCo w A n f M r xs → RCo w B m g N s ys → n ≤ 1048576 → r ≤ 1048576 → r ≤ rc → rc ≤ 9223372036854775807 → m ≤ 1048576 → s ≤ 1048576 → s ≤ sc → sc ≤ 9223372036854775807 → Calls Tryz.prog 10 #[.agg #[.int .i64 P, .int .i64 D, .slice A n c, .slice M r rc], .agg #[.int .i64 U, .int .i64 V, .slice B m d, .slice N s sc], .int .i64 b] w (fun e w' => e = .returned (.tuple #[.bool R, .int .i64 K]) ∧ Below w.heap.size w w')) :
    Calls Tryz.prog 3 #[.agg #[.int .i64 P, .int .i64 D, .slice A n c, .slice M r rc], .agg #[.int .i64 U, .int .i64 V, .slice B m d, .slice N s sc], .int .i64 b] w fun e w' => e = .returned (.bool true) ∧ Below w.heap.size w w' := by
  have hla := Lib.hid ha.ri.len
  have hla' := Lib.hid hh.ri.len
  have hlr := Lib.hid ha.rr.len
  have hlr' := Lib.hid hh.rr.len
  have hbx := bulk_eq ha.rr
  have hby := bulk_eq hh.rr
  obtain ⟨bz1, bz2, bz3, bz4, bz5, bz6⟩ : n ≤ 1048576 ∧ m ≤ 1048576 ∧ r ≤ 1048576 ∧ s ≤ 1048576 ∧ lens xs r ≤ 1048576 ∧ lens ys s ≤ 1048576 := by omega
  have E1 := Lib.hid (szE_yes hs)
  have hbp : (0 : Int) ≤ 1048576 - (n + bulk xs) ∧ (1048576 - (n + bulk xs) : Int) ≤ 1048576 := by omega
  generalize hbk : (1048576 - ((n : Int) + (bulk xs : Int))) = bk at *
  have E2 := Lib.hid (szE_yes hs')
  have hbp2 : (0 : Int) ≤ bk - (m + bulk ys) := by omega
  generalize hbk2 : (bk - ((m : Int) + (bulk ys : Int))) = bk2 at *
  have HS := Lib.hid hspec
  have HI := Lib.hid himpl
  obtain ⟨hbp, hbp'⟩ := hbp
  clear hbk hbk2 hspec himpl hbx hby hs hs'
  have p1 := (Blk.new w 27 #[.int .i64 P, .int .i64 D, .slice A n c, .slice M r rc]).alloc (.cells #[.int .i64 U, .int .i64 V, .slice B m d, .slice N s sc] 27)
  have p2 : Blk ((w.alloc (.cells #[.int .i64 P, .int .i64 D, .slice A n c, .slice M r rc] 27)).alloc (.cells #[.int .i64 U, .int .i64 V, .slice B m d, .slice N s sc] 27)) (w.heap.size + 1) 27 #[.int .i64 U, .int .i64 V, .slice B m d, .slice N s sc] := by
    have := Blk.new (w.alloc (.cells #[.int .i64 P, .int .i64 D, .slice A n c, .slice M r rc] 27)) 27 #[.int .i64 U, .int .i64 V, .slice B m d, .slice N s sc]
    simpa using this
  have b1 := below_then (below_alloc w (.cells #[.int .i64 P, .int .i64 D, .slice A n c, .slice M r rc] 27)) (below_alloc _ (.cells #[.int .i64 U, .int .i64 V, .slice B m d, .slice N s sc] 27))
  go_enter Tryz.func3, Tryz.ntmps3
  go_wp2_with fail
  refine (szCode_any P D 1048576 A n c M r rc xs _ (ha.keep b1).rr (by omega) (by omega) (by omega) (by omega)).mono ?_
  rintro e w0 ⟨rfl, hb0⟩
  rw [E1.out]
  have q1 := p1.after hb0
  have q2 := p2.after hb0
  have b0 := below_then b1 hb0
  clear p1 p2 b1 hb0
  obtain ⟨u0, u1, u2, u3⟩ := tri_blk q1
  obtain ⟨v0, v1, v2, v3⟩ := tri_blk q2
  go_wp2_with fail
  refine (szCode_any U V bk B m d N s sc ys _ (hh.keep b0).rr (by omega) (by omega) (by omega) (by omega)).mono ?_
  rintro e w1 ⟨rfl, hb1⟩
  rw [E2.out]
  have q1 := q1.after hb1
  have q2 := q2.after hb1
  have b1 := below_then b0 hb1
  clear b0 hb1 u0 u1 u2 u3 v0 v1 v2 v3
  have Q1 := tri_blk q1
  have Q2 := tri_blk q2
  have HQ := Lib.hid (And.intro Q1 Q2)
  obtain ⟨u0, u1, u2, u3⟩ := Q1
  obtain ⟨v0, v1, v2, v3⟩ := Q2
  have HT := Lib.hid (fun (W' : World) (hb : Below w1.heap.size w1 W') => toCode_any P D A n c f M r rc xs W' (ha.keep (below_orE b1 hb)).ri (ha.keep (below_orE b1 hb)).rr (by omega) (by omega) (by omega))
  have HT' := Lib.hid (fun (W' : World) (hb : Below w1.heap.size w1 W') => toCode_any U V B m d g N s sc ys W' (hh.keep (below_orE b1 hb)).ri (hh.keep (below_orE b1 hb)).rr (by omega) (by omega) (by omega))
  go_wp2
  go_region_held3 (fun w' => Below w1.heap.size w1 w' ∧ w'.cell? ⟨w.heap.size, 0, none⟩ = some (.int .i64 P) ∧ w'.cell? ⟨w.heap.size, 1, none⟩ = some (.int .i64 D) ∧ w'.cell? ⟨w.heap.size, 2, none⟩ = some (.slice A n c) ∧ w'.cell? ⟨w.heap.size, 3, none⟩ = some (.slice M r rc) ∧ w'.cell? ⟨w.heap.size + 1, 0, none⟩ = some (.int .i64 U) ∧ w'.cell? ⟨w.heap.size + 1, 1, none⟩ = some (.int .i64 V) ∧ w'.cell? ⟨w.heap.size + 1, 2, none⟩ = some (.slice B m d) ∧ w'.cell? ⟨w.heap.size + 1, 3, none⟩ = some (.slice N s sc))
    (first | with_reducible exact keep8E (below_drewn _ 1) HQ.out | with_reducible exact keep8E (below_orE (And.left (by assumption)) (by assumption)) HQ.out)
    (first
      | (go_at_call 9; (with_reducible refine (HT.out _ ?_).mono ?_); (exact And.left (by assumption)); rintro e w2 ⟨A2, n2, c2, M2, r2, e2, mm2, rfl, hi2, -, ho2, -, -, hb2⟩)
      | (go_at_call 9; (with_reducible refine (HT'.out _ ?_).mono ?_); (exact And.left (by assumption)); rintro e w3 ⟨A3, n3, c3, M3, r3, e3, mm3, rfl, hi3, -, ho3, -, -, hb3⟩)
      | (go_at_call 8; (with_reducible refine (HS.out A2 n2 c2 M2 r2 e2 A3 n3 c3 M3 r3 e3 _ ?_ ?_ ?_ ?_ ?_ ?_ ?_ ?_ ?_ ?_).mono ?_); (exact ⟨hi2.reads.keep hb3, ho2.reads.keep hb3⟩); (exact ⟨hi3.reads, ho3.reads⟩); (have := hi2.len; have := hla.out; omega); (have := ho2.len; have := hlr.out; omega); (exact ho2.os_cap.1); (exact ho2.os_cap.2); (have := hi3.len; have := hla'.out; omega); (have := ho3.len; have := hlr'.out; omega); (exact ho3.os_cap.1); (exact ho3.os_cap.2); rintro e w4 ⟨rfl, hb4⟩))
  have hh4 : Below w1.heap.size w1 w4 := And.left (by assumption)
  have b4 := below_orE b1 hh4
  have q1 := q1.after hh4
  have q2 := q2.after hh4
  clear u0 u1 u2 u3 v0 v1 v2 v3 hb2 hb3 hb4 ho2 ho3 hi2 hi3 HT HT' b1 HQ
  obtain ⟨u0, u1, u2, u3⟩ := tri_blk q1
  go_wp2_with fail
  refine (toCode_any P D A n c f M r rc xs _ (ha.keep b4).ri (ha.keep b4).rr (by omega) (by omega) (by omega)).mono ?_
  rintro e w5 ⟨A5, n5, c5, M5, r5, e5, mm5, rfl, hi5, -, ho5, -, -, hb5⟩
  have k5 : n5 ≤ 1048576 ∧ r5 ≤ 1048576 := by have := hi5.len; have := hla.out; have := ho5.len; have := hlr.out; omega
  have j5 := ho5.os_cap
  have b5 := below_then b4 hb5
  have a6 := below_alloc w5 (.cells #[.int .i64 P, .int .i64 D, .slice A5 n5 c5, .slice M5 r5 e5] 33)
  have X5 := Blk.new w5 33 #[.int .i64 P, .int .i64 D, .slice A5 n5 c5, .slice M5 r5 e5]
  have b6 := below_then b5 a6
  have k5r := (RCo.mk hi5.reads ho5.reads).keep a6
  have q1 := (q1.after hb5).after a6
  have q2 := (q2.after hb5).after a6
  clear u0 u1 u2 u3 hb5 ho5 hi5 b4 b5 hh4
  obtain ⟨W6, hW6⟩ : ∃ W6, w5.alloc (.cells #[.int .i64 P, .int .i64 D, .slice A5 n5 c5, .slice M5 r5 e5] 33) = W6 := ⟨_, rfl⟩
  rw [hW6] at a6 X5 b6 k5r q1 q2
  clear a6
  obtain ⟨v0, v1, v2, v3⟩ := tri_blk q2
  go_wp2_with fail
  clear hW6
  refine (toCode_any U V B m d g N s sc ys _ (hh.keep b6).ri (hh.keep b6).rr (by omega) (by omega) (by omega)).mono ?_
  rintro e w7 ⟨A7, n7, c7, M7, r7, e7, mm7, rfl, hi7, -, ho7, -, -, hb7⟩
  have k7 : n7 ≤ 1048576 ∧ r7 ≤ 1048576 := by have := hi7.len; have := hla'.out; have := ho7.len; have := hlr'.out; omega
  have j7 := ho7.os_cap
  have b7 := below_then b6 hb7
  have a8 := below_alloc w7 (.cells #[.int .i64 U, .int .i64 V, .slice A7 n7 c7, .slice M7 r7 e7] 33)
  have X7 := Blk.new w7 33 #[.int .i64 U, .int .i64 V, .slice A7 n7 c7, .slice M7 r7 e7]
  have b8 := below_then b7 a8
  have k7r := (RCo.mk hi7.reads ho7.reads).keep a8
  have k5r := (k5r.keep hb7).keep a8
  have q1 := (q1.after hb7).after a8
  have q2 := (q2.after hb7).after a8
  have X5 := (X5.after hb7).after a8
  clear v0 v1 v2 v3 hb7 ho7 hi7 b6 b7
  obtain ⟨W8, hW8⟩ : ∃ W8, w7.alloc (.cells #[.int .i64 U, .int .i64 V, .slice A7 n7 c7, .slice M7 r7 e7] 33) = W8 := ⟨_, rfl⟩
  rw [hW8] at a8 X7 b8 k7r k5r q1 q2 X5
  clear a8
  obtain ⟨u0, u1, u2, u3⟩ := tri_blk X5
  obtain ⟨v0, v1, v2, v3⟩ := tri_blk X7
  go_wp2_with fail
  clear hW8
  refine (HI.out A5 n5 c5 M5 r5 e5 A7 n7 c7 M7 r7 e7 _ k5r k7r k5.1 k5.2 j5.1 j5.2 k7.1 k7.2 j7.1 j7.2).mono ?_
  rintro e w9 ⟨rfl, hb9⟩
  have b9 := below_then b8 hb9
  have M1 : ESt w.heap.size w5.heap.size P D A A5 n c n5 c5 f M M5 r rc r5 e5 xs w9 := ⟨q1.after hb9, X5.after hb9, ha.keep b9, k5r.keep hb9⟩
  have M2 : ESt (w.heap.size + 1) w7.heap.size U V B A7 m d n7 c7 g N M7 s sc r7 e7 ys w9 := ⟨q2.after hb9, X7.after hb9, hh.keep b9, k7r.keep hb9⟩
  clear u0 u1 u2 u3 v0 v1 v2 v3 hb9 b8 q1 q2 X5 X7 k5r k7r
  generalize w5.heap.size = s5 at *
  generalize w7.heap.size = s7 at *
  have HM := Lib.hid M1
  have HM2 := Lib.hid M2
  have HB := Lib.hid b9
  clear M1 M2
  go_wp2_with fail
  go_region_held3 (fun w' => (((ESt w.heap.size s5 P D A A5 n c n5 c5 f M M5 r rc r5 e5 xs w' ∧ ESt (w.heap.size + 1) s7 U V B A7 m d n7 c7 g N M7 s sc r7 e7 ys w') ∧ Below w.heap.size w w')) ∧ w'.cell? ⟨w.heap.size, 0, none⟩ = some (.int .i64 P) ∧ w'.cell? ⟨w.heap.size, 1, none⟩ = some (.int .i64 D) ∧ w'.cell? ⟨w.heap.size, 2, none⟩ = some (.slice A n c) ∧ w'.cell? ⟨w.heap.size, 3, none⟩ = some (.slice M r rc) ∧ w'.cell? ⟨s5, 0, none⟩ = some (.int .i64 P) ∧ w'.cell? ⟨s5, 1, none⟩ = some (.int .i64 D) ∧ w'.cell? ⟨s5, 2, none⟩ = some (.slice A5 n5 c5) ∧ w'.cell? ⟨s5, 3, none⟩ = some (.slice M5 r5 e5))
    (first | with_reducible exact (HM.out.step (below_drewn _ 1)).full2 (HM2.out.step (below_drewn _ 1)) (HB.out.trans ((below_drewn _ 1).mono HB.out.size)) | with_reducible exact (ESt.step (And.left (And.left (And.left (by assumption)))) (by assumption)).full2 (ESt.step (And.right (And.left (And.left (by assumption)))) (by assumption)) (below_then (And.right (And.left (by assumption))) (by assumption)) | exact (HM.out.step (below_drewn _ 1)).full2 (HM2.out.step (below_drewn _ 1)) (HB.out.trans ((below_drewn _ 1).mono HB.out.size)))
    (first
      | (go_at_call 9; (with_reducible refine (toCode_any P D A n c f M r rc xs _ ?_ ?_ (by omega) (by omega) (by omega)).mono ?_); (exact (ESt.k1 (And.left (And.left (And.left (by assumption))))).ri); (exact (ESt.k1 (And.left (And.left (And.left (by assumption))))).rr); rintro e w10 ⟨A6, n6, c6, M6, r6, e6, mm6, rfl, hi6, -, ho6, -, -, hb6⟩)
      | (go_at_call 11; (with_reducible refine (eqCode_same P D A5 A6 n5 n6 c5 c6 f M5 M6 r5 r6 e5 e6 xs _ ?_ ?_ ?_ ?_ ?_ ?_).mono ?_); (exact ESt.k3 (And.left (And.left (And.left (by assumption))))); (exact ⟨hi6.reads, ho6.reads⟩); (omega); (have := hi6.len; have := hla.out; omega); (omega); (have := ho6.len; have := hlr.out; omega); rintro e w11 ⟨rfl, hb11⟩))
  have hh7 : (ESt w.heap.size s5 P D A A5 n c n5 c5 f M M5 r rc r5 e5 xs w11 ∧ ESt (w.heap.size + 1) s7 U V B A7 m d n7 c7 g N M7 s sc r7 e7 ys w11) ∧ Below w.heap.size w w11 := And.left (by assumption)
  have HM := Lib.hid hh7.1.1
  have HM2 := Lib.hid hh7.1.2
  have HB := Lib.hid hh7.2
  clear hh7 hb6 hb11 ho6 hi6
  go_wp2
  go_region_held3 (fun w' => (((ESt (w.heap.size + 1) s7 U V B A7 m d n7 c7 g N M7 s sc r7 e7 ys w' ∧ ESt w.heap.size s5 P D A A5 n c n5 c5 f M M5 r rc r5 e5 xs w') ∧ Below w.heap.size w w')) ∧ w'.cell? ⟨w.heap.size + 1, 0, none⟩ = some (.int .i64 U) ∧ w'.cell? ⟨w.heap.size + 1, 1, none⟩ = some (.int .i64 V) ∧ w'.cell? ⟨w.heap.size + 1, 2, none⟩ = some (.slice B m d) ∧ w'.cell? ⟨w.heap.size + 1, 3, none⟩ = some (.slice N s sc) ∧ w'.cell? ⟨s7, 0, none⟩ = some (.int .i64 U) ∧ w'.cell? ⟨s7, 1, none⟩ = some (.int .i64 V) ∧ w'.cell? ⟨s7, 2, none⟩ = some (.slice A7 n7 c7) ∧ w'.cell? ⟨s7, 3, none⟩ = some (.slice M7 r7 e7))
    (first | with_reducible exact (HM2.out.step (below_drewn _ 1)).full2 (HM.out.step (below_drewn _ 1)) (HB.out.trans ((below_drewn _ 1).mono HB.out.size)) | with_reducible exact (ESt.step (And.left (And.left (And.left (by assumption)))) (by assumption)).full2 (ESt.step (And.right (And.left (And.left (by assumption)))) (by assumption)) (below_then (And.right (And.left (by assumption))) (by assumption)) | exact (HM2.out.step (below_drewn _ 1)).full2 (HM.out.step (below_drewn _ 1)) (HB.out.trans ((below_drewn _ 1).mono HB.out.size)))
    (first
      | (go_at_call 9; (with_reducible refine (toCode_any U V B m d g N s sc ys _ ?_ ?_ (by omega) (by omega) (by omega)).mono ?_); (exact (ESt.k1 (And.left (And.left (And.left (by assumption))))).ri); (exact (ESt.k1 (And.left (And.left (And.left (by assumption))))).rr); rintro e w12 ⟨A8, n8, c8, M8, r8, e8, mm8, rfl, hi8, -, ho8, -, -, hb8⟩)
      | (go_at_call 11; (with_reducible refine (eqCode_same U V A7 A8 n7 n8 c7 c8 g M7 M8 r7 r8 e7 e8 ys _ ?_ ?_ ?_ ?_ ?_ ?_).mono ?_); (exact ESt.k3 (And.left (And.left (And.left (by assumption))))); (exact ⟨hi8.reads, ho8.reads⟩); (omega); (have := hi8.len; have := hla'.out; omega); (omega); (have := ho8.len; have := hlr'.out; omega); rintro e w13 ⟨rfl, hb13⟩))
  have hh8 : (ESt (w.heap.size + 1) s7 U V B A7 m d n7 c7 g N M7 s sc r7 e7 ys w13 ∧ ESt w.heap.size s5 P D A A5 n c n5 c5 f M M5 r rc r5 e5 xs w13) ∧ Below w.heap.size w w13 := And.left (by assumption)
  go_wp2
  go_ret
  exact ⟨rfl, hh8.2⟩
set_option maxHeartbeats 1000000 in
theorem law_EquivalentCodes_big (P D : Int) (A : Option Addr) (n c : Nat) (f : List Int) (M : Option Addr) (r rc : Nat) (xs : List (List Int)) (U V : Int) (B : Option Addr) (m d : Nat) (g : List Int) (N : Option Addr) (s sc : Nat) (ys : List (List Int)) (b : Int) (w : World) (ha : RCo w A n f M r xs) (hh : RCo w B m g N s ys) (hn : n ≤ 9223372036854775807) (hm : m ≤ 9223372036854775807) (hr : r ≤ 9223372036854775807) (hsn : s ≤ 9223372036854775807) (hs : ¬ (((n : Int) + bulk xs) ≤ 1048576 ∧ ((m : Int) + bulk ys) ≤ 1048576 - (n + bulk xs))) :
    Calls Tryz.prog 3 #[.agg #[.int .i64 P, .int .i64 D, .slice A n c, .slice M r rc], .agg #[.int .i64 U, .int .i64 V, .slice B m d, .slice N s sc], .int .i64 b] w fun e w' => e = .returned (.bool true) ∧ Below w.heap.size w w' := by
  have p1 := (Blk.new w 27 #[.int .i64 P, .int .i64 D, .slice A n c, .slice M r rc]).alloc (.cells #[.int .i64 U, .int .i64 V, .slice B m d, .slice N s sc] 27)
  have p2 : Blk ((w.alloc (.cells #[.int .i64 P, .int .i64 D, .slice A n c, .slice M r rc] 27)).alloc (.cells #[.int .i64 U, .int .i64 V, .slice B m d, .slice N s sc] 27)) (w.heap.size + 1) 27 #[.int .i64 U, .int .i64 V, .slice B m d, .slice N s sc] := by
    have := Blk.new (w.alloc (.cells #[.int .i64 P, .int .i64 D, .slice A n c, .slice M r rc] 27)) 27 #[.int .i64 U, .int .i64 V, .slice B m d, .slice N s sc]
    simpa using this
  have b1 := below_then (below_alloc w (.cells #[.int .i64 P, .int .i64 D, .slice A n c, .slice M r rc] 27)) (below_alloc _ (.cells #[.int .i64 U, .int .i64 V, .slice B m d, .slice N s sc] 27))
  by_cases h1 : ((n : Int) + bulk xs) ≤ 1048576
  · have E1 := Lib.hid (szE_yes h1)
    have hbp : (0 : Int) ≤ 1048576 - (n + bulk xs) ∧ (1048576 - (n + bulk xs) : Int) ≤ 1048576 := by omega
    have h2 : ¬ ((m : Int) + bulk ys) ≤ 1048576 - (n + bulk xs) := fun h => hs ⟨h1, h⟩
    have E2 := Lib.hid (szE_no h2)
    obtain ⟨hbp, hbp'⟩ := hbp
    generalize hbk : (1048576 - ((n : Int) + (bulk xs : Int))) = bk at *
    clear hs h1 h2 hbk
    go_enter Tryz.func3, Tryz.ntmps3
    go_wp2_with fail
    refine (szCode_any P D 1048576 A n c M r rc xs _ (ha.keep b1).rr (by omega) (by omega) (by omega) (by omega)).mono ?_
    rintro e w0 ⟨rfl, hb0⟩
    rw [E1.out]
    have q2 := p2.after hb0
    have b0 := below_then b1 hb0
    clear p1 p2 b1 hb0
    obtain ⟨v0, v1, v2, v3⟩ := tri_blk q2
    go_wp2_with fail
    refine (szCode_any U V bk B m d N s sc ys _ (hh.keep b0).rr (by omega) (by omega) (by omega) (by omega)).mono ?_
    rintro e w1 ⟨rfl, hb1⟩
    rw [E2.out]
    go_wp2
    go_ret
    exact ⟨rfl, below_then b0 hb1⟩
  · have E1 := Lib.hid (szE_no h1)
    clear hs h1 p2
    go_enter Tryz.func3, Tryz.ntmps3
    go_wp2_with fail
    refine (szCode_any P D 1048576 A n c M r rc xs _ (ha.keep b1).rr (by omega) (by omega) (by omega) (by omega)).mono ?_
    rintro e w0 ⟨rfl, hb0⟩
    rw [E1.out]
    go_wp2
    go_ret
    exact ⟨rfl, below_then b1 hb0⟩
theorem law_EquivalentCodes (P D : Int) (A : Option Addr) (n c : Nat) (f : List Int) (M : Option Addr) (r rc : Nat) (xs : List (List Int)) (U V : Int) (B : Option Addr) (m d : Nat) (g : List Int) (N : Option Addr) (s sc : Nat) (ys : List (List Int)) (b : Int) (w : World) (ha : RCo w A n f M r xs) (hP : I64 P) (hD : I64 D) (hn : n ≤ 9223372036854775807) (hrc : r ≤ rc ∧ rc ≤ 9223372036854775807) (hh : RCo w B m g N s ys) (hU : I64 U) (hV : I64 V) (hm : m ≤ 9223372036854775807) (hsc : s ≤ sc ∧ sc ≤ 9223372036854775807) (_ : I64 b) :
    Calls Tryz.prog 3 #[.agg #[.int .i64 P, .int .i64 D, .slice A n c, .slice M r rc], .agg #[.int .i64 U, .int .i64 V, .slice B m d, .slice N s sc], .int .i64 b] w fun e w' => e = .returned (.bool true) ∧ Below w.heap.size w w' := by
  by_cases hs : ((n : Int) + bulk xs) ≤ 1048576 ∧ ((m : Int) + bulk ys) ≤ 1048576 - (n + bulk xs)
  · exact law_EquivalentCodes_ok P D A n c f M r rc xs U V B m d g N s sc ys b w ha hh hn hm hs.1 hs.2 (eqcR P D f xs U V g ys b) (eqcK P D f xs U V g ys b)
      (fun A n c M r rc B m d N s sc w h1 h2 h3 h4 h5 h6 h7 h8 h9 h10 => spec_EquivalentCodes P D A n c f M r rc xs U V B m d g N s sc ys b w hP hD (by omega) h1.ri h1.rr h5 h6 hU hV (by omega) h2.ri h2.rr h9 h10)
      (fun A n c M r rc B m d N s sc w h1 h2 h3 h4 _ _ h7 h8 _ _ => impl_EquivalentCodes P D A n c f M r rc xs U V B m d g N s sc ys b w hP hD (by omega) h1.ri h1.rr (by omega) hU hV (by omega) h2.ri h2.rr (by omega))
  · exact law_EquivalentCodes_big P D A n c f M r rc xs U V B m d g N s sc ys b w ha hh hn hm (by omega) (by omega) hs
end Go.Proofs.YtdkbcjdimhgmnaaGreat
