/- The law on CodeOfObject. No condition. -/
import Derived.Test.YtemdjochphehjaaGreatQKB
import Derived.Test.YtemdjochphehjaaGreatQKL
import Derived.Test.YtemdjochphehjaaGreatQGC
import Derived.Deep.RegionHeld3
set_option linter.unusedVariables false
set_option linter.unusedSimpArgs false
namespace Go.Proofs.YtemdjochphehjaaGreat
open Go.RowKit

/-- the argument's variable and the copy's, behind the copy's rows -/
structure ASoCode (w : World) (g1 g6 : Nat) (kk s : Int) (A A3 : Option Addr) (n c n3 c3 : Nat) (zss : List (List Int)) (w' : World) : Prop where
  p1 : Blk w' g1 42 #[.int .i64 kk, .int .i64 s, .slice A n c]
  p6 : Blk w' g6 30 #[.int .i64 kk, .int .i64 s, .slice A3 n3 c3]
  r3 : RR w' A3 n3 zss
theorem ASoCode.step {w w' w'' : World} {g1 g6 : Nat} {kk s : Int} {A A3 : Option Addr} {n c n3 c3 : Nat} {zss : List (List Int)} (h : ASoCode w g1 g6 kk s A A3 n c n3 c3 zss w') (hb : Below w'.heap.size w' w'') : ASoCode w g1 g6 kk s A A3 n c n3 c3 zss w'' :=
  ⟨h.p1.after hb, h.p6.after hb, h.r3.keep hb⟩
theorem ASoCode.full {w w' : World} {g1 g6 : Nat} {kk s : Int} {A A3 : Option Addr} {n c n3 c3 : Nat} {zss : List (List Int)} (h : ASoCode w g1 g6 kk s A A3 n c n3 c3 zss w') (hb : Below w.heap.size w w') :
    (ASoCode w g1 g6 kk s A A3 n c n3 c3 zss w' ∧ Below w.heap.size w w') ∧ w'.cell? ⟨g1, 0, none⟩ = some (.int .i64 kk) ∧ w'.cell? ⟨g1, 1, none⟩ = some (.int .i64 s) ∧ w'.cell? ⟨g1, 2, none⟩ = some (.slice A n c) ∧ w'.cell? ⟨g6, 0, none⟩ = some (.int .i64 kk) ∧ w'.cell? ⟨g6, 1, none⟩ = some (.int .i64 s) ∧ w'.cell? ⟨g6, 2, none⟩ = some (.slice A3 n3 c3) :=
  ⟨⟨h, hb⟩, h.p1.cells3.1, h.p1.cells3.2.1, h.p1.cells3.2.2, h.p6.cells3.1, h.p6.cells3.2.1, h.p6.cells3.2.2⟩
set_option maxRecDepth 100000 in
set_option maxHeartbeats 4000000 in
theorem law_CodeOfObject_ok (kk s : Int) (A : Option Addr) (n c : Nat) (zss : List (List Int)) (w : World) (ha : RR w A n zss) (hn : n ≤ c) (hc : c ≤ 9223372036854775807) (hs : (bulk zss : Int) ≤ 1048576)
    (K S C : Int) (fz : List Int) (Z : List (List Int)) (hz : fz.length ≤ 1048576 ∧ Z.length ≤ 1048576 ∧ cells Z ≤ 1048576)
    (hspec : ∀ (A : Option Addr) (n c : Nat) (w : World), RR w A n zss → n ≤ 1099511627776 → n ≤ c → c ≤ 9223372036854775807 → Calls Tryz.prog 38 #[.agg #[.int .i64 kk, .int .i64 s, .slice A n c]] w (RetCoC w K S fz Z C))
    (himpl : ∀ (A : Option Addr) (n c : Nat) (w : World), RR w A n zss → n ≤ 1099511627776 → n ≤ c → c ≤ 9223372036854775807 → Calls Tryz.prog 39 #[.agg #[.int .i64 kk, .int .i64 s, .slice A n c]] w (RetCoC w K S fz Z C)) :
    Calls Tryz.prog 8 #[.agg #[.int .i64 kk, .int .i64 s, .slice A n c]] w fun e w' => e = .returned (.bool true) ∧ Below w.heap.size w w' := by
  have hla := Lib.hid ha.len
  have hbc := bulk_cells zss
  obtain ⟨bz1, bz2⟩ : n ≤ 1048576 ∧ cells zss ≤ 1048576 := by have := hla.out; omega
  have hlens : lens zss n ≤ 1099511627776 := by have := bulk_eq ha; omega
  have E1 := Lib.hid (show szF 1048576 (bulk zss) = 1048576 - bulk zss by simp [szF, hs])
  obtain ⟨hz0, hz1, hz2⟩ := hz
  have hbp : (0 : Int) ≤ 1048576 - bulk zss := by omega
  clear hbc
  generalize hbk : (1048576 - (bulk zss : Int)) = bk at *
  have HB := Lib.hid hbk; clear hbk
  have p1 := Blk.new w 42 #[.int .i64 kk, .int .i64 s, .slice A n c]
  have b1 := below_alloc w (.cells #[.int .i64 kk, .int .i64 s, .slice A n c] 42)
  go_enter Tryz.func8, Tryz.ntmps8
  go_wp2_with fail
  refine (szObject_any kk s 1048576 A n c zss _ (ha.keep b1) (by omega) (by omega) (by omega)).mono ?_
  rintro e w0 ⟨rfl, hb0⟩
  rw [E1.out]
  have q1 := p1.after hb0
  have b0 := below_then b1 hb0
  clear p1 b1 hb0
  obtain ⟨u0, u1, u2⟩ := q1.cells3
  go_wp2_with fail
  refine (toObject_any kk s A n c zss _ (ha.keep b0) (by omega) hlens).mono ?_
  rintro e w1 ⟨A1, n1, c1, rfl, ho1, hb1⟩
  have k1 : n1 ≤ 1048576 := by have := ho1.len; have := hla.out; omega
  have q2 := q1.after hb1
  have b1 := below_then b0 hb1
  clear q1 b0 hb1 u0 u1 u2
  go_wp2_with fail
  refine (hspec A1 n1 c1 _ ho1.reads (by omega) ho1.os_cap.1 ho1.os_cap.2).mono ?_
  rintro e w2 ⟨A2, n2, c2, N2, j2, jc2, mm2, rfl, hi2, hlt2, ho2, hm2, hn2, hb2⟩
  have bw2 := below_then b1 hb2
  have r2 : RCo w2 A2 n2 fz N2 j2 Z := ⟨hi2.reads, ho2.reads⟩
  have k2 : n2 ≤ 1048576 ∧ j2 ≤ 1048576 := by have := ho2.len; have := hi2.len; omega
  have x4 := Blk.new w2 35 #[.int .i64 K, .int .i64 S, .slice A2 n2 c2, .slice N2 j2 jc2]
  have b2 := below_alloc w2 (.cells #[.int .i64 K, .int .i64 S, .slice A2 n2 c2, .slice N2 j2 jc2] 35)
  have q3 := (q2.after hb2).after b2
  clear ho1 q2 b1 ho2 hb2
  obtain ⟨u0, u1, u2⟩ := q3.cells3
  go_wp2_with fail
  refine (toObject_any kk s A n c zss _ (ha.keep (below_then bw2 b2)) (by omega) hlens).mono ?_
  rintro e w3 ⟨A3, n3, c3, rfl, ho3, hb3⟩
  have k3 : n3 ≤ 1048576 := by have := ho3.len; have := hla.out; omega
  have k3' := ho3.os_cap
  have od3 := ho3.bound
  have e3 : (w2.alloc (.cells #[.int .i64 K, .int .i64 S, .slice A2 n2 c2, .slice N2 j2 jc2] 35)).heap.size = w2.heap.size + 1 := by simp
  rw [e3] at od3
  have b3 := below_then b2 hb3
  have x4' := x4.after hb3
  have z3 := hb3.size
  rw [e3] at z3
  have b6 := below_alloc w3 (.cells #[.int .i64 kk, .int .i64 s, .slice A3 n3 c3] 30)
  have z6 : (w3.alloc (.cells #[.int .i64 kk, .int .i64 s, .slice A3 n3 c3] 30)).heap.size = w3.heap.size + 1 := by simp
  have p6 := Blk.new w3 30 #[.int .i64 kk, .int .i64 s, .slice A3 n3 c3]
  have q4 := (q3.after hb3).after b6
  have od3' := od3.below b6
  have b3' := below_then b3 b6
  have x4 := x4'.after b6
  have hg1 := q3.lt
  rw [e3] at hg1
  clear ho3 hb3 x4' b2 b3 e3 q3 od3 u0 u1 u2
  obtain ⟨u0, u1, u2⟩ := p6.cells3
  go_wp2_with fail
  refine (himpl A3 n3 c3 _ od3'.reads (by omega) k3'.1 k3'.2).mono ?_
  rintro e w4 ⟨A4, n4, c4, N4, j4, jc4, mm4, rfl, hi4, hlt4, ho4, hm4, hn4, hb4⟩
  have k4 : n4 ≤ 1048576 ∧ j4 ≤ 1048576 := by have := ho4.len; have := hi4.len; omega
  have od4 := RetCo.own hi4 hlt4 ho4 hm4 hn4
  rw [z6] at od4
  have b4 := below_then b3' hb4
  have b7 := below_alloc w4 (.cells #[.int .i64 K, .int .i64 S, .slice A4 n4 c4, .slice N4 j4 jc4] 35)
  have z4 := hb4.size
  rw [z6] at z4
  have L0 : LStK w w2 (w4.alloc (.cells #[.int .i64 K, .int .i64 S, .slice A4 n4 c4, .slice N4 j4 jc4] 35)) 35 K S fz Z fz Z w2.heap.size w4.heap.size (w3.heap.size + 1) w4.heap.size mm4 A2 A4 n2 c2 n4 c4 N2 N4 j2 jc2 j4 jc4 :=
    ⟨bw2, below_then b4 b7, r2, (x4.after hb4).after b7, Blk.new _ _ _, od4.below b7, by omega⟩
  have o3 := (od3'.below hb4).below b7
  have M0 : ASoCode w w.heap.size w3.heap.size kk s A A3 n c n3 c3 zss (w4.alloc (.cells #[.int .i64 K, .int .i64 S, .slice A4 n4 c4, .slice N4 j4 jc4] 35)) := ⟨(q4.after hb4).after b7, (p6.after hb4).after b7, o3.reads⟩
  clear ho4 hb4 od4 od3' b4 b3' x4 bw2 r2 q4 p6 b6 b7 z6 u0 u1 u2
  generalize w3.heap.size = s3 at *
  obtain ⟨v1, v2⟩ := L0.cells
  go_wp2_with fail
  refine (eqCode_same K S A4 A2 n4 n2 c4 c2 fz N4 N2 j4 j2 jc4 jc2 Z _ L0.o4.reads L0.rd (by omega) (by omega) (by omega) (by omega)).mono ?_
  rintro e w5 ⟨rfl, hb5⟩
  have L1 := L0.step hb5
  have M1 := M0.step hb5
  have o5 := o3.below hb5
  have z5 := hb5.size
  simp at z5
  clear L0 M0 o3 hb5 v1 v2
  have bb5 := L1.below
  go_wp2_with fail
  go_region_held3 (fun w' => (ASoCode w w.heap.size s3 kk s A A3 n c n3 c3 zss w' ∧ Below w.heap.size w w') ∧ w'.cell? ⟨w.heap.size, 0, none⟩ = some (.int .i64 kk) ∧ w'.cell? ⟨w.heap.size, 1, none⟩ = some (.int .i64 s) ∧ w'.cell? ⟨w.heap.size, 2, none⟩ = some (.slice A n c) ∧ w'.cell? ⟨s3, 0, none⟩ = some (.int .i64 kk) ∧ w'.cell? ⟨s3, 1, none⟩ = some (.int .i64 s) ∧ w'.cell? ⟨s3, 2, none⟩ = some (.slice A3 n3 c3))
    (first | exact (M1.step (below_drewn _ 1)).full (bb5.trans ((below_drewn _ 1).mono bb5.size)) | exact (ASoCode.step (And.left (And.left (by assumption))) (by assumption)).full (below_then (And.right (And.left (by assumption))) (by assumption)))
    (first
      | (go_at_call 21; (with_reducible refine (toObject_any kk s A n c zss _ ?_ (by omega) hlens).mono ?_); (exact ha.keep (And.right (And.left (by assumption)))); rintro e w6 ⟨A6, n6, c6, rfl, ho6, hb6⟩)
      | (go_at_call 14; (with_reducible refine (eqObject_same kk s A3 A6 n3 n6 c3 c6 zss _ ?_ ?_ ?_ ?_).mono ?_); (exact ASoCode.r3 (And.left (And.left (by assumption)))); (exact ho6.reads); (omega); (have := ho6.len; have := hla.out; omega); rintro e w7 ⟨rfl, hb7⟩))
  have hh7 : (ASoCode w w.heap.size s3 kk s A A3 n c n3 c3 zss w7 ∧ Below w.heap.size w w7) := And.left (by assumption)
  have L3 := (L1.step ((below_drewn w5 1).trans (hb6.mono (Nat.le_refl _)))).step hb7
  have M3 := hh7.1
  have o7 := (o5.below ((below_drewn w5 1).trans (hb6.mono (Nat.le_refl _)))).below hb7
  clear L1 M1 o5 hb6 hb7 hh7 ho6 bb5
  obtain ⟨u0, u1, u2⟩ := M3.p6.cells3
  go_wp2_with fail
  refine (markObject_any kk s _ _ A3 n3 c3 1 zss _ o7 (by omega) (by omega)).mono ?_
  rintro e w8 ⟨rfl, _, hm8⟩
  have L4 := L3.mid hm8 (by omega) (by omega) (by omega) (by omega)
  have M4 := M3.p1.mid hm8 (by omega)
  clear L3 o7 hm8 M3 u0 u1 u2
  obtain ⟨v1, v2⟩ := L4.cells
  go_wp2_with fail
  refine (eqCode_same K S A4 A2 n4 n2 c4 c2 fz N4 N2 j4 j2 jc4 jc2 Z _ L4.o4.reads L4.rd (by omega) (by omega) (by omega) (by omega)).mono ?_
  rintro e w9 ⟨rfl, hb9⟩
  have L5 := L4.step hb9
  have M5 := M4.after hb9
  clear L4 hb9 v1 v2 M4
  obtain ⟨v1, v2⟩ := L5.cells
  go_wp2_with fail
  refine (markCode_ex K S _ _ _ A4 n4 c4 fz N4 j4 jc4 1 Z _ L5.o4 (by omega) (by have := L5.x7.lt; omega) (by omega)).mono ?_
  rintro e w10 ⟨rfl, ho10, hm10⟩
  have L6 := L5.marked hm10 ho10 (by omega) (by omega)
  have M6 := M5.mid hm10 (by omega)
  clear L5 ho10 hm10 v1 v2 M5
  obtain ⟨v1, v2⟩ := L6.cells
  go_wp2_with fail
  refine (heldCode_any K S A4 n4 c4 N4 j4 jc4 1 Z _ L6.o4.oi.reads L6.o4.od.reads (by omega) (by omega)).mono ?_
  rintro e w11 ⟨rfl, hb11⟩
  have L7 := L6.step hb11
  have M7 := M6.after hb11
  clear L6 hb11 v1 v2 M6
  obtain ⟨u0, u1, u2⟩ := M7.cells3
  go_wp2_with fail
  refine (toObject_any kk s A n c zss _ (ha.keep L7.below) (by omega) hlens).mono ?_
  rintro e w12 ⟨A12, n12, c12, rfl, ho12, hb12⟩
  have k12 : n12 ≤ 1048576 := by have := ho12.len; have := hla.out; omega
  have L8 := L7.step hb12
  clear L7 hb12 M7 u0 u1 u2
  go_wp2_with fail
  refine (himpl A12 n12 c12 _ ho12.reads (by omega) ho12.os_cap.1 ho12.os_cap.2).mono ?_
  rintro e w13 ⟨A13, n13, c13, N13, j13, jc13, mm13, rfl, hi13, hlt13, ho13, hm13, hn13, hb13⟩
  have k13 : n13 ≤ 1048576 ∧ j13 ≤ 1048576 := by have := ho13.len; have := hi13.len; omega
  have L9 := (L8.step hb13).step (below_alloc w13 (.cells #[.int .i64 K, .int .i64 S, .slice A13 n13 c13, .slice N13 j13 jc13] 35))
  have X13 := tri_blk (Blk.new w13 35 #[.int .i64 K, .int .i64 S, .slice A13 n13 c13, .slice N13 j13 jc13])
  have r13 := RCo.keep ⟨hi13.reads, ho13.reads⟩ (below_alloc w13 (.cells #[.int .i64 K, .int .i64 S, .slice A13 n13 c13, .slice N13 j13 jc13] 35))
  clear L8 hb13 ho13 ho12
  obtain ⟨v1, v2⟩ := L9.cells
  go_wp2_with fail
  refine (eqCode_same K S A13 A2 n13 n2 c13 c2 fz N13 N2 j13 j2 jc13 jc2 Z _ r13 L9.rd (by omega) (by omega) (by omega) (by omega)).mono ?_
  rintro e w14 ⟨rfl, hb14⟩
  have L10 := L9.step hb14
  clear L9 hb14 v1 v2 X13 r13
  obtain ⟨v1, v2⟩ := L10.cells
  go_wp2_with fail
  refine (heldCode_any K S A4 n4 c4 N4 j4 jc4 1 Z _ L10.o4.oi.reads L10.o4.od.reads (by omega) (by omega)).mono ?_
  rintro e w15 ⟨rfl, hb15⟩
  have L11 := L10.step hb15
  clear L10 hb15 v1 v2
  go_wp2_with fail
  go_ret
  exact ⟨rfl, L11.below⟩

set_option maxHeartbeats 1000000 in
theorem law_CodeOfObject (kk s : Int) (A : Option Addr) (n c : Nat) (zss : List (List Int)) (w : World) (ha : RR w A n zss) (hn : n ≤ c) (hc : c ≤ 9223372036854775807) :
    Calls Tryz.prog 8 #[.agg #[.int .i64 kk, .int .i64 s, .slice A n c]] w fun e w' => e = .returned (.bool true) ∧ Below w.heap.size w w' := by
  by_cases hs : (bulk zss : Int) ≤ 1048576
  · have hbc := bulk_cells zss
    have h0 := ha.len
    by_cases hC : askC kk s zss 5 = 0
    · obtain ⟨rfl, hv⟩ := askC_zero hC
      obtain ⟨p, k, hm, hps, hok⟩ := (vobj5 s zss).1 hv
      obtain ⟨m1, m2, m3, m4, m5⟩ := PKL_ok hm
      have hfl : (mkP p k).length ≤ 1048576 := by have := (show FldOk p k (mkP p k) from hok.1.1.2).len; omega
      exact law_CodeOfObject_ok 5 s A n c zss w ha hn hc hs p k 0 (mkP p k) zss ⟨hfl, by omega, by omega⟩
        (fun A' n' c' w' ha' h1 h2 h3 => spec_CodeOfObject_yes 5 s A' n' c' zss w' ha' (by have := ha'.len; omega) (by omega) h2 h3 hC p k hm hps) (fun A' n' c' w' ha' h1 h2 h3 => impl_CodeOfObject_yes 5 s A' n' c' zss w' ha' (by have := ha'.len; omega) (by omega) h2 h3 hC p k hm hps)
    · exact law_CodeOfObject_ok kk s A n c zss w ha hn hc hs 0 0 (askC kk s zss 5) [] [] (by simp [cells])
        (fun A' n' c' w' ha' h1 h2 h3 => spec_CodeOfObject_no kk s A' n' c' zss w' ha' (by have := ha'.len; omega) (by omega) h2 h3 _ rfl hC) (fun A' n' c' w' ha' h1 h2 h3 => impl_CodeOfObject_no kk s A' n' c' zss w' ha' (by have := ha'.len; omega) (by omega) h2 h3 _ rfl hC)
  · have E1 := Lib.hid (show szF 1048576 (bulk zss) = -1 by simp [szF, hs])
    clear hs
    have b1 := below_alloc w (.cells #[.int .i64 kk, .int .i64 s, .slice A n c] 42)
    go_enter Tryz.func8, Tryz.ntmps8
    go_wp2_with fail
    refine (szObject_any kk s 1048576 A n c zss _ (ha.keep b1) (by omega) (by omega) (by omega)).mono ?_
    rintro e w0 ⟨rfl, hb0⟩
    rw [E1.out]
    go_wp2
    go_ret
    exact ⟨rfl, below_then b1 hb0⟩
end Go.Proofs.YtemdjochphehjaaGreat
