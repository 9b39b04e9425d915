/- The law on CanonicalDesign. No condition. -/
import Derived.Test.YtaphmapkobbfbaaGreatHO
import Derived.Test.YtaphmapkobbfbaaGreatGC
import Derived.Test.YtaphmapkobbfbaaGreatHV
import Derived.Test.YtaphmapkobbfbaaGreatHU
import Derived.Deep.RegionHeld3
set_option linter.unusedVariables false
set_option linter.unusedSimpArgs false
namespace Go.Proofs.YtaphmapkobbfbaaGreat
open Go.RowKit

set_option maxHeartbeats 400000 in
theorem heldDesign_any (k : Int) (A : Option Addr) (n c m : Nat) (zss : List (List Int)) (w : World) (ha : RR w A n (marksR m zss)) (hc : n ≤ 1099511627776) (hn : m + cells zss ≤ 4611686018427387904) :
    Calls Tryz.prog 25 #[.agg #[.int .i64 k, .slice A n c], .int .i64 m] w fun en w' => en = .returned (.int .i64 ((m + cells zss : Nat) : Int)) ∧ Below w.heap.size w w' := by
  have hb := below_alloc w (.cells #[.int .i64 k, .slice A n c] 28)
  go_enter Tryz.func25, Tryz.ntmps25
  go_wp2_with fail
  refine (heldInt64SS_any A n c m zss _ (ha.keep hb) hc hn).mono ?_
  rintro e w' ⟨rfl, rfl⟩
  go_wp2
  go_ret
  exact ⟨rfl, hb⟩
/-- rows of a call's own from B on and below M, and a list of its own from M on and below D -/
structure ODP (w : World) (B M D : Nat) (A : Option Addr) (n c : Nat) (P : Option Addr) (np cp : Nat) (zss : List (List Int)) (p : List Int) : Prop where
  r : ORd w B M 37 2 A n c zss
  p : OI w M 2 P np cp p
  lp : ∀ b, blk P = some b → b < D
  hM : B ≤ M
section
variable {w w' : World} {B M D B' D' : Nat} {A : Option Addr} {n c : Nat} {P : Option Addr} {np cp : Nat} {zss yss : List (List Int)} {p q : List Int}
theorem ODP.mid (h : ODP w B M D A n c P np cp zss p) (hm : Mid w w' B' D') (hd : D' ≤ B ∨ (M ≤ B' ∧ D ≤ B')) : ODP w' B M D A n c P np cp zss p :=
  ⟨h.r.mid hm (by omega), h.p.mid hm (fun b hb => by have := (h.p.os.lt hb).1; have := h.lp b hb; have := h.hM; omega), h.lp, h.hM⟩
theorem ODP.below (h : ODP w B M D A n c P np cp zss p) (hb : Below w.heap.size w w') : ODP w' B M D A n c P np cp zss p := h.mid (Mid.of_below hb (Nat.le_refl _) 0 0) (.inl (Nat.zero_le _))
theorem ODP.markR (h : ODP w B M D A n c P np cp zss p) (hm : Mid w w' B M) (hr : ORd w' B M 37 2 A n c yss) : ODP w' B M D A n c P np cp yss p :=
  ⟨hr, h.p.mid hm (fun b hb => .inr (h.p.os.lt hb).1), h.lp, h.hM⟩
theorem ODP.markP (h : ODP w B M D A n c P np cp zss p) (hm : Mid w w' M D) (hp : OI w' M 2 P np cp q) : ODP w' B M D A n c P np cp zss q :=
  ⟨h.r.mid hm (.inr (Nat.le_refl _)), hp, h.lp, h.hM⟩
end
/-- between the calls of the law: the reference's struct (its variable in block g4) and list, read since w2; the program's (its variable in block g7), its memory from B on and below D -/
structure LCd (w w2 w' : World) (T : TypeId) (K : Int) (Z : List (List Int)) (q : List Int) (Y : List (List Int)) (y : List Int) (g4 g7 B M D : Nat) (A2 A4 : Option Addr) (n2 c2 n4 c4 : Nat) (P2 P4 : Option Addr) (p2 p4 r4 : Nat) : Prop where
  bw : Below w.heap.size w w2
  b2 : Below w2.heap.size w2 w'
  r2 : RR w2 A2 n2 Z
  q2 : RI w2 P2 p2 q
  x4 : Blk w' g4 T #[.int .i64 K, .slice A2 n2 c2]
  x7 : Blk w' g7 T #[.int .i64 K, .slice A4 n4 c4]
  o4 : ODP w' B M D A4 n4 c4 P4 p4 r4 Y y
  hB : w2.heap.size ≤ B
section
variable {w w2 w' w'' : World} {T : TypeId} {K : Int} {Z Y Y' : List (List Int)} {q y y' : List Int} {g4 g7 B M D : Nat} {A2 A4 : Option Addr} {n2 c2 n4 c4 : Nat} {P2 P4 : Option Addr} {p2 p4 r4 : Nat}
theorem LCd.below (h : LCd w w2 w' T K Z q Y y g4 g7 B M D A2 A4 n2 c2 n4 c4 P2 P4 p2 p4 r4) : Below w.heap.size w w' := h.bw.trans (h.b2.mono h.bw.size)
theorem LCd.step (h : LCd w w2 w' T K Z q Y y g4 g7 B M D A2 A4 n2 c2 n4 c4 P2 P4 p2 p4 r4) (hb : Below w'.heap.size w' w'') : LCd w w2 w'' T K Z q Y y g4 g7 B M D A2 A4 n2 c2 n4 c4 P2 P4 p2 p4 r4 :=
  ⟨h.bw, h.b2.trans (hb.mono h.b2.size), h.r2, h.q2, h.x4.after hb, h.x7.after hb, h.o4.below hb, h.hB⟩
theorem LCd.kept {B' D' : Nat} (h : LCd w w2 w' T K Z q Y y g4 g7 B M D A2 A4 n2 c2 n4 c4 P2 P4 p2 p4 r4) (hm : Mid w' w'' B' D') (h1 : w2.heap.size ≤ B') : Below w2.heap.size w2 w'' :=
  h.b2.trans ((Mid.below (B := w2.heap.size) (D := D') ⟨hm.os, hm.tape, hm.output, hm.size, fun k hk hb => hm.blk k hk (hb.elim (fun h => .inl (by omega)) .inr)⟩ h.b2.size))
theorem LCd.mid {B' D' : Nat} (h : LCd w w2 w' T K Z q Y y g4 g7 B M D A2 A4 n2 c2 n4 c4 P2 P4 p2 p4 r4) (hm : Mid w' w'' B' D') (h1 : w2.heap.size ≤ B') (h4 : g4 < B' ∨ D' ≤ g4) (h7 : g7 < B' ∨ D' ≤ g7) (ho : D' ≤ B) : LCd w w2 w'' T K Z q Y y g4 g7 B M D A2 A4 n2 c2 n4 c4 P2 P4 p2 p4 r4 :=
  ⟨h.bw, h.kept hm h1, h.r2, h.q2, h.x4.mid hm h4, h.x7.mid hm h7, h.o4.mid hm (.inl ho), h.hB⟩
theorem LCd.markR (h : LCd w w2 w' T K Z q Y y g4 g7 B M D A2 A4 n2 c2 n4 c4 P2 P4 p2 p4 r4) (hm : Mid w' w'' B M) (ho : ORd w'' B M 37 2 A4 n4 c4 Y') (h4 : g4 < B ∨ M ≤ g4) (h7 : g7 < B ∨ M ≤ g7) : LCd w w2 w'' T K Z q Y' y g4 g7 B M D A2 A4 n2 c2 n4 c4 P2 P4 p2 p4 r4 :=
  ⟨h.bw, h.kept hm h.hB, h.r2, h.q2, h.x4.mid hm h4, h.x7.mid hm h7, h.o4.markR hm ho, h.hB⟩
theorem LCd.markP (h : LCd w w2 w' T K Z q Y y g4 g7 B M D A2 A4 n2 c2 n4 c4 P2 P4 p2 p4 r4) (hm : Mid w' w'' M D) (ho : OI w'' M 2 P4 p4 r4 y') (h4 : g4 < M ∨ D ≤ g4) (h7 : g7 < M ∨ D ≤ g7) : LCd w w2 w'' T K Z q Y y' g4 g7 B M D A2 A4 n2 c2 n4 c4 P2 P4 p2 p4 r4 :=
  ⟨h.bw, h.kept hm (Nat.le_trans h.hB h.o4.hM), h.r2, h.q2, h.x4.mid hm h4, h.x7.mid hm h7, h.o4.markP hm ho, h.hB⟩
theorem LCd.cells (h : LCd w w2 w' T K Z q Y y g4 g7 B M D A2 A4 n2 c2 n4 c4 P2 P4 p2 p4 r4) :
    (w'.cell? ⟨g4, 0, none⟩ = some (.int .i64 K) ∧ w'.cell? ⟨g4, 1, none⟩ = some (.slice A2 n2 c2)) ∧
    (w'.cell? ⟨g7, 0, none⟩ = some (.int .i64 K) ∧ w'.cell? ⟨g7, 1, none⟩ = some (.slice A4 n4 c4)) := ⟨h.x4.cells2, h.x7.cells2⟩
theorem LCd.rd (h : LCd w w2 w' T K Z q Y y g4 g7 B M D A2 A4 n2 c2 n4 c4 P2 P4 p2 p4 r4) : RR w' A2 n2 Z := h.r2.keep h.b2
theorem LCd.rq (h : LCd w w2 w' T K Z q Y y g4 g7 B M D A2 A4 n2 c2 n4 c4 P2 P4 p2 p4 r4) : RI w' P2 p2 q := h.q2.keep h.b2
end
/-- the argument's variable and the copy's, behind the copy's rows -/
structure ASd (w : World) (g1 g6 : Nat) (v : Int) (A A3 : Option Addr) (n c n3 c3 : Nat) (zss : List (List Int)) (w' : World) : Prop where
  p1 : Blk w' g1 24 #[.int .i64 v, .slice A n c]
  p6 : Blk w' g6 28 #[.int .i64 v, .slice A3 n3 c3]
  r3 : RR w' A3 n3 zss
theorem ASd.step {w w' w'' : World} {g1 g6 : Nat} {v : Int} {A A3 : Option Addr} {n c n3 c3 : Nat} {zss : List (List Int)} (h : ASd w g1 g6 v A A3 n c n3 c3 zss w') (hb : Below w'.heap.size w' w'') : ASd w g1 g6 v A A3 n c n3 c3 zss w'' :=
  ⟨h.p1.after hb, h.p6.after hb, h.r3.keep hb⟩
theorem ASd.full {w w' : World} {g1 g6 : Nat} {v : Int} {A A3 : Option Addr} {n c n3 c3 : Nat} {zss : List (List Int)} (h : ASd w g1 g6 v A A3 n c n3 c3 zss w') (hb : Below w.heap.size w w') :
    (ASd w g1 g6 v A A3 n c n3 c3 zss w' ∧ Below w.heap.size w w') ∧ w'.cell? ⟨g1, 0, none⟩ = some (.int .i64 v) ∧ w'.cell? ⟨g1, 1, none⟩ = some (.slice A n c) ∧ w'.cell? ⟨g6, 0, none⟩ = some (.int .i64 v) ∧ w'.cell? ⟨g6, 1, none⟩ = some (.slice A3 n3 c3) :=
  ⟨⟨h, hb⟩, h.p1.cells2.1, h.p1.cells2.2, h.p6.cells2.1, h.p6.cells2.2⟩
theorem dec_self_ (q : List Int) : decide (q = q) = true := by simp
theorem cd_small (v : Int) (bs : List (List Int)) (b : Int) : ((cdB v bs b).length ≤ 1048576 ∧ cells (cdB v bs b) ≤ 1048576) ∧ (cdP v bs b).length ≤ 1048576 := by
  by_cases h0 : dK v bs b = 0
  · obtain ⟨VV, rfl, hD, -⟩ := dK_zero h0
    have h32 := hD.v2
    have hl := hD.len
    obtain ⟨-, h2, h3⟩ := cd_ok h0
    have hb : (cdB (VV : Int) bs b).length ≤ 128 := by rw [h2, srtR_len, List.length_map]; omega
    refine ⟨⟨by omega, ?_⟩, ?_⟩
    · have h4 := cells_small (l := cdB (VV : Int) bs b) (k := 32) (fun r hr => by
        rw [h2] at hr
        have := (srtR_perm _).mem_iff.1 hr
        obtain ⟨z, hz, rfl⟩ := List.mem_map.1 this
        obtain ⟨i, hi, rfl⟩ := List.mem_iff_getElem.1 hz
        have h5 := block_len hD hi
        rw [row_get hi] at h5
        have h6 := imgR_len (cdP (VV : Int) bs b) bs[i]
        omega)
      have h5 := Nat.mul_le_mul_right 32 hb
      omega
    · rw [h3, List.length_take, Int.toNat_natCast]; omega
  · obtain ⟨-, h2, h3⟩ := cd_err h0
    rw [h2, h3]
    simp [cells]

set_option maxRecDepth 100000 in
set_option maxHeartbeats 4000000 in
theorem law_CanonicalDesign_ok (v : Int) (A : Option Addr) (n c : Nat) (zss : List (List Int)) (b : Int) (w : World) (ha : RR w A n zss) (hn : n ≤ c) (hc : c ≤ 9223372036854775807) (hs : (bulk zss : Int) ≤ 1048576)
    (K C : Int) (Z : List (List Int)) (q : List Int) (hz : (Z.length ≤ 1048576 ∧ cells Z ≤ 1048576) ∧ q.length ≤ 1048576)
    (hspec : ∀ (A : Option Addr) (n c : Nat) (w : World), RR w A n zss → n ≤ 1048576 → Calls Tryz.prog 20 #[.agg #[.int .i64 v, .slice A n c], .int .i64 b] w (fun e w' => ∃ A n c P m d, e = .returned (.tuple #[.agg #[.int .i64 K, .slice A n c], .slice P m d, .int .i64 C]) ∧ RR w' A n Z ∧ RI w' P m q ∧ Below w.heap.size w w'))
    (himpl : ∀ (A : Option Addr) (n c : Nat) (w : World), RR w A n zss → n ≤ 1048576 → Calls Tryz.prog 21 #[.agg #[.int .i64 v, .slice A n c], .int .i64 b] w (fun e w' => ∃ A n c P m d D, e = .returned (.tuple #[.agg #[.int .i64 K, .slice A n c], .slice P m d, .int .i64 C]) ∧ ORd w' w.heap.size D 37 2 A n c Z ∧ OI w' D 2 P m d q ∧ w.heap.size ≤ D ∧ D ≤ w'.heap.size ∧ Below w.heap.size w w')) :
    Calls Tryz.prog 6 #[.agg #[.int .i64 v, .slice A n c], .int .i64 b] w fun e w' => e = .returned (.bool true) ∧ Below w.heap.size w w' := by
  have hla := Lib.hid ha.len
  have hbc := bulk_cells zss
  obtain ⟨bz1, bz2⟩ : n ≤ 1048576 ∧ cells zss ≤ 1048576 := by have := hla.out; omega
  have hlens : lens zss n ≤ 1099511627776 := by have := bulk_eq ha; omega
  have E1 := Lib.hid (show szF 1048576 (bulk zss) = 1048576 - bulk zss by simp [szF, hs])
  obtain ⟨⟨hz1, hz2⟩, hz3⟩ := hz
  have hbp : (0 : Int) ≤ 1048576 - bulk zss := by omega
  clear hbc
  generalize hbk : (1048576 - (bulk zss : Int)) = bk at *
  have HB := Lib.hid hbk; clear hbk
  have HS := Lib.hid hspec
  have HI := Lib.hid himpl
  clear hspec himpl
  have p1 := Blk.new w 24 #[.int .i64 v, .slice A n c]
  have b1 := below_alloc w (.cells #[.int .i64 v, .slice A n c] 24)
  go_enter Tryz.func6, Tryz.ntmps6
  go_wp2_with fail
  refine (szDesign_any v 1048576 A n c zss _ (ha.keep b1) (by omega) (by omega) (by omega)).mono ?_
  rintro e w0 ⟨rfl, hb0⟩
  rw [E1.out]
  have q1 := p1.after hb0
  have b0 := below_then b1 hb0
  clear p1 b1 hb0
  obtain ⟨u0, u1⟩ := q1.cells2
  go_wp2_with fail
  refine (toDesign_any v A n c zss _ (ha.keep b0) (by omega) hlens).mono ?_
  rintro e w1 ⟨A1, n1, c1, rfl, ho1, hb1⟩
  have k1 : n1 ≤ 1048576 := by have := ho1.len; have := hla.out; omega
  have q2 := q1.after hb1
  have b1 := below_then b0 hb1
  clear q1 b0 hb1 u0 u1
  go_wp2_with fail
  refine (HS.out A1 n1 c1 _ ho1.reads (by omega)).mono ?_
  rintro e w2 ⟨A2, n2, c2, P2, p2, t2, rfl, r2, rq2, hb2⟩
  have bw2 := below_then b1 hb2
  have k2 : n2 ≤ 1048576 ∧ p2 ≤ 1048576 := by have := r2.len; have := rq2.len; omega
  have x4 := Blk.new w2 28 #[.int .i64 K, .slice A2 n2 c2]
  have b2 := below_alloc w2 (.cells #[.int .i64 K, .slice A2 n2 c2] 28)
  have q3 := (q2.after hb2).after b2
  clear ho1 q2 b1 hb2
  obtain ⟨u0, u1⟩ := q3.cells2
  go_wp2_with fail
  refine (toDesign_any v A n c zss _ (ha.keep (below_then bw2 b2)) (by omega) hlens).mono ?_
  rintro e w3 ⟨A3, n3, c3, rfl, ho3, hb3⟩
  have k3 : n3 ≤ 1048576 := by have := ho3.len; have := hla.out; omega
  have od3 := ho3.bound
  have e3 : (w2.alloc (.cells #[.int .i64 K, .slice A2 n2 c2] 28)).heap.size = w2.heap.size + 1 := by simp
  rw [e3] at od3
  have b3 := below_then b2 hb3
  have x4' := x4.after hb3
  have z3 := hb3.size
  rw [e3] at z3
  have b6 := below_alloc w3 (.cells #[.int .i64 v, .slice A3 n3 c3] 28)
  have z6 : (w3.alloc (.cells #[.int .i64 v, .slice A3 n3 c3] 28)).heap.size = w3.heap.size + 1 := by simp
  have p6 := Blk.new w3 28 #[.int .i64 v, .slice A3 n3 c3]
  have q4 := (q3.after hb3).after b6
  have od3' := od3.below b6
  have b3' := below_then b3 b6
  have x4 := x4'.after b6
  have hg1 := q3.lt
  rw [e3] at hg1
  clear ho3 hb3 x4' b2 b3 e3 q3 od3 u0 u1
  obtain ⟨u0, u1⟩ := p6.cells2
  go_wp2_with fail
  refine (HI.out A3 n3 c3 _ od3'.reads (by omega)).mono ?_
  rintro e w4 ⟨A4, n4, c4, P4, p4, r4, M, rfl, od4, op4, hM, hM', hb4⟩
  have k4 : n4 ≤ 1048576 ∧ p4 ≤ 1048576 := by have := od4.len; have := op4.len; omega
  rw [z6] at od4 hM
  have b4 := below_then b3' hb4
  have b7 := below_alloc w4 (.cells #[.int .i64 K, .slice A4 n4 c4] 28)
  have z4 := hb4.size
  rw [z6] at z4
  have ol4 : ∀ b, blk P4 = some b → b < w4.heap.size := fun b hb => (op4.os.lt hb).2
  have L0 : LCd w w2 (w4.alloc (.cells #[.int .i64 K, .slice A4 n4 c4] 28)) 28 K Z q Z q w2.heap.size w4.heap.size (w3.heap.size + 1) M w4.heap.size A2 A4 n2 c2 n4 c4 P2 P4 p2 p4 r4 :=
    ⟨bw2, below_then b4 b7, r2, rq2, (x4.after hb4).after b7, Blk.new _ _ _, ODP.below ⟨od4, op4, ol4, hM⟩ b7, by omega⟩
  have o3 := (od3'.below hb4).below b7
  have M0 : ASd w w.heap.size w3.heap.size v A A3 n c n3 c3 zss (w4.alloc (.cells #[.int .i64 K, .slice A4 n4 c4] 28)) := ⟨(q4.after hb4).after b7, (p6.after hb4).after b7, o3.reads⟩
  clear hb4 od4 op4 ol4 od3' b4 b3' x4 bw2 r2 rq2 q4 p6 b6 b7 z6 u0 u1
  generalize w3.heap.size = s3 at *
  obtain ⟨v1, v2⟩ := L0.cells
  go_wp2_with fail
  refine (eqDesign_same K A4 A2 n4 n2 c4 c2 Z _ L0.o4.r.reads L0.rd (by omega) (by omega)).mono ?_
  rintro e w5 ⟨rfl, hb5⟩
  have L1 := L0.step hb5
  have M1 := M0.step hb5
  have o5 := o3.below hb5
  have z5 := hb5.size
  simp at z5
  clear L0 M0 o3 hb5 v1 v2
  go_wp2_with fail
  refine (eqInt64S_any P4 P2 p4 p2 _ _ q q _ L1.o4.p.reads L1.rq (by omega) (by omega)).mono ?_
  rintro e w5' ⟨rfl, hd5⟩
  rw [dec_self_ q]
  have z5' := hd5.below.size
  have L1 := L1.step hd5.below
  have M1 := M1.step hd5.below
  have o5 := o5.below hd5.below
  clear hd5
  have bb5 := L1.below
  go_wp2_with fail
  go_region_held3 (fun w' => (ASd w w.heap.size s3 v A A3 n c n3 c3 zss w' ∧ Below w.heap.size w w') ∧ w'.cell? ⟨w.heap.size, 0, none⟩ = some (.int .i64 v) ∧ w'.cell? ⟨w.heap.size, 1, none⟩ = some (.slice A n c) ∧ w'.cell? ⟨s3, 0, none⟩ = some (.int .i64 v) ∧ w'.cell? ⟨s3, 1, none⟩ = some (.slice A3 n3 c3))
    (first | exact (M1.step (below_drewn _ 1)).full (bb5.trans ((below_drewn _ 1).mono bb5.size)) | exact (ASd.step (And.left (And.left (by assumption))) (by assumption)).full (below_then (And.right (And.left (by assumption))) (by assumption)))
    (first
      | (go_at_call 10; (with_reducible refine (toDesign_any v A n c zss _ ?_ (by omega) hlens).mono ?_); (exact ha.keep (And.right (And.left (by assumption)))); rintro e w6 ⟨A6, n6, c6, rfl, ho6, hb6⟩)
      | (go_at_call 12; (with_reducible refine (eqDesign_same v A3 A6 n3 n6 c3 c6 zss _ ?_ ?_ ?_ ?_).mono ?_); (exact ASd.r3 (And.left (And.left (by assumption)))); (exact ho6.reads); (omega); (have := ho6.len; have := hla.out; omega); rintro e w7 ⟨rfl, hb7⟩))
  have hh7 : (ASd w w.heap.size s3 v A A3 n c n3 c3 zss w7 ∧ Below w.heap.size w w7) := And.left (by assumption)
  have L3 := (L1.step ((below_drewn w5' 1).trans (hb6.mono (Nat.le_refl _)))).step hb7
  have M3 := hh7.1
  have o7 := (o5.below ((below_drewn w5' 1).trans (hb6.mono (Nat.le_refl _)))).below hb7
  clear L1 M1 o5 hb6 hb7 hh7 ho6 bb5
  obtain ⟨u0, u1⟩ := M3.p6.cells2
  go_wp2_with fail
  refine (markDesign_any v _ _ A3 n3 c3 1 zss _ o7 (by omega) (by omega)).mono ?_
  rintro e w8 ⟨rfl, _, hm8⟩
  have L4 := L3.mid hm8 (by omega) (by omega) (by omega) (by omega)
  have M4 := M3.p1.mid hm8 (by omega)
  clear L3 o7 hm8 M3 u0 u1
  obtain ⟨v1, v2⟩ := L4.cells
  go_wp2_with fail
  refine (eqDesign_same K A4 A2 n4 n2 c4 c2 Z _ L4.o4.r.reads L4.rd (by omega) (by omega)).mono ?_
  rintro e w9 ⟨rfl, hb9⟩
  have L5 := L4.step hb9
  have M5 := M4.after hb9
  clear L4 hb9 v1 v2 M4
  go_wp2_with fail
  refine (eqInt64S_any P4 P2 p4 p2 _ _ q q _ L5.o4.p.reads L5.rq (by omega) (by omega)).mono ?_
  rintro e w9' ⟨rfl, hd9⟩
  rw [dec_self_ q]
  have L5 := L5.step hd9.below
  have M5 := M5.after hd9.below
  clear hd9
  obtain ⟨v1, v2⟩ := L5.cells
  go_wp2_with fail
  refine (markDesign_any K _ _ A4 n4 c4 1 Z _ L5.o4.r (by omega) (by omega)).mono ?_
  rintro e w10 ⟨rfl, ho10, hm10⟩
  have L6 := L5.markR hm10 ho10 (by omega) (by omega)
  have M6 := M5.mid hm10 (by omega)
  clear L5 ho10 hm10 v1 v2 M5
  generalize hk1 : 1 + cells Z = kk at *
  have hkk : kk ≤ 4194304 := by omega
  have HK1 := Lib.hid hk1
  clear hk1
  go_wp2_with fail
  refine (markInt64S_own M _ P4 p4 r4 kk q _ L6.o4.p (by omega)).mono ?_
  rintro e w10' ⟨rfl, ho11, hg11⟩
  have hm11 : Mid w10 w10' M w4.heap.size := Mid.grown hg11 fun b hb => ⟨(L6.o4.p.os.lt hb).1, L6.o4.lp b hb⟩
  have L6 := L6.markP hm11 ho11 (by omega) (by omega)
  have M6 := M6.mid hm11 (by omega)
  clear ho11 hg11 hm11
  obtain ⟨v1, v2⟩ := L6.cells
  go_wp2_with fail
  refine (heldDesign_any K A4 n4 c4 1 Z _ L6.o4.r.reads (by omega) (by have := HK1.out; omega)).mono ?_
  rintro e w11 ⟨rfl, hb11⟩
  rw [HK1.out]
  have L7 := L6.step hb11
  have M7 := M6.after hb11
  clear L6 hb11 v1 v2 M6
  go_wp2_with fail
  refine (heldInt64S_any P4 p4 r4 kk _ L7.o4.p.reads (by omega)).mono ?_
  rintro e w11' ⟨rfl, rfl⟩
  obtain ⟨u0, u1⟩ := M7.cells2
  go_wp2_with fail
  refine (toDesign_any v A n c zss _ (ha.keep L7.below) (by omega) hlens).mono ?_
  rintro e w12 ⟨A12, n12, c12, rfl, ho12, hb12⟩
  have k12 : n12 ≤ 1048576 := by have := ho12.len; have := hla.out; omega
  have L8 := L7.step hb12
  clear L7 hb12 M7 u0 u1
  go_wp2_with fail
  refine (HI.out A12 n12 c12 _ ho12.reads (by omega)).mono ?_
  rintro e w13 ⟨A13, n13, c13, P13, p13, r13, M13, rfl, ho13, hop13, -, -, hb13⟩
  have k13 : n13 ≤ 1048576 ∧ p13 ≤ 1048576 := by have := ho13.len; have := hop13.len; omega
  have L9 := (L8.step hb13).step (below_alloc w13 (.cells #[.int .i64 K, .slice A13 n13 c13] 28))
  have X13 := (Blk.new w13 28 #[.int .i64 K, .slice A13 n13 c13]).cells2
  have rr13 := ho13.reads.keep (below_alloc w13 (.cells #[.int .i64 K, .slice A13 n13 c13] 28))
  have rq13 := hop13.reads.keep (below_alloc w13 (.cells #[.int .i64 K, .slice A13 n13 c13] 28))
  clear L8 hb13 ho13 ho12 hop13
  obtain ⟨v1, v2⟩ := L9.cells
  go_wp2_with fail
  refine (eqDesign_same K A13 A2 n13 n2 c13 c2 Z _ rr13 L9.rd (by omega) (by omega)).mono ?_
  rintro e w14 ⟨rfl, hb14⟩
  have L10 := L9.step hb14
  have rq13 := rq13.keep hb14
  clear L9 hb14 v1 v2 X13 rr13
  go_wp2_with fail
  refine (eqInt64S_any P13 P2 p13 p2 _ _ q q _ rq13 L10.rq (by omega) (by omega)).mono ?_
  rintro e w14' ⟨rfl, hd14⟩
  rw [dec_self_ q]
  have L10 := L10.step hd14.below
  clear hd14 rq13
  obtain ⟨v1, v2⟩ := L10.cells
  go_wp2_with fail
  refine (heldDesign_any K A4 n4 c4 1 Z _ L10.o4.r.reads (by omega) (by have := HK1.out; omega)).mono ?_
  rintro e w15 ⟨rfl, hb15⟩
  rw [HK1.out]
  have L11 := L10.step hb15
  clear L10 hb15 v1 v2
  go_wp2_with fail
  refine (heldInt64S_any P4 p4 r4 kk _ L11.o4.p.reads (by omega)).mono ?_
  rintro e w16 ⟨rfl, rfl⟩
  go_wp2
  go_ret
  exact ⟨rfl, L11.below⟩
set_option maxHeartbeats 1000000 in
theorem law_CanonicalDesign (v : Int) (A : Option Addr) (n c : Nat) (zss : List (List Int)) (b : Int) (w : World) (ha : RR w A n zss) (hn : n ≤ c) (hc : c ≤ 9223372036854775807) (_ : I64 b) :
    Calls Tryz.prog 6 #[.agg #[.int .i64 v, .slice A n c], .int .i64 b] w fun e w' => e = .returned (.bool true) ∧ Below w.heap.size w w' := by
  by_cases hs : (bulk zss : Int) ≤ 1048576
  · exact law_CanonicalDesign_ok v A n c zss b w ha hn hc hs (cdV v zss b) (dK v zss b) (cdB v zss b) (cdP v zss b) (cd_small v zss b)
      (fun A' n' c' w' ha' h1 => spec_CanonicalDesign v A' n' c' zss b w' ha' h1) (fun A' n' c' w' ha' h1 => impl_CanonicalDesign v A' n' c' zss b w' ha' h1)
  · have E1 := Lib.hid (show szF 1048576 (bulk zss) = -1 by simp [szF, hs])
    clear hs
    have b1 := below_alloc w (.cells #[.int .i64 v, .slice A n c] 24)
    go_enter Tryz.func6, Tryz.ntmps6
    go_wp2_with fail
    refine (szDesign_any v 1048576 A n c zss _ (ha.keep b1) (by omega) (by omega) (by omega)).mono ?_
    rintro e w0 ⟨rfl, hb0⟩
    rw [E1.out]
    go_wp2
    go_ret
    exact ⟨rfl, below_then b1 hb0⟩
end Go.Proofs.YtaphmapkobbfbaaGreat
