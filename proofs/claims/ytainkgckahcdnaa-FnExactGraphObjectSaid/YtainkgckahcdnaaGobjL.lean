/- The law on GraphObject. No condition. -/
import Derived.Test.YtainkgckahcdnaaObjL
import Derived.Test.YtainkgckahcdnaaGobj2
import Derived.Test.YtainkgckahcdnaaGobj3
import Derived.Test.YtainkgckahcdnaaGraph
import Derived.Deep.RegionHeld3
namespace Go.Proofs.Ytainkgckahcdnaa
open Go.RowKit

/-- the argument's variable and the copy's, behind the copy's rows -/
structure AStGraph (w : World) (g1 g6 : Nat) (A F A3 F3 : Option Addr) (n c m d n3 c3 m3 d3 : Nat) (cs : List Int) (es : List Ed) (w' : World) : Prop where
  p1 : Blk w' g1 54 #[.slice A n c, .slice F m d]
  p6 : Blk w' g6 59 #[.slice A3 n3 c3, .slice F3 m3 d3]
  r3 : RG w' A3 n3 F3 m3 cs es
theorem AStGraph.step {w w' w'' : World} {g1 g6 : Nat} {A F A3 F3 : Option Addr} {n c m d n3 c3 m3 d3 : Nat} {cs : List Int} {es : List Ed} (h : AStGraph w g1 g6 A F A3 F3 n c m d n3 c3 m3 d3 cs es w') (hb : Below w'.heap.size w' w'') : AStGraph w g1 g6 A F A3 F3 n c m d n3 c3 m3 d3 cs es w'' :=
  ⟨h.p1.after hb, h.p6.after hb, h.r3.keep hb⟩
theorem AStGraph.full {w w' : World} {g1 g6 : Nat} {A F A3 F3 : Option Addr} {n c m d n3 c3 m3 d3 : Nat} {cs : List Int} {es : List Ed} (h : AStGraph w g1 g6 A F A3 F3 n c m d n3 c3 m3 d3 cs es w') (hb : Below w.heap.size w w') :
    (AStGraph w g1 g6 A F A3 F3 n c m d n3 c3 m3 d3 cs es w' ∧ Below w.heap.size w w') ∧ w'.cell? ⟨g1, 0, none⟩ = some (.slice A n c) ∧ w'.cell? ⟨g1, 1, none⟩ = some (.slice F m d) ∧ w'.cell? ⟨g6, 0, none⟩ = some (.slice A3 n3 c3) ∧ w'.cell? ⟨g6, 1, none⟩ = some (.slice F3 m3 d3) :=
  ⟨⟨h, hb⟩, h.p1.cells2.1, h.p1.cells2.2, h.p6.cells2.1, h.p6.cells2.2⟩
set_option maxRecDepth 100000 in
set_option maxHeartbeats 4000000 in
theorem law_GraphObject_ok (A : Option Addr) (n c : Nat) (F : Option Addr) (m d : Nat) (cs : List Int) (es : List Ed) (w : World) (ha : RG w A n F m cs es) (hs : (n : Int) + m ≤ 1048576)
    (K S C : Int) (Z : List (List Int)) (hz : Z.length ≤ 1048576 ∧ cells Z ≤ 1048576)
    (hspec : ∀ (A : Option Addr) (n c : Nat) (F : Option Addr) (m d : Nat) (w : World), RG w A n F m cs es → n ≤ 1048576 → m ≤ 1048576 → Calls Try.prog 30 #[.agg #[.slice A n c, .slice F m d]] w (RetOC w K S Z C))
    (himpl : ∀ (A : Option Addr) (n c : Nat) (F : Option Addr) (m d : Nat) (w : World), RG w A n F m cs es → n ≤ 1048576 → m ≤ 1048576 → Calls Try.prog 32 #[.agg #[.slice A n c, .slice F m d]] w (RetOC w K S Z C)) :
    Calls Try.prog 6 #[.agg #[.slice A n c, .slice F m d]] w fun e w' => e = .returned (.bool true) ∧ Below w.heap.size w w' := by
  have hla := Lib.hid ha.ri.len
  have hle := Lib.hid ha.re.len
  obtain ⟨bz1, bz2⟩ : n ≤ 1048576 ∧ m ≤ 1048576 := by omega
  have E1 := Lib.hid (show szF 1048576 ((n : Int) + m) = 1048576 - (n + m) by simp [szF, hs])
  obtain ⟨hz1, hz2⟩ := hz
  have hbp : (0 : Int) ≤ 1048576 - (n + m) := by omega
  generalize hbk : (1048576 - ((n : Int) + m)) = bk at *
  have HB := Lib.hid hbk; clear hbk
  have p1 := Blk.new w 54 #[.slice A n c, .slice F m d]
  have b1 := below_alloc w (.cells #[.slice A n c, .slice F m d] 54)
  go_enter Try.func6, Try.ntmps6
  go_wp2_with fail
  refine (szGraph_any 1048576 A n c F m d _ (by omega) (by omega) (by omega) (by omega)).mono ?_
  rintro e w0 ⟨rfl, hb0⟩
  rw [E1.out]
  have q1 := p1.after hb0
  have b0 := below_then b1 hb0
  clear p1 b1 hb0
  obtain ⟨u0, u1⟩ := q1.cells2
  go_wp2_with fail
  refine (toGraph_any A n c F m d cs es _ (ha.keep b0) (by omega) (by omega)).mono ?_
  rintro e w1 ⟨A1, n1, c1, F1, m1, d1, rfl, ho1, hb1⟩
  have k1 : n1 ≤ 1048576 ∧ m1 ≤ 1048576 := by have := ho1.oi.len; have := ho1.oe.len; have := hla.out; have := hle.out; omega
  have q2 := q1.after hb1
  have b1 := below_then b0 hb1
  clear q1 b0 hb1 u0 u1
  go_wp2_with fail
  refine (hspec A1 n1 c1 F1 m1 d1 _ ho1.reads (by omega) (by omega)).mono ?_
  rintro e w2 ⟨A2, n2, c2, rfl, ho2, hb2⟩
  have bw2 := below_then b1 hb2
  have r2 := ho2.reads
  have k2 : n2 ≤ 1048576 := by have := ho2.len; omega
  have x4 := Blk.new w2 25 #[.int .i64 K, .int .i64 S, .slice A2 n2 c2]
  have b2 := below_alloc w2 (.cells #[.int .i64 K, .int .i64 S, .slice A2 n2 c2] 25)
  have q3 := (q2.after hb2).after b2
  clear ho1 q2 b1 ho2 hb2
  obtain ⟨u0, u1⟩ := q3.cells2
  go_wp2_with fail
  refine (toGraph_any A n c F m d cs es _ (ha.keep (below_then bw2 b2)) (by omega) (by omega)).mono ?_
  rintro e w3 ⟨A3, n3, c3, F3, m3, d3, rfl, ho3, hb3⟩
  have k3 : n3 ≤ 1048576 ∧ m3 ≤ 1048576 := by have := ho3.oi.len; have := ho3.oe.len; have := hla.out; have := hle.out; omega
  have od3 := ho3
  have e3 : (w2.alloc (.cells #[.int .i64 K, .int .i64 S, .slice A2 n2 c2] 25)).heap.size = w2.heap.size + 1 := by simp
  rw [e3] at od3
  have b3 := below_then b2 hb3
  have x4' := x4.after hb3
  have z3 := hb3.size
  rw [e3] at z3
  have b6 := below_alloc w3 (.cells #[.slice A3 n3 c3, .slice F3 m3 d3] 59)
  have z6 : (w3.alloc (.cells #[.slice A3 n3 c3, .slice F3 m3 d3] 59)).heap.size = w3.heap.size + 1 := by simp
  have p6 := Blk.new w3 59 #[.slice A3 n3 c3, .slice F3 m3 d3]
  have q4 := (q3.after hb3).after b6
  have od3' := od3.below b6
  have b3' := below_then b3 b6
  have x4 := x4'.after b6
  have hg1 := q3.lt
  rw [e3] at hg1
  clear ho3 hb3 x4' b2 b3 e3 q3 od3 u0 u1
  obtain ⟨u0, u1⟩ := p6.cells2
  go_wp2_with fail
  refine (himpl A3 n3 c3 F3 m3 d3 _ od3'.reads (by omega) (by omega)).mono ?_
  rintro e w4 ⟨A4, n4, c4, rfl, ho4, hb4⟩
  have k4 : n4 ≤ 1048576 := by have := ho4.len; omega
  have od4 := ho4.bound
  rw [z6] at od4
  have b4 := below_then b3' hb4
  have b7 := below_alloc w4 (.cells #[.int .i64 K, .int .i64 S, .slice A4 n4 c4] 25)
  have z4 := hb4.size
  rw [z6] at z4
  have L0 : LSt w w2 (w4.alloc (.cells #[.int .i64 K, .int .i64 S, .slice A4 n4 c4] 25)) 25 K S Z Z w2.heap.size w4.heap.size (w3.heap.size + 1) w4.heap.size A2 A4 n2 c2 n4 c4 :=
    ⟨bw2, below_then b4 b7, r2, (x4.after hb4).after b7, Blk.new _ _ _, od4.below b7, by omega⟩
  have o3 := (od3'.below hb4).below b7
  have M0 : AStGraph w w.heap.size w3.heap.size A F A3 F3 n c m d n3 c3 m3 d3 cs es (w4.alloc (.cells #[.int .i64 K, .int .i64 S, .slice A4 n4 c4] 25)) := ⟨(q4.after hb4).after b7, (p6.after hb4).after b7, o3.reads⟩
  clear ho4 hb4 od4 od3' b4 b3' x4 bw2 r2 q4 p6 b6 b7 z6 u0 u1
  generalize w3.heap.size = s3 at *
  obtain ⟨v1, v2⟩ := L0.cells
  go_wp2_with fail
  refine (eqObject_same K S A4 A2 n4 n2 c4 c2 Z _ L0.o4.reads L0.rd (by omega) (by omega)).mono ?_
  rintro e w5 ⟨rfl, hb5⟩
  have L1 := L0.step hb5
  have M1 := M0.step hb5
  have o5 := o3.below hb5
  have z5 := hb5.size
  simp at z5
  clear L0 M0 o3 hb5 v1 v2
  have bb5 := L1.below
  go_wp2_with fail
  go_region_held3 (fun w' => (AStGraph w w.heap.size s3 A F A3 F3 n c m d n3 c3 m3 d3 cs es w' ∧ Below w.heap.size w w') ∧ w'.cell? ⟨w.heap.size, 0, none⟩ = some (.slice A n c) ∧ w'.cell? ⟨w.heap.size, 1, none⟩ = some (.slice F m d) ∧ w'.cell? ⟨s3, 0, none⟩ = some (.slice A3 n3 c3) ∧ w'.cell? ⟨s3, 1, none⟩ = some (.slice F3 m3 d3))
    (first | exact (M1.step (below_drewn _ 1)).full (bb5.trans ((below_drewn _ 1).mono bb5.size)) | exact (AStGraph.step (And.left (And.left (by assumption))) (by assumption)).full (below_then (And.right (And.left (by assumption))) (by assumption)))
    (first
      | (go_at_call 31; (with_reducible refine (toGraph_any A n c F m d cs es _ ?_ (by omega) (by omega)).mono ?_); (exact ha.keep (And.right (And.left (by assumption)))); rintro e w6 ⟨A6, n6, c6, F6, m6, d6, rfl, ho6, hb6⟩)
      | (go_at_call 33; (with_reducible refine (eqGraph_same A3 F3 n3 c3 m3 d3 A6 F6 n6 c6 m6 d6 cs es _ ?_ ?_ ?_ ?_ ?_).mono ?_); (exact AStGraph.r3 (And.left (And.left (by assumption)))); (exact ho6.reads); (omega); (omega); (have := ho6.oi.len; have := hla.out; omega); rintro e w7 ⟨rfl, hb7⟩))
  have hh7 : (AStGraph w w.heap.size s3 A F A3 F3 n c m d n3 c3 m3 d3 cs es w7 ∧ Below w.heap.size w w7) := And.left (by assumption)
  have L3 := (L1.step ((below_drewn w5 1).trans (hb6.mono (Nat.le_refl _)))).step hb7
  have M3 := hh7.1
  have o7 := (o5.below ((below_drewn w5 1).trans (hb6.mono (Nat.le_refl _)))).below hb7
  clear L1 M1 o5 hb6 hb7 hh7 ho6 bb5
  obtain ⟨u0, u1⟩ := M3.p6.cells2
  go_wp2_with fail
  refine (markGraph_any _ _ A3 F3 n3 c3 m3 d3 1 cs es _ o7 (by omega)).mono ?_
  rintro e w8 ⟨rfl, _, hm8⟩
  have L4 := L3.mid hm8 (by omega) (by omega) (by omega) (by omega)
  have M4 := M3.p1.mid hm8 (by omega)
  clear L3 o7 hm8 M3 u0 u1
  obtain ⟨v1, v2⟩ := L4.cells
  go_wp2_with fail
  refine (eqObject_same K S A4 A2 n4 n2 c4 c2 Z _ L4.o4.reads L4.rd (by omega) (by omega)).mono ?_
  rintro e w9 ⟨rfl, hb9⟩
  have L5 := L4.step hb9
  have M5 := M4.after hb9
  clear L4 hb9 v1 v2 M4
  obtain ⟨v1, v2⟩ := L5.cells
  go_wp2_with fail
  refine (markObject_any K S _ _ A4 n4 c4 1 Z _ L5.o4 (by omega) (by omega)).mono ?_
  rintro e w10 ⟨rfl, ho10, hm10⟩
  have L6 := L5.marked hm10 ho10 (by omega) (by omega)
  have M6 := M5.mid hm10 (by omega)
  clear L5 ho10 hm10 v1 v2 M5
  obtain ⟨v1, v2⟩ := L6.cells
  go_wp2_with fail
  refine (heldObject_any K S A4 n4 c4 1 Z _ L6.o4.reads (by omega) (by omega)).mono ?_
  rintro e w11 ⟨rfl, hb11⟩
  have L7 := L6.step hb11
  have M7 := M6.after hb11
  clear L6 hb11 v1 v2 M6
  obtain ⟨u0, u1⟩ := M7.cells2
  go_wp2_with fail
  refine (toGraph_any A n c F m d cs es _ (ha.keep L7.below) (by omega) (by omega)).mono ?_
  rintro e w12 ⟨A12, n12, c12, F12, m12, d12, rfl, ho12, hb12⟩
  have k12 : n12 ≤ 1048576 ∧ m12 ≤ 1048576 := by have := ho12.oi.len; have := ho12.oe.len; have := hla.out; have := hle.out; omega
  have L8 := L7.step hb12
  clear L7 hb12 M7 u0 u1
  go_wp2_with fail
  refine (himpl A12 n12 c12 F12 m12 d12 _ ho12.reads (by omega) (by omega)).mono ?_
  rintro e w13 ⟨A13, n13, c13, rfl, ho13, hb13⟩
  have k13 : n13 ≤ 1048576 := by have := ho13.len; omega
  have L9 := (L8.step hb13).step (below_alloc w13 (.cells #[.int .i64 K, .int .i64 S, .slice A13 n13 c13] 25))
  have X13 := (Blk.new w13 25 #[.int .i64 K, .int .i64 S, .slice A13 n13 c13]).cells3
  have r13 := ho13.reads.keep (below_alloc w13 (.cells #[.int .i64 K, .int .i64 S, .slice A13 n13 c13] 25))
  clear L8 hb13 ho13 ho12
  obtain ⟨v1, v2⟩ := L9.cells
  go_wp2_with fail
  refine (eqObject_same K S A13 A2 n13 n2 c13 c2 Z _ r13 L9.rd (by omega) (by omega)).mono ?_
  rintro e w14 ⟨rfl, hb14⟩
  have L10 := L9.step hb14
  clear L9 hb14 v1 v2 X13 r13
  obtain ⟨v1, v2⟩ := L10.cells
  go_wp2_with fail
  refine (heldObject_any K S A4 n4 c4 1 Z _ L10.o4.reads (by omega) (by omega)).mono ?_
  rintro e w15 ⟨rfl, hb15⟩
  have L11 := L10.step hb15
  clear L10 hb15 v1 v2
  go_wp2_with fail
  go_ret
  exact ⟨rfl, L11.below⟩


theorem ecells6 {cs : List Int} {es : List Ed} (h : GraphOk cs es) : (rowsOf es).length ≤ 1048576 ∧ cells (rowsOf es) ≤ 1048576 := by
  have := h.elen
  rw [rowsOf_cells, rowsOf_len]
  omega
theorem zeros_eq {cs : List Int} (h : allZero cs) : cs = List.replicate cs.length 0 := by
  apply List.ext_getElem (by simp)
  intro i h1 h2
  have := h i h1
  rw [nth_get h1] at this
  rw [this, List.getElem_replicate]
set_option maxHeartbeats 1000000 in
theorem law_GraphObject (A : Option Addr) (n c : Nat) (F : Option Addr) (m d : Nat) (cs : List Int) (es : List Ed) (w : World) (ha : RG w A n F m cs es) (hn : n ≤ 9223372036854775807) (hm : m ≤ 9223372036854775807) :
    Calls Try.prog 6 #[.agg #[.slice A n c, .slice F m d]] w fun e w' => e = .returned (.bool true) ∧ Below w.heap.size w w' := by
  have hla := Lib.hid ha.ri.len
  by_cases hs : (n : Int) + m ≤ 1048576
  · by_cases hok : GraphOk cs es
    · by_cases hall : allZero cs
      · have hnl : n ≤ 64 := by rw [← hla.out]; exact hok.clen
        refine law_GraphObject_ok A n c F m d cs es w ha hs 6 n 0 (rowsOf es) (ecells6 hok)
          (fun A' n' c' F' m' d' w' ha' h1 h2 => ?_) (fun A' n' c' F' m' d' w' ha' h1 h2 => ?_)
        · obtain rfl : n' = n := by rw [← ha'.ri.len, hla.out]
          refine spec_GraphObject_zero A' n' c' F' m' d' cs es w' ha' (by omega) hok (fun _ W _ => ?_) 6 n' 0 (rowsOf es) (fun _ => ⟨rfl, rfl, rfl, rfl⟩) (fun h => absurd hall h)
          have hj := judgeGraph n' es W hnl hok.elen
          have e : List.replicate n' 0 = cs := by rw [← ha'.ri.len]; exact (zeros_eq hall).symm
          rw [e, tB_yes hok] at hj
          exact hj
        · obtain rfl : n' = n := by rw [← ha'.ri.len, hla.out]
          exact impl_GraphObject_zero A' n' c' F' m' d' cs es w' ha' (by omega) hok 6 n' 0 (rowsOf es) (fun _ => ⟨rfl, rfl, rfl, rfl⟩) (fun h => absurd hall h)
      · exact law_GraphObject_ok A n c F m d cs es w ha hs 0 0 6 [] (by simp [cells])
          (fun A' n' c' F' m' d' w' ha' h1 h2 => spec_GraphObject_zero A' n' c' F' m' d' cs es w' ha' (by omega) hok (fun h => absurd h hall) 0 0 6 [] (fun h => absurd h hall) (fun _ => ⟨rfl, rfl, rfl, rfl⟩))
          (fun A' n' c' F' m' d' w' ha' h1 h2 => impl_GraphObject_zero A' n' c' F' m' d' cs es w' ha' (by omega) hok 0 0 6 [] (fun h => absurd h hall) (fun _ => ⟨rfl, rfl, rfl, rfl⟩))
    · exact law_GraphObject_ok A n c F m d cs es w ha hs 0 0 1 [] (by simp [cells])
          (fun A' n' c' F' m' d' w' ha' h1 h2 => spec_GraphObject_bad A' n' c' F' m' d' cs es w' ha' (by omega) (by omega) hok)
          (fun A' n' c' F' m' d' w' ha' h1 h2 => impl_GraphObject_bad A' n' c' F' m' d' cs es w' ha' (by omega) (by omega) hok)
  · have E1 := Lib.hid (show szF 1048576 ((n : Int) + m) = -1 by simp [szF, hs])
    clear hs
    have b1 := below_alloc w (.cells #[.slice A n c, .slice F m d] 54)
    go_enter Try.func6, Try.ntmps6
    go_wp2_with fail
    refine (szGraph_any 1048576 A n c F m d _ (by omega) (by omega) (by omega) (by omega)).mono ?_
    rintro e w0 ⟨rfl, hb0⟩
    rw [E1.out]
    go_wp2
    go_ret
    exact ⟨rfl, below_then b1 hb0⟩
end Go.Proofs.Ytainkgckahcdnaa
