/- The law on SquareObject. No condition. -/
import Derived.Test.YtainkgckahcdnaaObjL
import Derived.Test.YtainkgckahcdnaaSqr2
import Derived.Test.YtainkgckahcdnaaBel
import Derived.Test.YtainkgckahcdnaaObjL
namespace Go.Proofs.Ytainkgckahcdnaa
open Go.RowKit

theorem cells_nil : cells [] = 0 := rfl
set_option maxHeartbeats 1000000 in
theorem judgeSqr (s : Int) (zss : List (List Int)) (w : World) (hs : (zss.length : Int) = s) : Judge 1 s zss (tB (Square zss)) w := by
  intro g A n c W _ hB ha hn hc
  obtain ⟨k1, k2, k3⟩ := hB.cells3
  have hl : (n : Int) = s := by rw [← hs, ha.len]
  have hq : ((n : Int) == s) = true := by simp [hl]
  clear hl hs hB
  cases hh : tB (Square zss) with
  | true =>
    have hcall : ∀ p : Bel W, Calls Try.prog 82 #[.slice A n c] p.w (RetB p.w true) := fun p => by
      rw [← hh]; exact l06Ok_any A n c zss _ (ha.keep p.h) (by omega)
    clear hh
    go_enter Try.func59, Try.ntmps59
    go_wp2
    have q2 := cell_bel k2
    have q3 := cell_bel k3
    refine wp_region_bel (by kernel_rfl) (by kernel_rfl) ?_
    repeat (first | go_big_quiet_step ((go_at_call 82; exact Calls.bel (hcall _))) | quiet_step ((go_at_call 82; exact Calls.bel (hcall _))))
    refine wpQuiet_nil ?_
    rintro _ ⟨⟨w2, hb2⟩, rfl⟩
    clear q2 q3
    go_wp2
    go_ret
    exact ⟨rfl, hb2⟩
  | false =>
    have hcall : ∀ p : Bel W, Calls Try.prog 82 #[.slice A n c] p.w (RetB p.w false) := fun p => by
      rw [← hh]; exact l06Ok_any A n c zss _ (ha.keep p.h) (by omega)
    clear hh
    go_enter Try.func59, Try.ntmps59
    go_wp2
    have q2 := cell_bel k2
    have q3 := cell_bel k3
    refine wp_region_bel (by kernel_rfl) (by kernel_rfl) ?_
    repeat (first | go_big_quiet_step ((go_at_call 82; exact Calls.bel (hcall _))) | quiet_step ((go_at_call 82; exact Calls.bel (hcall _))))
    refine wpQuiet_nil ?_
    rintro _ ⟨⟨w2, hb2⟩, rfl⟩
    clear q2 q3
    go_wp2
    go_ret
    exact ⟨rfl, hb2⟩
set_option maxHeartbeats 1000000 in
theorem spec_SquareObject (A : Option Addr) (n c : Nat) (zss : List (List Int)) (w : World) (ha : RR w A n zss) (hn : n ≤ 1099511627776) (hr : cells zss ≤ 1099511627776) (_ : n ≤ c) (_ : c ≤ 9223372036854775807) :
    Calls Try.prog 35 #[.slice A n c] w (RetOC w (if tB (Square zss) then 1 else 0) (if tB (Square zss) then zss.length else 0) (if tB (Square zss) then zss else []) (if tB (Square zss) then 0 else 1)) := by
  have hla := ha.len
  have hb1 := below_alloc w (.cells #[.int .i64 0, .int .i64 0, .slice none 0 0] 25)
  cases hh : tB (Square zss) with
  | true =>
    rw [if_pos rfl, if_pos rfl, if_pos rfl, if_pos rfl]
    have hj := judgeSqr n zss w (by rw [hla])
    rw [hh] at hj
    subst hla
    clear hh
    go_enter Try.func35, Try.ntmps35
    go_wp2_with fail
    refine (l30Make_yes 1 _ A _ c zss _ (ha.keep hb1) hn hr (fun g A n c W hb => hj g A n c W (below_then hb1 hb))).mono ?_
    rintro e w2 ⟨A2, n2, c2, rfl, ho, hb⟩
    have R : Blk w2 w.heap.size 25 #[.int .i64 0, .int .i64 0, .slice none 0 0] := (Blk.new w 25 #[.int .i64 0, .int .i64 0, .slice none 0 0]).after hb
    have ho' : OR w2 (w.heap.size + 1) 51 2 A2 n2 c2 zss := by simpa using ho
    have hw := below_then hb1 hb
    clear ho hb ha hb1 hj
    obtain ⟨z0, z1, z2⟩ := R.cells3
    have f0 := R.frozen 0
    have f1 := R.frozen 1
    have f2 := R.frozen 2
    go_wp2
    refine bodyPost_ret (v := .tuple #[.agg #[.int .i64 1, .int .i64 zss.length, .slice A2 n2 c2], .int .i64 0]) (by simp [results, Try.results35, go_sem, z0, z1, z2]) rfl ⟨A2, n2, c2, rfl, ?_, ?_⟩
    · refine OR.more (B := w.heap.size + 1) ?_ (by omega)
      repeat (refine OR.setLow ?_ (by simp <;> omega) _)
      exact ho'
    · repeat (refine Below.setCell ?_ (by simp <;> omega) _)
      exact hw
  | false =>
    rw [if_neg (by simp), if_neg (by simp), if_neg (by simp), if_neg (by simp)]
    have hj := judgeSqr n zss w (by rw [hla])
    rw [hh] at hj
    subst hla
    clear hh
    go_enter Try.func35, Try.ntmps35
    go_wp2_with fail
    refine (l30Make_no 1 _ A _ c zss _ (ha.keep hb1) hn hr (fun g A n c W hb => hj g A n c W (below_then hb1 hb))).mono ?_
    rintro e w2 ⟨A2, n2, c2, rfl, ho, hb⟩
    have R : Blk w2 w.heap.size 25 #[.int .i64 0, .int .i64 0, .slice none 0 0] := (Blk.new w 25 #[.int .i64 0, .int .i64 0, .slice none 0 0]).after hb
    have ho' : OR w2 (w.heap.size + 1) 51 2 A2 n2 c2 [] := by simpa using ho
    have hw := below_then hb1 hb
    clear ho hb ha hb1 hj
    obtain ⟨z0, z1, z2⟩ := R.cells3
    have f0 := R.frozen 0
    have f1 := R.frozen 1
    have f2 := R.frozen 2
    go_wp2
    refine bodyPost_ret (v := .tuple #[.agg #[.int .i64 0, .int .i64 0, .slice A2 n2 c2], .int .i64 1]) (by simp [results, Try.results35, go_sem, z0, z1, z2]) rfl ⟨A2, n2, c2, rfl, ?_, ?_⟩
    · refine OR.more (B := w.heap.size + 1) ?_ (by omega)
      repeat (refine OR.setLow ?_ (by simp <;> omega) _)
      exact ho'
    · repeat (refine Below.setCell ?_ (by simp <;> omega) _)
      exact hw
set_option maxHeartbeats 1000000 in
theorem impl_SquareObject (A : Option Addr) (n c : Nat) (zss : List (List Int)) (w : World) (ha : RR w A n zss) (hn : n ≤ 1099511627776) (hr : cells zss ≤ 1099511627776) (_ : n ≤ c) (_ : c ≤ 9223372036854775807) :
    Calls Try.prog 36 #[.slice A n c] w (RetOC w (if tB (Square zss) then 1 else 0) (if tB (Square zss) then zss.length else 0) (if tB (Square zss) then zss else []) (if tB (Square zss) then 0 else 1)) := by
  have hla := ha.len
  have hb1 := below_alloc w (.cells #[.int .i64 0, .int .i64 0, .slice none 0 0] 25)
  have hv := validSquare_any A n c zss _ (ha.keep hb1) hn hr
  cases hh : tB (Square zss) with
  | true =>
    rw [hh] at hv
    rw [if_pos rfl, if_pos rfl, if_pos rfl, if_pos rfl]
    subst hla
    clear hh
    go_enter Try.func36, Try.ntmps36
    go_wp2_with fail
    refine hv.mono ?_
    rintro e w1 ⟨rfl, hb⟩
    have R : Blk w1 w.heap.size 25 #[.int .i64 0, .int .i64 0, .slice none 0 0] := (Blk.new w 25 #[.int .i64 0, .int .i64 0, .slice none 0 0]).after hb
    have hw := below_then hb1 hb
    have z := hb.size
    simp at z
    clear hb hb1 hv
    go_wp2_with (go_at_call 42; refine (sizeR_any _ _ _ _ (by omega)).mono ?_; rintro e w' ⟨rfl, rfl⟩)
    refine (copyObject_any 1 _ A _ c zss _ (ha.keep hw) hn hr).mono ?_
    rintro e w2 ⟨A2, n2, c2, rfl, ho, hb⟩
    have R2 := R.after hb
    have ho' : OR w2 (w.heap.size + 1) 51 2 A2 n2 c2 zss := ho.more z
    have hw2 := below_then hw hb
    clear ho hb ha hw R
    obtain ⟨z0, z1, z2⟩ := R2.cells3
    have f0 := R2.frozen 0
    have f1 := R2.frozen 1
    have f2 := R2.frozen 2
    go_wp2
    refine bodyPost_ret (v := .tuple #[.agg #[.int .i64 1, .int .i64 zss.length, .slice A2 n2 c2], .int .i64 0]) (by simp [results, Try.results36, go_sem, z0, z1, z2]) rfl ⟨A2, n2, c2, rfl, ?_, ?_⟩
    · refine OR.more (B := w.heap.size + 1) ?_ (by omega)
      repeat (refine OR.setLow ?_ (by simp <;> omega) _)
      exact ho'
    · repeat (refine Below.setCell ?_ (by simp <;> omega) _)
      exact hw2
  | false =>
    rw [hh] at hv
    rw [if_neg (by simp), if_neg (by simp), if_neg (by simp), if_neg (by simp)]
    subst hla
    clear hh
    go_enter Try.func36, Try.ntmps36
    go_wp2_with fail
    refine hv.mono ?_
    rintro e w1 ⟨rfl, hb⟩
    have R : Blk w1 w.heap.size 25 #[.int .i64 0, .int .i64 0, .slice none 0 0] := (Blk.new w 25 #[.int .i64 0, .int .i64 0, .slice none 0 0]).after hb
    have hw := below_then hb1 hb
    clear hb ha hb1 hv
    obtain ⟨z0, z1, z2⟩ := R.cells3
    have f0 := R.frozen 0
    have f1 := R.frozen 1
    have f2 := R.frozen 2
    go_wp2
    refine bodyPost_ret (v := .tuple #[.agg #[.int .i64 0, .int .i64 0, .slice none 0 0], .int .i64 1]) (by simp [results, Try.results36, go_sem, z0, z1, z2]) rfl ⟨none, 0, 0, rfl, OR.nil_ _ _ (by decide), ?_⟩
    repeat (refine Below.setCell ?_ (by simp <;> omega) _)
    exact hw

set_option maxRecDepth 100000 in
set_option maxHeartbeats 2000000 in
theorem law_SquareObject_ok (A : Option Addr) (n c : Nat) (zss : List (List Int)) (w : World) (ha : RR w A n zss) (hn : n ≤ c) (hc : c ≤ 9223372036854775807) (hs : (bulk zss : Int) ≤ 1048576)
    (K S C : Int) (Z : List (List Int)) (hz : Z.length ≤ 1048576 ∧ cells Z ≤ 1048576)
    (hspec : ∀ (A : Option Addr) (n c : Nat) (w : World), RR w A n zss → n ≤ 1099511627776 → n ≤ c → c ≤ 9223372036854775807 → Calls Try.prog 35 #[.slice A n c] w (RetOC w K S Z C))
    (himpl : ∀ (A : Option Addr) (n c : Nat) (w : World), RR w A n zss → n ≤ 1099511627776 → n ≤ c → c ≤ 9223372036854775807 → Calls Try.prog 36 #[.slice A n c] w (RetOC w K S Z C)) :
    Calls Try.prog 7 #[.slice A n c] w fun e w' => e = .returned (.bool true) ∧ Below w.heap.size w w' := by
  have hla := Lib.hid ha.len
  have hbc := bulk_cells zss
  obtain ⟨bz1, bz2⟩ : n ≤ 1048576 ∧ cells zss ≤ 1048576 := by have := hla.out; omega
  have hlens : lens zss n ≤ 1099511627776 := by have := bulk_eq ha; omega
  have E1 := Lib.hid (show szF 1048576 (bulk zss) = 1048576 - bulk zss by simp [szF, hs])
  obtain ⟨hz1, hz2⟩ := hz
  have hbp : (0 : Int) ≤ 1048576 - bulk zss := by omega
  clear hbc
  generalize hbk : (1048576 - (bulk zss : Int)) = bk at *
  have HB := Lib.hid hbk; clear hbk
  go_enter Try.func7, Try.ntmps7
  go_wp2_with (go_at_call 8; refine (szInt64SS_any _ _ _ _ zss _ ha (by omega) (by omega) (by omega)).mono ?_; rintro e w' ⟨rfl, rfl⟩; rw [E1.out])
  refine (toInt64SS_any A n c zss _ ha (by omega) hlens).mono ?_
  rintro e w1 ⟨A1, n1, c1, rfl, ho1, hb1⟩
  have k1 : n1 ≤ 1048576 := by have := ho1.len; have := hla.out; omega
  go_wp2_with fail
  refine (hspec A1 n1 c1 _ ho1.reads (by omega) ho1.os_cap.1 ho1.os_cap.2).mono ?_
  rintro e w2 ⟨A2, n2, c2, rfl, ho2, hb2⟩
  have bw2 := hb1.trans (hb2.mono hb1.size)
  have r2 := ho2.reads
  have k2 : n2 ≤ 1048576 := by have := ho2.len; omega
  have x4 := Blk.new w2 25 #[.int .i64 K, .int .i64 S, .slice A2 n2 c2]
  have b2 := below_alloc w2 (.cells #[.int .i64 K, .int .i64 S, .slice A2 n2 c2] 25)
  clear ho1 hb1 ho2 hb2
  go_wp2_with fail
  refine (toInt64SS_any A n c zss _ (ha.keep (bw2.trans (b2.mono bw2.size))) (by omega) hlens).mono ?_
  rintro e w3 ⟨A3, n3, c3, rfl, ho3, hb3⟩
  have k3 : n3 ≤ 1048576 := by have := ho3.len; have := hla.out; omega
  have k3' := ho3.os_cap
  have od3 := ho3.bound
  have e3 : (w2.alloc (.cells #[.int .i64 K, .int .i64 S, .slice A2 n2 c2] 25)).heap.size = w2.heap.size + 1 := by simp
  rw [e3] at od3
  have b3 := b2.trans (hb3.mono b2.size)
  have x4' := x4.after hb3
  have z3 := hb3.size
  rw [e3] at z3
  clear ho3 hb3 x4 b2 e3
  go_wp2_with fail
  refine (himpl A3 n3 c3 _ od3.reads (by omega) k3'.1 k3'.2).mono ?_
  rintro e w4 ⟨A4, n4, c4, rfl, ho4, hb4⟩
  have k4 : n4 ≤ 1048576 := by have := ho4.len; omega
  have od4 := ho4.bound
  have b4 := b3.trans (hb4.mono b3.size)
  have x4 := x4'.after hb4
  have o3 := od3.below hb4
  have z4 := hb4.size
  have L0 : LSt w w2 (w4.alloc (.cells #[.int .i64 K, .int .i64 S, .slice A4 n4 c4] 25)) 25 K S Z Z w2.heap.size w4.heap.size w3.heap.size w4.heap.size A2 A4 n2 c2 n4 c4 :=
    ⟨bw2, b4.trans ((below_alloc _ _).mono b4.size), r2, x4.alloc _, Blk.new _ _ _, od4.below (below_alloc _ _), by omega⟩
  have o3' := o3.below (below_alloc w4 (.cells #[.int .i64 K, .int .i64 S, .slice A4 n4 c4] 25))
  clear ho4 hb4 od4 od3 b4 b3 x4 x4' o3 bw2 r2
  obtain ⟨q1, q2⟩ := L0.cells
  go_wp2_with fail
  refine (eqObject_same K S A4 A2 n4 n2 c4 c2 Z _ L0.o4.reads L0.rd (by omega) (by omega)).mono ?_
  rintro e w5 ⟨rfl, hb5⟩
  have L1 := L0.step hb5
  have o5 := o3'.below hb5
  clear L0 o3' hb5 q1 q2
  go_wp2_with fail
  refine (toInt64SS_any A n c zss _ (ha.keep L1.below) (by omega) hlens).mono ?_
  rintro e w6 ⟨A6, n6, c6, rfl, ho6, hb6⟩
  have k6 : n6 ≤ 1048576 := by have := ho6.len; have := hla.out; omega
  have L2 := L1.step hb6
  have o6 := o5.below hb6
  clear L1 hb6 o5
  go_wp2_with fail
  refine (eqInt64SS_any A3 A6 n3 n6 c3 c6 zss zss _ o6.reads ho6.reads (by omega) (by omega)).mono ?_
  rintro e w7 ⟨rfl, hd7⟩
  rw [show decide (zss = zss) = true from by simp]
  have L3 := L2.step hd7.below
  have o7 := o6.below hd7.below
  clear L2 o6 hd7 ho6
  go_wp2_with fail
  refine (markInt64SS_any _ _ _ _ A3 n3 c3 1 zss _ o7 (by omega) (by omega)).mono ?_
  rintro e w8 ⟨rfl, _, hm8⟩
  have L4 := L3.mid hm8 (by omega) (by omega) (by omega) (by omega)
  clear L3 o7 hm8
  obtain ⟨q1, q2⟩ := L4.cells
  go_wp2_with fail
  refine (eqObject_same K S A4 A2 n4 n2 c4 c2 Z _ L4.o4.reads L4.rd (by omega) (by omega)).mono ?_
  rintro e w9 ⟨rfl, hb9⟩
  have L5 := L4.step hb9
  clear L4 hb9 q1 q2
  obtain ⟨q1, q2⟩ := L5.cells
  go_wp2_with fail
  refine (markObject_any K S _ _ A4 n4 c4 1 Z _ L5.o4 (by omega) (by omega)).mono ?_
  rintro e w10 ⟨rfl, ho10, hm10⟩
  have L6 := L5.marked hm10 ho10 (by omega) (by omega)
  clear L5 ho10 hm10 q1 q2
  obtain ⟨q1, q2⟩ := L6.cells
  go_wp2_with fail
  refine (heldObject_any K S A4 n4 c4 1 Z _ L6.o4.reads (by omega) (by omega)).mono ?_
  rintro e w11 ⟨rfl, hb11⟩
  have L7 := L6.step hb11
  clear L6 hb11 q1 q2
  go_wp2_with fail
  refine (toInt64SS_any A n c zss _ (ha.keep L7.below) (by omega) hlens).mono ?_
  rintro e w12 ⟨A12, n12, c12, rfl, ho12, hb12⟩
  have k12 : n12 ≤ 1048576 := by have := ho12.len; have := hla.out; omega
  have L8 := L7.step hb12
  clear L7 hb12
  go_wp2_with fail
  refine (himpl A12 n12 c12 _ ho12.reads (by omega) ho12.os_cap.1 ho12.os_cap.2).mono ?_
  rintro e w13 ⟨A13, n13, c13, rfl, ho13, hb13⟩
  have k13 : n13 ≤ 1048576 := by have := ho13.len; omega
  have L9 := (L8.step hb13).step (below_alloc w13 (.cells #[.int .i64 K, .int .i64 S, .slice A13 n13 c13] 25))
  have X13 := (Blk.new w13 25 #[.int .i64 K, .int .i64 S, .slice A13 n13 c13]).cells3
  have r13 := ho13.reads.keep (below_alloc w13 (.cells #[.int .i64 K, .int .i64 S, .slice A13 n13 c13] 25))
  clear L8 hb13 ho13 ho12
  obtain ⟨q1, q2⟩ := L9.cells
  go_wp2_with fail
  refine (eqObject_same K S A13 A2 n13 n2 c13 c2 Z _ r13 L9.rd (by omega) (by omega)).mono ?_
  rintro e w14 ⟨rfl, hb14⟩
  have L10 := L9.step hb14
  clear L9 hb14 q1 q2 X13 r13
  obtain ⟨q1, q2⟩ := L10.cells
  go_wp2_with fail
  refine (heldObject_any K S A4 n4 c4 1 Z _ L10.o4.reads (by omega) (by omega)).mono ?_
  rintro e w15 ⟨rfl, hb15⟩
  have L11 := L10.step hb15
  clear L10 hb15 q1 q2
  go_wp2_with fail
  go_ret
  exact ⟨rfl, L11.below⟩

set_option maxHeartbeats 1000000 in
theorem law_SquareObject (A : Option Addr) (n c : Nat) (zss : List (List Int)) (w : World) (ha : RR w A n zss) (hn : n ≤ c) (hc : c ≤ 9223372036854775807) :
    Calls Try.prog 7 #[.slice A n c] w fun e w' => e = .returned (.bool true) ∧ Below w.heap.size w w' := by
  by_cases hs : (bulk zss : Int) ≤ 1048576
  · have hbc := bulk_cells zss
    exact law_SquareObject_ok A n c zss w ha hn hc hs (if tB (Square zss) then 1 else 0) (if tB (Square zss) then zss.length else 0) (if tB (Square zss) then 0 else 1) (if tB (Square zss) then zss else []) (by cases tB (Square zss) <;> simp [cells_nil] <;> omega)
      (fun A' n' c' w' ha' h1 h2 h3 => spec_SquareObject A' n' c' zss w' ha' h1 (by omega) h2 h3) (fun A' n' c' w' ha' h1 h2 h3 => impl_SquareObject A' n' c' zss w' ha' h1 (by omega) h2 h3)
  · have E1 := Lib.hid (show szF 1048576 (bulk zss) = -1 by simp [szF, hs])
    clear hs
    go_enter Try.func7, Try.ntmps7
    go_wp2_with (go_at_call 8; refine (szInt64SS_any _ _ _ _ zss _ ha (by omega) (by omega) (by omega)).mono ?_; rintro e w' ⟨rfl, rfl⟩; rw [E1.out])
    go_ret
    exact ⟨rfl, Below.refl _ _⟩
end Go.Proofs.Ytainkgckahcdnaa
