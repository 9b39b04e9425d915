/- The admissible orders: the law that draws its input. No condition beyond those stated. -/
import Derived.Test.YtjhheemppoeecaaCondL
import Derived.Test.YtjhheemppoeecaaB10
import Derived.Test.YtjhheemppoeecaaSrc
import Derived.Test.YtjhheemppoeecaaBel
namespace Go.Proofs.Ytjhheemppoeecaa
open Go.RowKit

/-- a source's state, behind more calls: what was before is as it was -/
structure SrcAt (w w' : World) (g p : Nat) : Prop where
  src : Src w' g p
  gl : w.heap.size ≤ g
  below : Below w.heap.size w w'
theorem SrcAt.next {w w' w'' : World} {g p q : Nat} (h : SrcAt w w' g p) (hs : Src w'' g q) (hg : w'.grownBy w'' (some g)) : SrcAt w w'' g q :=
  ⟨hs, h.gl, h.below.grown hg h.below.size (fun b hb => by injection hb with hb; rw [← hb]; exact h.gl)⟩
theorem SrcAt.step {w w' w'' : World} {g p : Nat} (h : SrcAt w w' g p) (hb : Below w'.heap.size w' w'') : SrcAt w w'' g p := ⟨h.src.below hb, h.gl, h.below.trans (hb.mono h.below.size)⟩
theorem lit4 (w : World) (t : TypeId) (a b c d : Int) (ha : I64 a) (hb : I64 b) (hc : I64 c) (hd : I64 d) : RI (w.alloc (.cells #[.int .i64 a, .int .i64 b, .int .i64 c, .int .i64 d] t)) (some ⟨w.heap.size, 0, none⟩) 4 [a, b, c, d] :=
  RS.lit (E := EInt) (Value.int .i64) w t [a, b, c, d] fun x hx => ⟨rfl, by simp at hx; rcases hx with rfl | rfl | rfl | rfl <;> assumption⟩
theorem lit3 (w : World) (t : TypeId) (a b c : Int) (ha : I64 a) (hb : I64 b) (hc : I64 c) : RI (w.alloc (.cells #[.int .i64 a, .int .i64 b, .int .i64 c] t)) (some ⟨w.heap.size, 0, none⟩) 3 [a, b, c] :=
  RS.lit (E := EInt) (Value.int .i64) w t [a, b, c] fun x hx => ⟨rfl, by simp at hx; rcases hx with rfl | rfl | rfl <;> assumption⟩
/-- three numbers of moderate size -/
def RetAdm (w : World) (e : Ending) (w' : World) : Prop := ∃ k l m : Int, e = .returned (.tuple #[.int .i64 k, .int .i64 l, .int .i64 m]) ∧ (0 ≤ k ∧ k ≤ 1001) ∧ (0 ≤ l ∧ l ≤ 1001) ∧ (0 ≤ m ∧ m ≤ 1001) ∧ Below w.heap.size w w'
set_option maxRecDepth 100000 in
set_option maxHeartbeats 2000000 in
theorem drawAdm_any (A : Option Addr) (n c : Nat) (bs : List Int) (w : World) (ha : RS EByte w A n bs) (hn : n ≤ 9223372036854775807) :
    Calls Try.prog 15 #[.slice A n c] w (RetAdm w) := by
  go_enter Try.func15, Try.ntmps15
  go_wp2_with fail
  refine (l00From_any A n c bs w ha hn).mono ?_
  rintro e w1 ⟨rfl, hs, hb⟩
  have S1 : SrcAt w w1 w.heap.size 0 := ⟨hs, Nat.le_refl _, hb⟩
  clear hs hb
  generalize w.heap.size = g at *
  go_wp2_with fail
  refine (pick_any g 0 8 _ S1.src (by omega) (by omega) (by omega)).mono ?_
  rintro e w2 ⟨k, p2, rfl, k0, k1, hp2, hs2, hg2⟩
  have S2 := S1.next hs2 hg2
  clear S1 hs2 hg2
  go_wp2_with fail
  refine (pick_any g p2 4 _ S2.src (by omega) (by omega) (by omega)).mono ?_
  rintro e w3 ⟨l, p3, rfl, l0, l1, hp3, hs3, hg3⟩
  have S3 := S2.next hs3 hg3
  clear S2 hs3 hg3
  go_wp2_with fail
  refine (pick_any g p3 90 _ S3.src (by omega) (by omega) (by omega)).mono ?_
  rintro e w4 ⟨m, p4, rfl, m0, m1, hp4, hs4, hg4⟩
  have S4 := S3.next hs4 hg4
  clear S3 hs4 hg4
  go_wp2_with fail
  refine (pick_any g p4 8 _ S4.src (by omega) (by omega) (by omega)).mono ?_
  rintro e w5 ⟨x, p5, rfl, x0, x1, hp5, hs5, hg5⟩
  have S5 := S4.next hs5 hg5
  clear S4 hs5 hg5
  by_cases e0 : x = 0
  · have q0 : (x == 0) = true := by simp [e0]
    clear e0
    have R := lit4 w5 2 (1) (1000) (1001) (20) ⟨by omega, by omega⟩ ⟨by omega, by omega⟩ ⟨by omega, by omega⟩ ⟨by omega, by omega⟩
    have T5 := S5.step (below_alloc w5 (.cells #[.int .i64 1, .int .i64 1000, .int .i64 1001, .int .i64 20] 2))
    have hgs := S5.src.lt
    have ham := among_any g p5 _ 4 4 _ _ T5.src (by omega) R (fun a ha => by cases ha; show w5.heap.size ≠ g; omega) (by omega) (by omega)
    go_wp2_with fail
    refine ham.mono ?_
    rintro e w6 ⟨y, p6, rfl, hy, hp6, hs6, hg6⟩
    have S6 := T5.next hs6 hg6
    have HY := Lib.hid (show 0 ≤ y ∧ y ≤ 1001 by simp at hy; omega)
    clear hy ham
    go_wp2
    go_ret3
    exact ⟨y, l + 1, m + 1, rfl, HY.out, ⟨by omega, by omega⟩, ⟨by omega, by omega⟩, S6.below⟩
  have q0 : (x == 0) = false := by simp [e0]
  by_cases e1 : x = 1
  · have q1 : (x == 1) = true := by simp [e1]
    clear e0 e1
    have R := lit3 w5 2 (0) (1000) (1001) ⟨by omega, by omega⟩ ⟨by omega, by omega⟩ ⟨by omega, by omega⟩
    have T5 := S5.step (below_alloc w5 (.cells #[.int .i64 0, .int .i64 1000, .int .i64 1001] 2))
    have hgs := S5.src.lt
    have ham := among_any g p5 _ 3 3 _ _ T5.src (by omega) R (fun a ha => by cases ha; show w5.heap.size ≠ g; omega) (by omega) (by omega)
    go_wp2_with fail
    refine ham.mono ?_
    rintro e w6 ⟨y, p6, rfl, hy, hp6, hs6, hg6⟩
    have S6 := T5.next hs6 hg6
    have HY := Lib.hid (show 0 ≤ y ∧ y ≤ 1001 by simp at hy; omega)
    clear hy ham
    go_wp2
    go_ret3
    exact ⟨k + 2, y, m + 1, rfl, ⟨by omega, by omega⟩, HY.out, ⟨by omega, by omega⟩, S6.below⟩
  have q1 : (x == 1) = false := by simp [e1]
  by_cases e2 : x = 2
  · have q2 : (x == 2) = true := by simp [e2]
    clear e0 e1 e2
    have R := lit3 w5 2 (0) (1001) (400) ⟨by omega, by omega⟩ ⟨by omega, by omega⟩ ⟨by omega, by omega⟩
    have T5 := S5.step (below_alloc w5 (.cells #[.int .i64 0, .int .i64 1001, .int .i64 400] 2))
    have hgs := S5.src.lt
    have ham := among_any g p5 _ 3 3 _ _ T5.src (by omega) R (fun a ha => by cases ha; show w5.heap.size ≠ g; omega) (by omega) (by omega)
    go_wp2_with fail
    refine ham.mono ?_
    rintro e w6 ⟨y, p6, rfl, hy, hp6, hs6, hg6⟩
    have S6 := T5.next hs6 hg6
    have HY := Lib.hid (show 0 ≤ y ∧ y ≤ 1001 by simp at hy; omega)
    clear hy ham
    go_wp2
    go_ret3
    exact ⟨k + 2, l + 1, y, rfl, ⟨by omega, by omega⟩, ⟨by omega, by omega⟩, HY.out, S6.below⟩
  have q2 : (x == 2) = false := by simp [e2]
  clear e0 e1 e2
  go_wp2
  go_ret3
  exact ⟨k + 2, l + 1, m + 1, rfl, ⟨by omega, by omega⟩, ⟨by omega, by omega⟩, ⟨by omega, by omega⟩, S5.below⟩
theorem ordsTo_mem (k l : Int) (j : Nat) (x : Int) : x ∈ ordsTo k l j ↔ ∃ t : Nat, t < j ∧ x = k + 1 + t ∧ poss x k l = true := by
  induction j with
  | zero => simp [ordsTo]
  | succ j ih =>
    rw [ordsTo, List.mem_append, ih]
    constructor
    · rintro (⟨t, h1, h2, h3⟩ | h)
      · exact ⟨t, by omega, h2, h3⟩
      · split at h
        · rename_i hp
          rw [List.mem_singleton] at h
          exact ⟨j, by omega, h, by rw [h]; exact hp⟩
        · cases h
    · rintro ⟨t, h1, h2, h3⟩
      by_cases e : t = j
      · right
        subst e
        rw [if_pos (by rw [← h2]; exact h3)]
        exact List.mem_singleton.2 h2
      · exact .inl ⟨t, by omega, h2, h3⟩
theorem ordsTo_up (k l : Int) (j : Nat) : (ordsTo k l j).Pairwise fun x y => x < y := by
  induction j with
  | zero => simp [ordsTo]
  | succ j ih =>
    rw [ordsTo, List.pairwise_append]
    refine ⟨ih, by split <;> simp, fun x hx y hy => ?_⟩
    obtain ⟨t, h1, h2, -⟩ := (ordsTo_mem k l j x).1 hx
    split at hy
    · rw [List.mem_singleton] at hy
      omega
    · cases hy
theorem ords_has {k l m : Int} {t : Int} (h0 : 0 ≤ t) : hasB (ords k l m) (k + 1 + t) = (decide (k + 1 + t ≤ m) && poss (k + 1 + t) k l) := by
  unfold hasB
  rw [Bool.eq_iff_iff, List.contains_iff_mem, ords, ordsTo_mem, Bool.and_eq_true, decide_eq_true_eq]
  constructor
  · rintro ⟨u, h1, h2, h3⟩
    exact ⟨by omega, h3⟩
  · rintro ⟨h1, h2⟩
    exact ⟨t.toNat, by omega, by omega, h2⟩
theorem ords_at {k l m : Int} {j : Nat} (h : j < (ords k l m).length) : k < nth (ords k l m) j ∧ nth (ords k l m) j ≤ m ∧ poss (nth (ords k l m) j) k l = true := by
  have hm : nth (ords k l m) j ∈ ords k l m := by rw [nth_get h]; exact List.getElem_mem h
  obtain ⟨t, h1, h2, h3⟩ := (ordsTo_mem k l _ _).1 hm
  exact ⟨by omega, by omega, h3⟩
theorem ords_up {k l m : Int} {j : Nat} (h : j + 1 < (ords k l m).length) : nth (ords k l m) j < nth (ords k l m) (j + 1) := by
  rw [nth_get (by omega), nth_get h]
  unfold ords at h ⊢
  exact List.pairwise_iff_getElem.1 (ordsTo_up k l _) j (j + 1) (by omega) h (by omega)
theorem ordC_cases (k l m : Int) : (ordC k l m = 0 ∧ ordL k l m = ords k l m) ∨ (ordC k l m = 2 ∧ ordL k l m = []) := by
  unfold ordC ordL
  split
  · exact .inl ⟨rfl, rfl⟩
  · exact .inr ⟨rfl, rfl⟩
set_option maxRecDepth 100000 in
set_option maxHeartbeats 4000000 in
theorem law_Admissible_ok (A : Option Addr) (n c : Nat) (zs : List Int) (B : Option Addr) (m d : Nat) (ys : List Int) (w : World) (ha : RS EByte w A n zs) (hb : RS EByte w B m ys) (hn : n ≤ 1048576) (hm : m ≤ 1048576) :
    Calls Try.prog 5 #[.slice A n c, .slice B m d] w fun e w' => e = .returned (.bool true) ∧ Below w.heap.size w w' := by
  go_enter Try.func5, Try.ntmps5
  go_wp2_with fail
  refine (b10Long_no A n c _ hn).mono ?_
  rintro e w' ⟨rfl, rfl⟩
  go_wp2_with fail
  refine (b10Long_no B m d _ hm).mono ?_
  rintro e w' ⟨rfl, rfl⟩
  go_wp2_with fail
  refine (drawAdm_any A n c zs w ha (by omega)).mono ?_
  rintro e w1 ⟨k, l, mo, rfl, ⟨k0, k1⟩, ⟨l0, l1⟩, ⟨m0, m1⟩, hb1⟩
  go_wp2_with fail
  refine (impl_AdmissibleOrders k l mo w1).mono ?_
  rintro e w2 ⟨L, ln, lc, rfl, ho, hb2⟩
  have hw2 := hb1.trans (hb2.mono hb1.size)
  have hlen := Lib.hid ho.len
  have hln : ln ≤ 1000 := by have := AdmissibleOrders_len k l mo; have := ho.len; omega
  have hri := ho.reads
  have hbr := EBytes.keep hb hw2
  clear ho hb2
  rcases ordC_cases k l mo with ⟨hC, hL⟩ | ⟨hC, hL⟩
  · rw [hL] at hri hlen
    rw [hC]
    clear hL hC
    go_wp2
    go_loopw [10] (fun i wr => ∃ j : Nat, j ≤ ln ∧ i = .int .i64 j ∧ Below w2.heap.size w2 wr) (fun i _ => ln - (intOf i).toNat)
    case atStart => exact ⟨0, Nat.zero_le _, rfl, Below.refl _ _⟩
    case round =>
      obtain ⟨j, hj, rfl, hw⟩ := hrel
      by_cases hlt : j < ln
      · obtain ⟨a, rfl, hca, hia⟩ := (hri.keep hw).get hlt
        obtain ⟨a1, a2, a3⟩ := ords_at (k := k) (l := l) (m := mo) (j := j) (by rw [hlen.out]; exact hlt)
        have HU := Lib.hid (fun (h0 : 0 < j) => show nth (ords k l mo) (j - 1) < nth (ords k l mo) j from by
          have := ords_up (k := k) (l := l) (m := mo) (j := j - 1) (by rw [hlen.out]; omega)
          rwa [show j - 1 + 1 = j by omega] at this)
        have HP := Lib.hid (fun (h0 : 0 < j) => show wr.cell? (a.add (j - 1)) = some (.int .i64 (nth (ords k l mo) (j - 1))) from by
          obtain ⟨b, e, hcb, -⟩ := (hri.keep hw).get (k := j - 1) (by omega)
          cases e
          exact hcb)
        have hd1 : decide (nth (ords k l mo) j ≤ k) = false := by simp; omega
        have hd2 : decide (mo < nth (ords k l mo) j) = false := by simp; omega
        have q0 := cell_bel hca
        generalize nth (ords k l mo) j = y at *
        have hcall : ∀ p : Bel wr, Calls Try.prog 17 #[.int .i64 y, .int .i64 k, .int .i64 l] p.w fun e w' => e = .returned (.bool true) ∧ Below p.w.heap.size p.w w' := fun p => by
          have := impl_IsPossible y k l p.w
          rwa [a3] at this
        by_cases h0 : 0 < j
        · have hu := HU.out h0
          have q1 := cell_bel (HP.out h0)
          generalize nth (ords k l mo) (j - 1) = x at *
          have hd3 : decide (y ≤ x) = false := by simp; omega
          have e1 : IntKind.i64.wrap ((j : Int) - 1) = (j : Int) - 1 := IntWalk.i64_in _ (by omega)
          have e2 : ((j : Int) - 1).toNat = j - 1 := by omega
          have e3 : (0 : Int) ≤ (j : Int) - 1 := by omega
          have d4 : decide ((0 : Int) < (j : Int)) = true := by simp; omega
          have d4a : decide (0 < j) = true := by simp; omega
          clear a1 a2 hca hu HU HP
          go_wp2
          refine wp_region_bel (by kernel_rfl) (by kernel_rfl) ?_
          repeat (first | go_big_quiet_step (((go_at_call 17; exact Calls.bel (hcall _)))) | quiet_step (((go_at_call 17; exact Calls.bel (hcall _)))))
          refine wpQuiet_nil ?_
          rintro _ ⟨⟨w3, hb3⟩, rfl⟩
          clear q0 q1 e1 e2 e3 d4 d4a hcall
          go_wp2
          go_roundw
          case rel => exact ⟨j + 1, by omega, by go_num, hw.trans (hb3.mono hw.size)⟩
          case measure => simp [intOf]; omega
        · have d4 : decide ((0 : Int) < (j : Int)) = false := by simp; omega
          have d4a : decide (0 < j) = false := by simp; omega
          clear a1 a2 hca HU HP h0
          go_wp2
          refine wp_region_bel (by kernel_rfl) (by kernel_rfl) ?_
          repeat (first | go_big_quiet_step (((go_at_call 17; exact Calls.bel (hcall _)))) | quiet_step (((go_at_call 17; exact Calls.bel (hcall _)))))
          refine wpQuiet_nil ?_
          rintro _ ⟨⟨w3, hb3⟩, rfl⟩
          clear q0 d4 d4a hcall
          go_wp2
          go_roundw
          case rel => exact ⟨j + 1, by omega, by go_num, hw.trans (hb3.mono hw.size)⟩
          case measure => simp [intOf]; omega
      · obtain ⟨t0, t1⟩ := atP_bd (zs := ys) (i := 0) (k := 200) (by omega)
        have hat : ∀ W : World, Below w2.heap.size w2 W → Calls Try.prog 12 #[.slice B m d, .int .i64 0, .int .i64 200] W fun e w' => e = .returned (.int .i64 (atP ys 0 200)) ∧ W = w' := fun W hb => b10At_any B m d ys 0 200 W (EBytes.keep hbr hb) (by omega) (by omega) (by omega)
        have HA := Lib.hid (ords_has (k := k) (l := l) (m := mo) t0)
        generalize atP ys 0 200 = t at *
        go_wp2_with fail
        refine (hat _ hw).mono ?_
        rintro e w' ⟨rfl, rfl⟩
        have hr := hri.keep hw
        clear hat
        go_wp2_with fail
        refine (b10Has_any L ln lc _ _ wr hr (by omega)).mono ?_
        rintro e w' ⟨rfl, rfl⟩
        rw [HA.out]
        have hww := hw2.trans (hw.mono hw2.size)
        by_cases hv : k + 1 + t ≤ mo
        · have hdv : decide (k + 1 + t ≤ mo) = true := by simp [hv]
          have hsp := spec_IsPossible (k + 1 + t) k l wr
          rw [hdv]
          go_wp2_with fail
          refine hsp.mono ?_
          rintro e w3 ⟨rfl, hb3⟩
          go_wp2
          go_ret
          exact ⟨by simp, hww.trans (hb3.mono hww.size)⟩
        · have hdv : decide (k + 1 + t ≤ mo) = false := by simp; omega
          rw [hdv]
          go_wp2
          go_ret
          exact ⟨by simp, hww⟩
  · rw [hL] at hlen
    rw [hC]
    have h0 : ln = 0 := by have := hlen.out; simpa using this.symm
    subst h0
    go_wp2
    go_ret
    exact ⟨rfl, hw2⟩
theorem law_Admissible (A : Option Addr) (n c : Nat) (zs : List Int) (B : Option Addr) (m d : Nat) (ys : List Int) (w : World) (ha : RS EByte w A n zs) (hn : n ≤ c) (hc : c ≤ 9223372036854775807) (hb : RS EByte w B m ys) (hm : m ≤ d) (hd : d ≤ 9223372036854775807) :
    Calls Try.prog 5 #[.slice A n c, .slice B m d] w fun e w' => e = .returned (.bool true) ∧ Below w.heap.size w w' := by
  by_cases h1 : n ≤ 1048576
  · by_cases h2 : m ≤ 1048576
    · exact law_Admissible_ok A n c zs B m d ys w ha hb h1 h2
    · go_enter Try.func5, Try.ntmps5
      go_wp2_with fail
      refine (b10Long_no A n c _ h1).mono ?_
      rintro e w' ⟨rfl, rfl⟩
      go_wp2_with fail
      refine (b10Long_yes B m d _ (by omega)).mono ?_
      rintro e w' ⟨rfl, rfl⟩
      go_wp2
      go_ret
      exact ⟨rfl, Below.refl _ _⟩
  · go_enter Try.func5, Try.ntmps5
    go_wp2_with fail
    refine (b10Long_yes A n c _ (by omega)).mono ?_
    rintro e w' ⟨rfl, rfl⟩
    go_wp2
    go_ret
    exact ⟨rfl, Below.refl _ _⟩
end Go.Proofs.Ytjhheemppoeecaa
