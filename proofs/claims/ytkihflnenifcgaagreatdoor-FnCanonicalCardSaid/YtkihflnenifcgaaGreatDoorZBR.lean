/- spec.l22DrawGraph, l22DrawBudget. No condition beyond those stated. -/
import Derived.Test.YtkihflnenifcgaaGreatDoorZBQ
set_option linter.unusedVariables false
set_option linter.unusedSimpArgs false
namespace Go.Proofs.YtkihflnenifcgaaGreatDoor
open Go.RowKit

theorem litS5 (w : World) (t : TypeId) (a b c d f : Int) (ha : I64 a) (hb : I64 b) (hc : I64 c) (hd : I64 d) (hf : I64 f) : RI (w.alloc (.cells #[.int .i64 a, .int .i64 b, .int .i64 c, .int .i64 d, .int .i64 f] t)) (some ⟨w.heap.size, 0, none⟩) 5 [a, b, c, d, f] :=
  RS.lit (E := EInt) (Value.int .i64) w t [a, b, c, d, f] fun x hx => ⟨rfl, by simp at hx; rcases hx with rfl | rfl | rfl | rfl | rfl <;> assumption⟩
/-- a drawn budget -/
def RetDB (w : World) (g : Nat) (e : Ending) (w' : World) : Prop := ∃ (b : Int) (q : Nat), e = .returned (.int .i64 b) ∧ I64 b ∧ SrW w w' g q
set_option maxRecDepth 100000 in
set_option maxHeartbeats 800000 in
theorem l22DrawBudget_any (g p : Nat) (w : World) (hs : Src w g p) (hp : p ≤ 562949953421312) :
    Calls Tryz.prog 19 #[.pointer (some ⟨g, 0, none⟩)] w (RetDB w g) := by
  have S := SrW.start hs
  clear hs
  go_enter Tryz.func19, Tryz.ntmps19
  go_wp2_with fail
  refine (pick_any g p 8 _ S.src (by omega) (by omega) (by omega)).mono ?_
  rintro e w1 ⟨x, q1, rfl, x0, x1, hq1, hs1, hg1⟩
  have S := S.next hs1 hg1
  clear hs1 hg1
  by_cases e0 : x = 0
  · have t0 : (x == 0) = true := by simp [e0]
    clear e0
    have L := litS5 w1 2 0 1 (-1) 20001 2 ⟨by omega, by omega⟩ ⟨by omega, by omega⟩ ⟨by omega, by omega⟩ ⟨by omega, by omega⟩ ⟨by omega, by omega⟩
    have hgs := S.src.lt
    have S := S.step (below_alloc w1 (.cells #[.int .i64 0, .int .i64 1, .int .i64 (-1), .int .i64 20001, .int .i64 2] 2))
    have ham := among_any g q1 _ 5 5 _ _ S.src (by omega) L (fun a ha => by cases ha; show w1.heap.size ≠ g; omega) (by omega) (by omega)
    clear L
    go_wp2_with fail
    refine ham.mono ?_
    rintro e w2 ⟨y, q2, rfl, hy, hq2, hs2, hg2⟩
    have S := S.next hs2 hg2
    have hN : I64 y := by unfold I64; simp at hy; omega
    clear hy ham hs2 hg2
    go_wp2
    go_ret
    exact ⟨y, q2, rfl, hN, S⟩
  have t0 : (x == 0) = false := by simp [e0]
  by_cases e1 : x = 1
  · have t1 : (x == 1) = true := by simp [e1]
    clear e0 e1
    go_wp2_with fail
    refine (pick_any g q1 20 _ S.src (by omega) (by omega) (by omega)).mono ?_
    rintro e w2 ⟨y, q2, rfl, y0, y1, hq2, hs2, hg2⟩
    have S := S.next hs2 hg2
    clear hs2 hg2
    go_wp2
    go_ret
    exact ⟨_, q2, rfl, ⟨by omega, by omega⟩, S⟩
  have t1 : (x == 1) = false := by simp [e1]
  clear e0 e1
  go_wp2_with fail
  refine (pick_any g q1 200 _ S.src (by omega) (by omega) (by omega)).mono ?_
  rintro e w2 ⟨y, q2, rfl, y0, y1, hq2, hs2, hg2⟩
  have S := S.next hs2 hg2
  clear hs2 hg2
  go_wp2
  go_ret
  exact ⟨_, q2, rfl, ⟨by omega, by omega⟩, S⟩
end Go.Proofs.YtkihflnenifcgaaGreatDoor
/- spec.l22DrawGraph. No condition beyond those stated. -/
namespace Go.Proofs.YtkihflnenifcgaaGreatDoor
open Go.RowKit

theorem DG.both {w0 wr : World} {g q rb gb : Nat} {A A' : Option Addr} {n c n' c' : Nat} {F F' : Option Addr} {m d m' d' : Nat} {cs cs' : List Int} {es es' : List Ed} (h : DG w0 wr g q rb gb A n c F m d cs es)
    (oa : OI wr w0.heap.size 2 A' n' c' cs') (of_ : OE wr w0.heap.size 65 F' m' d' es') :
    DG w0 ((wr.setCell ⟨gb, 0, none⟩ (.slice A' n' c')).setCell ⟨gb, 1, none⟩ (.slice F' m' d')) g q rb gb A' n' c' F' m' d' cs' es' :=
  (h.colors (World.grownBy.refl _ _) oa).edges0 (of_.kept grown_set (.inr fun e => OS.typed' of_.os h.x (by decide) e.symm))
theorem OI.short {w : World} {B : Nat} {e : TypeId} {A : Option Addr} {n c k : Nat} {zs : List Int} (h : OI w B e A n c zs) (hk : k ≤ n) (h0 : 0 < n) : OI w B e A k c (zs.take k) := by
  refine OI.of_os ?_ h.all
  have hl := h.len
  rcases h.os.cases with ⟨_, h1, _⟩ | ⟨g', cur, rfl, hB, hg, hnc, hc, hs, ht⟩
  · omega
  · refine ⟨by simp [ints]; omega, .inr ⟨g', c, cur, rfl, hB, hg, by omega, hc, hs, ?_⟩⟩
    rw [← ht, Nat.mul_one, Nat.mul_one, List.take_take, Nat.min_eq_left hk]
set_option maxRecDepth 100000 in
set_option maxHeartbeats 800000 in
theorem l22DrawGraph_any (g p : Nat) (w : World) (hs : Src w g p) (hp : p ≤ 140737488355328) :
    Calls Tryz.prog 18 #[.pointer (some ⟨g, 0, none⟩)] w (RetDG w g p 30000) := by
  have S0 := SrW.start hs
  have S := S0.step (below_alloc w (.cells #[.slice none 0 0, .slice none 0 0] 27))
  have R := Blk.new w 27 #[.slice none 0 0, .slice none 0 0]
  clear S0 hs
  go_enter Tryz.func18, Tryz.ntmps18
  go_wp2_with fail
  refine (pick_any g p 8 _ S.src (by omega) (by omega) (by omega)).mono ?_
  rintro e w1 ⟨N0, q1, rfl, n0, n1, hq1, hs1, hg1⟩
  have R := R.grown hg1 (fun e => by injection e with e; have := S.gl; omega)
  have S := S.next hs1 hg1
  clear hs1 hg1
  obtain ⟨N, rfl⟩ := Int.eq_ofNat_of_zero_le n0
  go_wp2_with fail
  refine (l21DrawSize_any g q1 N _ S.src (by omega) (by omega)).mono ?_
  rintro e w5 ⟨A, c, F, m, d, cs, es, q5, rfl, hoa, hoe, S5, hq5, hm⟩
  have hsz := S.size
  have D : DG w (w5.alloc (.cells #[.slice A N c, .slice F m d] 27)) g q5 w.heap.size w5.heap.size A N c F m d cs es :=
    ⟨(S.then_ S5).step (below_alloc w5 _), Blk.new w5 _ _, (S5_R R S S5).alloc _, (hoa.more hsz).alloc _, (hoe.more hsz).alloc _, by have := (S5_R R S S5).lt; omega, Nat.le_refl _, (S.then_ S5).size⟩
  clear R S S5 hoa hoe hsz
  go_wp2_with fail
  refine (one_any g q5 9 _ D.s.src (by omega) (by omega) (by omega)).mono ?_
  rintro e w6 ⟨b, q4, rfl, hq4, hs6, hg6⟩
  have D := D.draw hs6 hg6
  clear hs6 hg6
  generalize w5.heap.size = gb at *
  cases b with
  | false =>
    go_wp2_with fail
    refine (one_any g q4 6 _ D.s.src (by omega) (by omega) (by omega)).mono ?_
    rintro e w8 ⟨b2, q8, rfl, hq8, hs8, hg8⟩
    have D := D.draw hs8 hg8
    clear hs8 hg8
    cases b2 with
    | false =>
      obtain ⟨y0, y1⟩ := D.x.cells2
      obtain ⟨r0, r1⟩ := D.r.cells2
      have f0 := D.r.frozen 0
      have f1 := D.r.frozen 1
      have hD := D.done
      clear D
      go_wp2
      clear y0 y1 r0 r1
      obtain ⟨y0, y1⟩ := hD.2.2.2.cells2
      exact bodyPost_ret (v := .agg #[.slice A N c, .slice F m d]) (by simp [results, Tryz.results18, go_sem, y0, y1]) rfl ⟨_, _, _, _, _, _, _, _, _, rfl, hD.2.1, hD.2.2.1, hD.1, by omega, by omega, by omega⟩
    | true =>
      by_cases hN : 0 < N
      · go_wp2
        go_loopw [5] (fun i wr => ∃ (v q : Nat) (cs : List Int), v ≤ N ∧ i = .int .i64 v ∧ DG w wr g q w.heap.size gb A N c F m d cs es ∧ q ≤ p + 25000 + 2 * v) (fun i _ => N - (intOf i).toNat)
        case atStart => exact ⟨0, q8, cs, Nat.zero_le _, rfl, D, by omega⟩
        case round =>
          clear D
          obtain ⟨v, q, cs, hv, rfl, D, hq⟩ := hrel
          obtain ⟨z0, z1⟩ := D.x.cells2
          by_cases hlt : v < N
          · obtain ⟨ga, rfl, -, -, -⟩ := D.oa.cell hlt
            have HD := Lib.hid (D.step (below_drewn _ 1))
            have HC := Lib.hid (pick_any g q (N : Int) _ HD.out.s.src (by omega) (by omega) (by omega))
            clear D
            go_wp2
            clear z0 z1
            go_region_held_law (fun w' => w'.cell? ⟨gb, 0, none⟩ = some (.slice (some ⟨ga, 0, none⟩) N c))
              (first | exact HD.out.x.cells2.1 | exact D8.x.cells2.1 | exact D9.x.cells2.1)
              ((go_at_call 39; refine HC.out.mono ?_; rintro e w9 ⟨y, q9, rfl, y0, y1, hq9, hs9, hg9⟩; have D8 := HD.out.draw hs9 hg9; obtain ⟨ga', hga, cc, cf, -⟩ := D8.oa.cell hlt; cases hga; have D9 := D8.colorsIn (grown_set (g := ga) (p := v) (u := .int .i64 y)) (D8.oa.set v (u := y) ⟨by omega, by omega⟩)))
            clear HD HC D8 cc cf
            go_wp2
            go_roundw
            case rel => exact ⟨v + 1, q9, _, by omega, by go_num, D9, by omega⟩
            case measure => simp [intOf]; omega
          · clear z0 z1
            obtain ⟨y0, y1⟩ := D.x.cells2
            obtain ⟨r0, r1⟩ := D.r.cells2
            have f0 := D.r.frozen 0
            have f1 := D.r.frozen 1
            have hD := D.done
            clear D
            go_wp2
            clear y0 y1 r0 r1
            obtain ⟨y0, y1⟩ := hD.2.2.2.cells2
            exact bodyPost_ret (v := .agg #[.slice A N c, .slice F m d]) (by simp [results, Tryz.results18, go_sem, y0, y1]) rfl ⟨_, _, _, _, _, _, _, _, _, rfl, hD.2.1, hD.2.2.1, hD.1, by omega, by omega, by omega⟩
      · obtain ⟨y0, y1⟩ := D.x.cells2
        obtain ⟨r0, r1⟩ := D.r.cells2
        have f0 := D.r.frozen 0
        have f1 := D.r.frozen 1
        have hD := D.done
        clear D
        go_wp2
        clear y0 y1 r0 r1
        obtain ⟨y0, y1⟩ := hD.2.2.2.cells2
        exact bodyPost_ret (v := .agg #[.slice A N c, .slice F m d]) (by simp [results, Tryz.results18, go_sem, y0, y1]) rfl ⟨_, _, _, _, _, _, _, _, _, rfl, hD.2.1, hD.2.2.1, hD.1, by omega, by omega, by omega⟩
  | true =>
    have hq4' : q4 ≤ p + 10010 := by omega
    clear hq4 hq5 hq1
    go_wp2_with fail
    refine (l21Draw_any g q4 _ D.s.src (by omega)).mono ?_
    rintro e w7 ⟨A1, n2, c1, F1, m1, d1, cs1, es1, q7, rfl, hoa, hoe, S7, hq7, hn7, hm7⟩
    have hsz := D.s.size
    have D7 := D.draw S7.src S7.grown
    have oa1 := hoa.more hsz
    have of1 := hoe.more hsz
    obtain ⟨z0, z1⟩ := D7.x.cells2
    have v0 := D7.x.frozen 0
    have v1 := D7.x.frozen 1
    have D8 := D7.both oa1 of1
    clear D S7 hoa hoe hsz hm oa1 of1
    clear D7
    obtain ⟨z2, z3⟩ := D8.x.cells2
    by_cases hcut : 16 < n2
    · have v2 := D8.x.frozen 0
      obtain ⟨ga, rfl⟩ : ∃ ga, A1 = some ⟨ga, 0, none⟩ := by
        obtain ⟨gA, e, _⟩ := D8.oa.cell (k := 0) (by omega)
        exact ⟨gA, e⟩
      have hcap := D8.oa.os.cap
      have D := D8.colors (World.grownBy.refl _ _) (D8.oa.short (k := 9) (by omega) (by omega))
      obtain ⟨z4, z5⟩ := D.x.cells2
      clear D8
      have hq4 := hq4'
      go_wp2_with fail
      refine (one_any g q7 6 _ D.s.src (by omega) (by omega) (by omega)).mono ?_
      rintro e w8 ⟨b2, q8, rfl, hq8, hs8, hg8⟩
      have D := D.draw hs8 hg8
      clear hs8 hg8
      cases b2 with
      | false =>
        obtain ⟨y0, y1⟩ := D.x.cells2
        obtain ⟨r0, r1⟩ := D.r.cells2
        have f0 := D.r.frozen 0
        have f1 := D.r.frozen 1
        have hD := D.done
        clear D
        go_wp2
        clear y0 y1 r0 r1
        obtain ⟨y0, y1⟩ := hD.2.2.2.cells2
        exact bodyPost_ret (v := .agg #[.slice (some ⟨ga, 0, none⟩) 9 c1, .slice F1 m1 d1]) (by simp [results, Tryz.results18, go_sem, y0, y1]) rfl ⟨_, _, _, _, _, _, _, _, _, rfl, hD.2.1, hD.2.2.1, hD.1, by omega, by omega, by omega⟩
      | true =>
        by_cases hN : 0 < N
        · go_wp2
          go_loopw [5] (fun i wr => ∃ (v q : Nat) (cs : List Int), v ≤ 9 ∧ i = .int .i64 v ∧ DG w wr g q w.heap.size gb (some ⟨ga, 0, none⟩) 9 c1 F1 m1 d1 cs es1 ∧ q ≤ p + 25000 + 2 * v) (fun i _ => 9 - (intOf i).toNat)
          case atStart => exact ⟨0, q8, (cs1.take 9), Nat.zero_le _, rfl, D, by omega⟩
          case round =>
            clear D
            obtain ⟨v, q, cs, hv, rfl, D, hq⟩ := hrel
            obtain ⟨z0, z1⟩ := D.x.cells2
            by_cases hlt : v < 9
            · have HD := Lib.hid (D.step (below_drewn _ 1))
              have HC := Lib.hid (pick_any g q (N : Int) _ HD.out.s.src (by omega) (by omega) (by omega))
              clear D
              go_wp2
              clear z0 z1
              go_region_held_law (fun w' => w'.cell? ⟨gb, 0, none⟩ = some (.slice (some ⟨ga, 0, none⟩) 9 c1))
                (first | exact HD.out.x.cells2.1 | exact D8.x.cells2.1 | exact D9.x.cells2.1)
                ((go_at_call 39; refine HC.out.mono ?_; rintro e w9 ⟨y, q9, rfl, y0, y1, hq9, hs9, hg9⟩; have D8 := HD.out.draw hs9 hg9; obtain ⟨ga', hga, cc, cf, -⟩ := D8.oa.cell hlt; cases hga; have D9 := D8.colorsIn (grown_set (g := ga) (p := v) (u := .int .i64 y)) (D8.oa.set v (u := y) ⟨by omega, by omega⟩)))
              clear HD HC D8 cc cf
              go_wp2
              go_roundw
              case rel => exact ⟨v + 1, q9, _, by omega, by go_num, D9, by omega⟩
              case measure => simp [intOf]; omega
            · clear z0 z1
              obtain ⟨y0, y1⟩ := D.x.cells2
              obtain ⟨r0, r1⟩ := D.r.cells2
              have f0 := D.r.frozen 0
              have f1 := D.r.frozen 1
              have hD := D.done
              clear D
              go_wp2
              clear y0 y1 r0 r1
              obtain ⟨y0, y1⟩ := hD.2.2.2.cells2
              exact bodyPost_ret (v := .agg #[.slice (some ⟨ga, 0, none⟩) 9 c1, .slice F1 m1 d1]) (by simp [results, Tryz.results18, go_sem, y0, y1]) rfl ⟨_, _, _, _, _, _, _, _, _, rfl, hD.2.1, hD.2.2.1, hD.1, by omega, by omega, by omega⟩
        · obtain ⟨y0, y1⟩ := D.x.cells2
          obtain ⟨r0, r1⟩ := D.r.cells2
          have f0 := D.r.frozen 0
          have f1 := D.r.frozen 1
          have hD := D.done
          clear D
          go_wp2
          clear y0 y1 r0 r1
          obtain ⟨y0, y1⟩ := hD.2.2.2.cells2
          exact bodyPost_ret (v := .agg #[.slice (some ⟨ga, 0, none⟩) 9 c1, .slice F1 m1 d1]) (by simp [results, Tryz.results18, go_sem, y0, y1]) rfl ⟨_, _, _, _, _, _, _, _, _, rfl, hD.2.1, hD.2.2.1, hD.1, by omega, by omega, by omega⟩
    · have D := D8
      clear D8
      go_wp2_with fail
      refine (one_any g q7 6 _ D.s.src (by omega) (by omega) (by omega)).mono ?_
      rintro e w8 ⟨b2, q8, rfl, hq8, hs8, hg8⟩
      have D := D.draw hs8 hg8
      clear hs8 hg8
      cases b2 with
      | false =>
        obtain ⟨y0, y1⟩ := D.x.cells2
        obtain ⟨r0, r1⟩ := D.r.cells2
        have f0 := D.r.frozen 0
        have f1 := D.r.frozen 1
        have hD := D.done
        clear D
        go_wp2
        clear y0 y1 r0 r1
        obtain ⟨y0, y1⟩ := hD.2.2.2.cells2
        exact bodyPost_ret (v := .agg #[.slice A1 n2 c1, .slice F1 m1 d1]) (by simp [results, Tryz.results18, go_sem, y0, y1]) rfl ⟨_, _, _, _, _, _, _, _, _, rfl, hD.2.1, hD.2.2.1, hD.1, by omega, by omega, by omega⟩
      | true =>
        by_cases hN : 0 < N
        · go_wp2
          go_loopw [5] (fun i wr => ∃ (v q : Nat) (cs : List Int), v ≤ n2 ∧ i = .int .i64 v ∧ DG w wr g q w.heap.size gb A1 n2 c1 F1 m1 d1 cs es1 ∧ q ≤ p + 25000 + 2 * v) (fun i _ => n2 - (intOf i).toNat)
          case atStart => exact ⟨0, q8, cs1, Nat.zero_le _, rfl, D, by omega⟩
          case round =>
            clear D
            obtain ⟨v, q, cs, hv, rfl, D, hq⟩ := hrel
            obtain ⟨z0, z1⟩ := D.x.cells2
            by_cases hlt : v < n2
            · obtain ⟨ga, rfl, -, -, -⟩ := D.oa.cell hlt
              have HD := Lib.hid (D.step (below_drewn _ 1))
              have HC := Lib.hid (pick_any g q (N : Int) _ HD.out.s.src (by omega) (by omega) (by omega))
              clear D
              go_wp2
              clear z0 z1
              go_region_held_law (fun w' => w'.cell? ⟨gb, 0, none⟩ = some (.slice (some ⟨ga, 0, none⟩) n2 c1))
                (first | exact HD.out.x.cells2.1 | exact D8.x.cells2.1 | exact D9.x.cells2.1)
                ((go_at_call 39; refine HC.out.mono ?_; rintro e w9 ⟨y, q9, rfl, y0, y1, hq9, hs9, hg9⟩; have D8 := HD.out.draw hs9 hg9; obtain ⟨ga', hga, cc, cf, -⟩ := D8.oa.cell hlt; cases hga; have D9 := D8.colorsIn (grown_set (g := ga) (p := v) (u := .int .i64 y)) (D8.oa.set v (u := y) ⟨by omega, by omega⟩)))
              clear HD HC D8 cc cf
              go_wp2
              go_roundw
              case rel => exact ⟨v + 1, q9, _, by omega, by go_num, D9, by omega⟩
              case measure => simp [intOf]; omega
            · clear z0 z1
              obtain ⟨y0, y1⟩ := D.x.cells2
              obtain ⟨r0, r1⟩ := D.r.cells2
              have f0 := D.r.frozen 0
              have f1 := D.r.frozen 1
              have hD := D.done
              clear D
              go_wp2
              clear y0 y1 r0 r1
              obtain ⟨y0, y1⟩ := hD.2.2.2.cells2
              exact bodyPost_ret (v := .agg #[.slice A1 n2 c1, .slice F1 m1 d1]) (by simp [results, Tryz.results18, go_sem, y0, y1]) rfl ⟨_, _, _, _, _, _, _, _, _, rfl, hD.2.1, hD.2.2.1, hD.1, by omega, by omega, by omega⟩
        · obtain ⟨y0, y1⟩ := D.x.cells2
          obtain ⟨r0, r1⟩ := D.r.cells2
          have f0 := D.r.frozen 0
          have f1 := D.r.frozen 1
          have hD := D.done
          clear D
          go_wp2
          clear y0 y1 r0 r1
          obtain ⟨y0, y1⟩ := hD.2.2.2.cells2
          exact bodyPost_ret (v := .agg #[.slice A1 n2 c1, .slice F1 m1 d1]) (by simp [results, Tryz.results18, go_sem, y0, y1]) rfl ⟨_, _, _, _, _, _, _, _, _, rfl, hD.2.1, hD.2.2.1, hD.1, by omega, by omega, by omega⟩
end Go.Proofs.YtkihflnenifcgaaGreatDoor
/- A drawn graph and a budget. No condition beyond those stated. -/
namespace Go.Proofs.YtkihflnenifcgaaGreatDoor
open Go.RowKit

theorem Below.far {B : Nat} {a w w' : World} {g : Nat} (h : Below B a w) (hg : w.grownBy w' (some g)) (hB : B ≤ w.heap.size) (hr : B ≤ g) : Below B a w' := h.grown hg hB (fun k e => by injection e with e; omega)
theorem OI.apartG {w w' : World} {B g : Nat} {e : TypeId} {A : Option Addr} {n c : Nat} {zs : List Int} (h : OI w B e A n c zs) (hg : g < B) (hr : w.grownBy w' (some g)) : OI w' B e A n c zs :=
  h.kept hr (by
    cases hA : blk A with
    | none => exact .inl rfl
    | some k => exact .inr fun e => by injection e with e; have := (h.os.lt hA).1; omega)
theorem OE.apartG {w w' : World} {B g : Nat} {e : TypeId} {A : Option Addr} {n c : Nat} {zs : List Ed} (h : OE w B e A n c zs) (hg : g < B) (hr : w.grownBy w' (some g)) : OE w' B e A n c zs :=
  h.kept hr (by
    cases hA : blk A with
    | none => exact .inl rfl
    | some k => exact .inr fun e => by injection e with e; have := (h.os.lt hA).1; omega)
/-- a graph that reads as said, and a number -/
def RetOne (w : World) (e : Ending) (w' : World) : Prop := ∃ A n c F m d cs es b, e = .returned (.tuple #[.agg #[.slice A n c, .slice F m d], .int .i64 b]) ∧ RG w' A n F m cs es ∧ I64 b ∧ Below w.heap.size w w' ∧ n ≤ 65 ∧ m ≤ 4097
set_option maxRecDepth 100000 in
set_option maxHeartbeats 800000 in
theorem drawCanonical_any (A0 : Option Addr) (n0 c0 : Nat) (bs : List Int) (w : World) (ha : RS EByte w A0 n0 bs) (hn : n0 ≤ 9223372036854775807) :
    Calls Tryz.prog 6 #[.slice A0 n0 c0] w (RetOne w) := by
  have hb1 := below_alloc w (.cells #[.slice none 0 0, .slice none 0 0] 27)
  have R1 := Blk.new w 27 #[.slice none 0 0, .slice none 0 0]
  have hfr := l00From_any A0 n0 c0 bs _ (EBytes.keep ha hb1) hn
  have hg0 : w.heap.size + 1 ≤ (w.alloc (.cells #[.slice none 0 0, .slice none 0 0] 27)).heap.size := by simp
  go_enter Tryz.func6, Tryz.ntmps6
  go_wp2_with fail
  generalize w.alloc (.cells #[.slice none 0 0, .slice none 0 0] 27) = w1 at *
  refine hfr.mono ?_
  rintro e w2 ⟨rfl, hs2, hb2⟩
  have R1 := R1.after hb2
  have hw2 := hb1.trans (hb2.mono hb1.size)
  generalize w1.heap.size = g at *
  clear hfr hb1 hb2
  have hgl := hs2.lt
  go_wp2_with fail
  refine (l22DrawGraph_any g 0 w2 hs2 (by omega)).mono ?_
  rintro e w3 ⟨A, n, c, F, m, d, cs, es, q3, rfl, oa, of_, S3, hq3, hn, hm⟩
  have R1 := R1.grown S3.grown (fun e => by injection e with e; omega)
  have hw3 := Below.far hw2 S3.grown hw2.size (by omega)
  have S5 := S3.step (below_alloc w3 (.cells #[.slice A n c, .slice F m d] 27))
  have hb5 := below_alloc w3 (.cells #[.slice A n c, .slice F m d] 27)
  have X := Blk.new w3 27 #[.slice A n c, .slice F m d]
  have hlx := S3.size
  clear S3
  go_wp2
  generalize w3.alloc (.cells #[.slice A n c, .slice F m d] 27) = w5 at *
  have R1 := (R1.after hb5).after (below_drewn w5 1)
  have hw5 := hw3.trans (hb5.mono hw3.size)
  have hw5 := hw5.trans ((below_drewn w5 1).mono hw5.size)
  have oa := (oa.below hb5).below (below_drewn w5 1)
  have of_ := (of_.below hb5).below (below_drewn w5 1)
  have S6 := S5.step (below_drewn w5 1)
  have X := X.after (below_drewn w5 1)
  clear hb5 S5
  generalize w3.heap.size = x at *
  simp only [← World.drew_is_drewN] at *
  refine wp_region_held_drew (S := fun w' => w'.cell? ⟨x, 0, none⟩ = some (.slice A n c) ∧ w'.cell? ⟨x, 1, none⟩ = some (.slice F m d)) (by kernel_rfl) X.cells2 ?_
  intro hS
  refine wpAnyH_take (i := 0) (v := ?_) rfl (by kernel_rfl) (by kernel_rfl) (by kernel_rfl) (fun _ _ _ h => h) (Or.inl ⟨by rfl, ?_⟩) (by assumption) ?_
  rotate_left
  · (intro w hSw; (try dsimp only at hSw); go_simp; (try with_reducible rfl))
  simp only [Act.put, List.setIfInBounds_toArray, List.set_cons_zero, List.set_cons_succ]
  refine wpAnyH_take (i := 1) (v := ?_) rfl (by kernel_rfl) (by kernel_rfl) (by kernel_rfl) (fun _ _ _ h => h) (Or.inl ⟨by rfl, ?_⟩) (by assumption) ?_
  rotate_left
  · (intro w hSw; (try dsimp only at hSw); go_simp; (try with_reducible rfl))
  simp only [Act.put, List.setIfInBounds_toArray, List.set_cons_zero, List.set_cons_succ]
  have hdb := l22DrawBudget_any g q3 _ S6.src (by omega)
  generalize w5.drew = W at *
  refine wpAnyH_ready (rs := [2]) (by kernel_rfl) (by simp) ?_
  refine AllReadyH.cons rfl (fun K hK => ?_) AllReadyH.nil
  go_simp
  refine hdb.mono ?_
  rintro e w7 ⟨b, q7, rfl, hb, S7⟩
  dsimp only
  have R1 := R1.grown S7.grown (fun e => by injection e with e; omega)
  have X := X.grown S7.grown (fun e => by injection e with e; omega)
  have hw7 := Below.far hw5 S7.grown hw5.size (by omega)
  refine hK.out _ _ X.cells2 (fun hS1 => ?_)
  clear hK K hS
  obtain ⟨r0, r1⟩ := R1.cells2
  have f0 := R1.frozen 0
  have f1 := R1.frozen 1
  refine wpAnyH_ready (rs := [3]) (by kernel_rfl) (by simp) ?_
  refine AllReadyH.cons rfl (fun K hK => ?_) AllReadyH.nil
  go_simp
  have hgx : w.heap.size + 1 ≤ x := by omega
  have X := (X.far (p := ⟨w.heap.size, 0, none⟩) (by show x ≠ w.heap.size; omega) (.slice A n c)).far (p := ⟨w.heap.size, 1, none⟩) (by show x ≠ w.heap.size; omega) (.slice F m d)
  refine hK.out _ _ X.cells2 (fun hS2 => ?_)
  clear hK K hS1
  have R1b := (R1.set_ 0 (.slice A n c)).set_ 1 (.slice F m d)
  clear r0 r1 f0 f1
  refine wpAnyH_ready (rs := [4]) (by kernel_rfl) (by simp) ?_
  refine AllReadyH.cons rfl (fun K hK => ?_) AllReadyH.nil
  go_simp
  refine hK.out _ _ X.cells2 (fun hS4 => ?_)
  clear hK K hS2
  refine wpAnyH_done (by kernel_rfl) ?_ _
  go_wp2
  obtain ⟨r0, r1⟩ := R1b.cells2
  have hlow : w.heap.size < w2.heap.size := by omega
  have oa := ((oa.apartG hgl S7.grown).setLow (p := ⟨w.heap.size, 0, none⟩) hlow (.slice A n c)).setLow (p := ⟨w.heap.size, 1, none⟩) hlow (.slice F m d)
  have of_ := ((of_.apartG hgl S7.grown).setLow (p := ⟨w.heap.size, 0, none⟩) hlow (.slice A n c)).setLow (p := ⟨w.heap.size, 1, none⟩) hlow (.slice F m d)
  have hw8 := (hw7.setCell (p := ⟨w.heap.size, 0, none⟩) (Nat.le_refl _) (.slice A n c)).setCell (p := ⟨w.heap.size, 1, none⟩) (Nat.le_refl _) (.slice F m d)
  exact bodyPost_ret (v := .tuple #[.agg #[.slice A n c, .slice F m d], .int .i64 b]) (by simp [results, Tryz.results6, go_sem, r0, r1]) rfl ⟨A, n, c, F, m, d, cs, es, b, rfl, ⟨oa.reads, of_.reads⟩, hb, hw8, hn, hm⟩
end Go.Proofs.YtkihflnenifcgaaGreatDoor
