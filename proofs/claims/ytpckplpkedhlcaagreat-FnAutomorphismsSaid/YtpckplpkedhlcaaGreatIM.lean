/- spec.l22DrawGraph. No condition beyond those stated. -/
import Derived.Test.YtpckplpkedhlcaaGreatIL
set_option linter.unusedVariables false
set_option linter.unusedSimpArgs false
namespace Go.Proofs.YtpckplpkedhlcaaGreat
open Go.RowKit

theorem DG.both {w0 wr : World} {g q rb gb : Nat} {A A' : Option Addr} {n c n' c' : Nat} {F F' : Option Addr} {m d m' d' : Nat} {cs cs' : List Int} {es es' : List Ed} (h : DG w0 wr g q rb gb A n c F m d cs es)
    (oa : OI wr w0.heap.size 2 A' n' c' cs') (of_ : OE wr w0.heap.size 135 F' m' d' es') :
    DG w0 ((wr.setCell ⟨gb, 0, none⟩ (.slice A' n' c')).setCell ⟨gb, 1, none⟩ (.slice F' m' d')) g q rb gb A' n' c' F' m' d' cs' es' :=
  (h.colors (World.grownBy.refl _ _) oa).edges0 (of_.kept grown_set (.inr fun e => OS.typed' of_.os h.x (by decide) e.symm))
theorem OI.short {w : World} {B : Nat} {e : TypeId} {A : Option Addr} {n c k : Nat} {zs : List Int} (h : OI w B e A n c zs) (hk : k ≤ n) (h0 : 0 < n) : OI w B e A k c (zs.take k) := by
  refine OI.of_os ?_ h.all
  have hl := h.len
  rcases h.os.cases with ⟨_, h1, _⟩ | ⟨g', cur, rfl, hB, hg, hnc, hc, hs, ht⟩
  · omega
  · refine ⟨by simp [ints]; omega, .inr ⟨g', c, cur, rfl, hB, hg, by omega, hc, hs, ?_⟩⟩
    rw [← ht, Nat.mul_one, Nat.mul_one, List.take_take, Nat.min_eq_left hk]
set_option maxRecDepth 100000 in
set_option maxHeartbeats 800000 in
theorem l22DrawGraph_any (g p : Nat) (w : World) (hs : Src w g p) (hp : p ≤ 140737488355328) :
    Calls Tryz.prog 43 #[.pointer (some ⟨g, 0, none⟩)] w (RetDG w g p 30000) := by
  have S0 := SrW.start hs
  have S := S0.step (below_alloc w (.cells #[.slice none 0 0, .slice none 0 0] 27))
  have R := Blk.new w 27 #[.slice none 0 0, .slice none 0 0]
  clear S0 hs
  go_enter Tryz.func43, Tryz.ntmps43
  go_wp2_with fail
  refine (pick_any g p 8 _ S.src (by omega) (by omega) (by omega)).mono ?_
  rintro e w1 ⟨N0, q1, rfl, n0, n1, hq1, hs1, hg1⟩
  have R := R.grown hg1 (fun e => by injection e with e; have := S.gl; omega)
  have S := S.next hs1 hg1
  clear hs1 hg1
  obtain ⟨N, rfl⟩ := Int.eq_ofNat_of_zero_le n0
  go_wp2_with fail
  refine (l21DrawSize_any g q1 N _ S.src (by omega) (by omega)).mono ?_
  rintro e w5 ⟨A, c, F, m, d, cs, es, q5, rfl, hoa, hoe, S5, hq5, hm⟩
  have hsz := S.size
  have D : DG w (w5.alloc (.cells #[.slice A N c, .slice F m d] 27)) g q5 w.heap.size w5.heap.size A N c F m d cs es :=
    ⟨(S.then_ S5).step (below_alloc w5 _), Blk.new w5 _ _, (S5_R R S S5).alloc _, (hoa.more hsz).alloc _, (hoe.more hsz).alloc _, by have := (S5_R R S S5).lt; omega, Nat.le_refl _, (S.then_ S5).size⟩
  clear R S S5 hoa hoe hsz
  go_wp2_with fail
  refine (one_any g q5 9 _ D.s.src (by omega) (by omega) (by omega)).mono ?_
  rintro e w6 ⟨b, q4, rfl, hq4, hs6, hg6⟩
  have D := D.draw hs6 hg6
  clear hs6 hg6
  generalize w5.heap.size = gb at *
  cases b with
  | false =>
    go_wp2_with fail
    refine (one_any g q4 6 _ D.s.src (by omega) (by omega) (by omega)).mono ?_
    rintro e w8 ⟨b2, q8, rfl, hq8, hs8, hg8⟩
    have D := D.draw hs8 hg8
    clear hs8 hg8
    cases b2 with
    | false =>
      obtain ⟨y0, y1⟩ := D.x.cells2
      obtain ⟨r0, r1⟩ := D.r.cells2
      have f0 := D.r.frozen 0
      have f1 := D.r.frozen 1
      have hD := D.done
      clear D
      go_wp2
      clear y0 y1 r0 r1
      obtain ⟨y0, y1⟩ := hD.2.2.2.cells2
      exact bodyPost_ret (v := .agg #[.slice A N c, .slice F m d]) (by simp [results, Tryz.results43, go_sem, y0, y1]) rfl ⟨_, _, _, _, _, _, _, _, _, rfl, hD.2.1, hD.2.2.1, hD.1, by omega, by omega, by omega⟩
    | true =>
      by_cases hN : 0 < N
      · go_wp2
        go_loopw [5] (fun i wr => ∃ (v q : Nat) (cs : List Int), v ≤ N ∧ i = .int .i64 v ∧ DG w wr g q w.heap.size gb A N c F m d cs es ∧ q ≤ p + 25000 + 2 * v) (fun i _ => N - (intOf i).toNat)
        case atStart => exact ⟨0, q8, cs, Nat.zero_le _, rfl, D, by omega⟩
        case round =>
          clear D
          obtain ⟨v, q, cs, hv, rfl, D, hq⟩ := hrel
          obtain ⟨z0, z1⟩ := D.x.cells2
          by_cases hlt : v < N
          · obtain ⟨ga, rfl, -, -, -⟩ := D.oa.cell hlt
            have HD := Lib.hid (D.step (below_drewn _ 1))
            have HC := Lib.hid (pick_any g q (N : Int) _ HD.out.s.src (by omega) (by omega) (by omega))
            clear D
            go_wp2
            clear z0 z1
            go_region_held_law (fun w' => w'.cell? ⟨gb, 0, none⟩ = some (.slice (some ⟨ga, 0, none⟩) N c))
              (first | exact HD.out.x.cells2.1 | exact D8.x.cells2.1 | exact D9.x.cells2.1)
              ((go_at_call 91; refine HC.out.mono ?_; rintro e w9 ⟨y, q9, rfl, y0, y1, hq9, hs9, hg9⟩; have D8 := HD.out.draw hs9 hg9; obtain ⟨ga', hga, cc, cf, -⟩ := D8.oa.cell hlt; cases hga; have D9 := D8.colorsIn (grown_set (g := ga) (p := v) (u := .int .i64 y)) (D8.oa.set v (u := y) ⟨by omega, by omega⟩)))
            clear HD HC D8 cc cf
            go_wp2
            go_roundw
            case rel => exact ⟨v + 1, q9, _, by omega, by go_num, D9, by omega⟩
            case measure => simp [intOf]; omega
          · clear z0 z1
            obtain ⟨y0, y1⟩ := D.x.cells2
            obtain ⟨r0, r1⟩ := D.r.cells2
            have f0 := D.r.frozen 0
            have f1 := D.r.frozen 1
            have hD := D.done
            clear D
            go_wp2
            clear y0 y1 r0 r1
            obtain ⟨y0, y1⟩ := hD.2.2.2.cells2
            exact bodyPost_ret (v := .agg #[.slice A N c, .slice F m d]) (by simp [results, Tryz.results43, go_sem, y0, y1]) rfl ⟨_, _, _, _, _, _, _, _, _, rfl, hD.2.1, hD.2.2.1, hD.1, by omega, by omega, by omega⟩
      · obtain ⟨y0, y1⟩ := D.x.cells2
        obtain ⟨r0, r1⟩ := D.r.cells2
        have f0 := D.r.frozen 0
        have f1 := D.r.frozen 1
        have hD := D.done
        clear D
        go_wp2
        clear y0 y1 r0 r1
        obtain ⟨y0, y1⟩ := hD.2.2.2.cells2
        exact bodyPost_ret (v := .agg #[.slice A N c, .slice F m d]) (by simp [results, Tryz.results43, go_sem, y0, y1]) rfl ⟨_, _, _, _, _, _, _, _, _, rfl, hD.2.1, hD.2.2.1, hD.1, by omega, by omega, by omega⟩
  | true =>
    have hq4' : q4 ≤ p + 10010 := by omega
    clear hq4 hq5 hq1
    go_wp2_with fail
    refine (l21Draw_any g q4 _ D.s.src (by omega)).mono ?_
    rintro e w7 ⟨A1, n2, c1, F1, m1, d1, cs1, es1, q7, rfl, hoa, hoe, S7, hq7, hn7, hm7⟩
    have hsz := D.s.size
    have D7 := D.draw S7.src S7.grown
    have oa1 := hoa.more hsz
    have of1 := hoe.more hsz
    obtain ⟨z0, z1⟩ := D7.x.cells2
    have v0 := D7.x.frozen 0
    have v1 := D7.x.frozen 1
    have D8 := D7.both oa1 of1
    clear D S7 hoa hoe hsz hm oa1 of1
    clear D7
    obtain ⟨z2, z3⟩ := D8.x.cells2
    by_cases hcut : 16 < n2
    · have v2 := D8.x.frozen 0
      obtain ⟨ga, rfl⟩ : ∃ ga, A1 = some ⟨ga, 0, none⟩ := by
        obtain ⟨gA, e, _⟩ := D8.oa.cell (k := 0) (by omega)
        exact ⟨gA, e⟩
      have hcap := D8.oa.os.cap
      have D := D8.colors (World.grownBy.refl _ _) (D8.oa.short (k := 9) (by omega) (by omega))
      obtain ⟨z4, z5⟩ := D.x.cells2
      clear D8
      have hq4 := hq4'
      go_wp2_with fail
      refine (one_any g q7 6 _ D.s.src (by omega) (by omega) (by omega)).mono ?_
      rintro e w8 ⟨b2, q8, rfl, hq8, hs8, hg8⟩
      have D := D.draw hs8 hg8
      clear hs8 hg8
      cases b2 with
      | false =>
        obtain ⟨y0, y1⟩ := D.x.cells2
        obtain ⟨r0, r1⟩ := D.r.cells2
        have f0 := D.r.frozen 0
        have f1 := D.r.frozen 1
        have hD := D.done
        clear D
        go_wp2
        clear y0 y1 r0 r1
        obtain ⟨y0, y1⟩ := hD.2.2.2.cells2
        exact bodyPost_ret (v := .agg #[.slice (some ⟨ga, 0, none⟩) 9 c1, .slice F1 m1 d1]) (by simp [results, Tryz.results43, go_sem, y0, y1]) rfl ⟨_, _, _, _, _, _, _, _, _, rfl, hD.2.1, hD.2.2.1, hD.1, by omega, by omega, by omega⟩
      | true =>
        by_cases hN : 0 < N
        · go_wp2
          go_loopw [5] (fun i wr => ∃ (v q : Nat) (cs : List Int), v ≤ 9 ∧ i = .int .i64 v ∧ DG w wr g q w.heap.size gb (some ⟨ga, 0, none⟩) 9 c1 F1 m1 d1 cs es1 ∧ q ≤ p + 25000 + 2 * v) (fun i _ => 9 - (intOf i).toNat)
          case atStart => exact ⟨0, q8, (cs1.take 9), Nat.zero_le _, rfl, D, by omega⟩
          case round =>
            clear D
            obtain ⟨v, q, cs, hv, rfl, D, hq⟩ := hrel
            obtain ⟨z0, z1⟩ := D.x.cells2
            by_cases hlt : v < 9
            · have HD := Lib.hid (D.step (below_drewn _ 1))
              have HC := Lib.hid (pick_any g q (N : Int) _ HD.out.s.src (by omega) (by omega) (by omega))
              clear D
              go_wp2
              clear z0 z1
              go_region_held_law (fun w' => w'.cell? ⟨gb, 0, none⟩ = some (.slice (some ⟨ga, 0, none⟩) 9 c1))
                (first | exact HD.out.x.cells2.1 | exact D8.x.cells2.1 | exact D9.x.cells2.1)
                ((go_at_call 91; refine HC.out.mono ?_; rintro e w9 ⟨y, q9, rfl, y0, y1, hq9, hs9, hg9⟩; have D8 := HD.out.draw hs9 hg9; obtain ⟨ga', hga, cc, cf, -⟩ := D8.oa.cell hlt; cases hga; have D9 := D8.colorsIn (grown_set (g := ga) (p := v) (u := .int .i64 y)) (D8.oa.set v (u := y) ⟨by omega, by omega⟩)))
              clear HD HC D8 cc cf
              go_wp2
              go_roundw
              case rel => exact ⟨v + 1, q9, _, by omega, by go_num, D9, by omega⟩
              case measure => simp [intOf]; omega
            · clear z0 z1
              obtain ⟨y0, y1⟩ := D.x.cells2
              obtain ⟨r0, r1⟩ := D.r.cells2
              have f0 := D.r.frozen 0
              have f1 := D.r.frozen 1
              have hD := D.done
              clear D
              go_wp2
              clear y0 y1 r0 r1
              obtain ⟨y0, y1⟩ := hD.2.2.2.cells2
              exact bodyPost_ret (v := .agg #[.slice (some ⟨ga, 0, none⟩) 9 c1, .slice F1 m1 d1]) (by simp [results, Tryz.results43, go_sem, y0, y1]) rfl ⟨_, _, _, _, _, _, _, _, _, rfl, hD.2.1, hD.2.2.1, hD.1, by omega, by omega, by omega⟩
        · obtain ⟨y0, y1⟩ := D.x.cells2
          obtain ⟨r0, r1⟩ := D.r.cells2
          have f0 := D.r.frozen 0
          have f1 := D.r.frozen 1
          have hD := D.done
          clear D
          go_wp2
          clear y0 y1 r0 r1
          obtain ⟨y0, y1⟩ := hD.2.2.2.cells2
          exact bodyPost_ret (v := .agg #[.slice (some ⟨ga, 0, none⟩) 9 c1, .slice F1 m1 d1]) (by simp [results, Tryz.results43, go_sem, y0, y1]) rfl ⟨_, _, _, _, _, _, _, _, _, rfl, hD.2.1, hD.2.2.1, hD.1, by omega, by omega, by omega⟩
    · have D := D8
      clear D8
      go_wp2_with fail
      refine (one_any g q7 6 _ D.s.src (by omega) (by omega) (by omega)).mono ?_
      rintro e w8 ⟨b2, q8, rfl, hq8, hs8, hg8⟩
      have D := D.draw hs8 hg8
      clear hs8 hg8
      cases b2 with
      | false =>
        obtain ⟨y0, y1⟩ := D.x.cells2
        obtain ⟨r0, r1⟩ := D.r.cells2
        have f0 := D.r.frozen 0
        have f1 := D.r.frozen 1
        have hD := D.done
        clear D
        go_wp2
        clear y0 y1 r0 r1
        obtain ⟨y0, y1⟩ := hD.2.2.2.cells2
        exact bodyPost_ret (v := .agg #[.slice A1 n2 c1, .slice F1 m1 d1]) (by simp [results, Tryz.results43, go_sem, y0, y1]) rfl ⟨_, _, _, _, _, _, _, _, _, rfl, hD.2.1, hD.2.2.1, hD.1, by omega, by omega, by omega⟩
      | true =>
        by_cases hN : 0 < N
        · go_wp2
          go_loopw [5] (fun i wr => ∃ (v q : Nat) (cs : List Int), v ≤ n2 ∧ i = .int .i64 v ∧ DG w wr g q w.heap.size gb A1 n2 c1 F1 m1 d1 cs es1 ∧ q ≤ p + 25000 + 2 * v) (fun i _ => n2 - (intOf i).toNat)
          case atStart => exact ⟨0, q8, cs1, Nat.zero_le _, rfl, D, by omega⟩
          case round =>
            clear D
            obtain ⟨v, q, cs, hv, rfl, D, hq⟩ := hrel
            obtain ⟨z0, z1⟩ := D.x.cells2
            by_cases hlt : v < n2
            · obtain ⟨ga, rfl, -, -, -⟩ := D.oa.cell hlt
              have HD := Lib.hid (D.step (below_drewn _ 1))
              have HC := Lib.hid (pick_any g q (N : Int) _ HD.out.s.src (by omega) (by omega) (by omega))
              clear D
              go_wp2
              clear z0 z1
              go_region_held_law (fun w' => w'.cell? ⟨gb, 0, none⟩ = some (.slice (some ⟨ga, 0, none⟩) n2 c1))
                (first | exact HD.out.x.cells2.1 | exact D8.x.cells2.1 | exact D9.x.cells2.1)
                ((go_at_call 91; refine HC.out.mono ?_; rintro e w9 ⟨y, q9, rfl, y0, y1, hq9, hs9, hg9⟩; have D8 := HD.out.draw hs9 hg9; obtain ⟨ga', hga, cc, cf, -⟩ := D8.oa.cell hlt; cases hga; have D9 := D8.colorsIn (grown_set (g := ga) (p := v) (u := .int .i64 y)) (D8.oa.set v (u := y) ⟨by omega, by omega⟩)))
              clear HD HC D8 cc cf
              go_wp2
              go_roundw
              case rel => exact ⟨v + 1, q9, _, by omega, by go_num, D9, by omega⟩
              case measure => simp [intOf]; omega
            · clear z0 z1
              obtain ⟨y0, y1⟩ := D.x.cells2
              obtain ⟨r0, r1⟩ := D.r.cells2
              have f0 := D.r.frozen 0
              have f1 := D.r.frozen 1
              have hD := D.done
              clear D
              go_wp2
              clear y0 y1 r0 r1
              obtain ⟨y0, y1⟩ := hD.2.2.2.cells2
              exact bodyPost_ret (v := .agg #[.slice A1 n2 c1, .slice F1 m1 d1]) (by simp [results, Tryz.results43, go_sem, y0, y1]) rfl ⟨_, _, _, _, _, _, _, _, _, rfl, hD.2.1, hD.2.2.1, hD.1, by omega, by omega, by omega⟩
        · obtain ⟨y0, y1⟩ := D.x.cells2
          obtain ⟨r0, r1⟩ := D.r.cells2
          have f0 := D.r.frozen 0
          have f1 := D.r.frozen 1
          have hD := D.done
          clear D
          go_wp2
          clear y0 y1 r0 r1
          obtain ⟨y0, y1⟩ := hD.2.2.2.cells2
          exact bodyPost_ret (v := .agg #[.slice A1 n2 c1, .slice F1 m1 d1]) (by simp [results, Tryz.results43, go_sem, y0, y1]) rfl ⟨_, _, _, _, _, _, _, _, _, rfl, hD.2.1, hD.2.2.1, hD.1, by omega, by omega, by omega⟩
end Go.Proofs.YtpckplpkedhlcaaGreat
