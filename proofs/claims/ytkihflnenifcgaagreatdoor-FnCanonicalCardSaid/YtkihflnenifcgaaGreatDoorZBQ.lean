/- spec.l21Draw. No condition beyond those stated. -/
import Derived.Test.YtkihflnenifcgaaGreatDoorZBP
set_option linter.unusedVariables false
set_option linter.unusedSimpArgs false
namespace Go.Proofs.YtkihflnenifcgaaGreatDoor
open Go.RowKit

theorem litS4 (w : World) (t : TypeId) (a b c d : Int) (ha : I64 a) (hb : I64 b) (hc : I64 c) (hd : I64 d) : RI (w.alloc (.cells #[.int .i64 a, .int .i64 b, .int .i64 c, .int .i64 d] t)) (some ⟨w.heap.size, 0, none⟩) 4 [a, b, c, d] :=
  RS.lit (E := EInt) (Value.int .i64) w t [a, b, c, d] fun x hx => ⟨rfl, by simp at hx; rcases hx with rfl | rfl | rfl | rfl <;> assumption⟩
theorem litS3 (w : World) (t : TypeId) (a b c : Int) (ha : I64 a) (hb : I64 b) (hc : I64 c) : RI (w.alloc (.cells #[.int .i64 a, .int .i64 b, .int .i64 c] t)) (some ⟨w.heap.size, 0, none⟩) 3 [a, b, c] :=
  RS.lit (E := EInt) (Value.int .i64) w t [a, b, c] fun x hx => ⟨rfl, by simp at hx; rcases hx with rfl | rfl | rfl <;> assumption⟩
theorem S5_R {w w' w'' : World} {g q q' : Nat} {t : TypeId} {cs : Array Value} (h : Blk w' w.heap.size t cs) (S : SrW w w' g q) (k : SrW w' w'' g q') : Blk w'' w.heap.size t cs := h.grown k.grown (fun e => by injection e with e; have := S.gl; omega)
theorem nthE_set01 (es : List Ed) (x y : Int) : nthE (es.set 0 (x, y)) 1 = nthE es 1 := by simp [nthE, List.getD]
/-- how long the colors in a block are -/
def lenC (w : World) (g : Nat) : Nat := match w.cell? ⟨g, 0, none⟩ with | some (.slice _ n _) => n | _ => 0
theorem lenC_at {w : World} {g : Nat} {A : Option Addr} {n c : Nat} (h : w.cell? ⟨g, 0, none⟩ = some (.slice A n c)) : lenC w g = n := by unfold lenC; rw [h]
/-- a drawn graph -/
def RetDG (w : World) (g p k : Nat) (e : Ending) (w' : World) : Prop := ∃ A n c F m d cs es q, e = .returned (.agg #[.slice A n c, .slice F m d]) ∧ OI w' w.heap.size 2 A n c cs ∧ OE w' w.heap.size 65 F m d es ∧ SrW w w' g q ∧ q ≤ p + k ∧ n ≤ 65 ∧ m ≤ 4097
set_option maxRecDepth 100000 in
set_option maxHeartbeats 800000 in
theorem l21Draw_any (g p : Nat) (w : World) (hs : Src w g p) (hp : p ≤ 281474976710656) :
    Calls Tryz.prog 42 #[.pointer (some ⟨g, 0, none⟩)] w (RetDG w g p 11000) := by
  have S0 := SrW.start hs
  have S := S0.step (below_alloc w (.cells #[.slice none 0 0, .slice none 0 0] 27))
  have R := Blk.new w 27 #[.slice none 0 0, .slice none 0 0]
  clear S0 hs
  go_enter Tryz.func42, Tryz.ntmps42
  go_wp2_with fail
  refine (pick_any g p 9 _ S.src (by omega) (by omega) (by omega)).mono ?_
  rintro e w1 ⟨N0, q1, rfl, n0, n1, hq1, hs1, hg1⟩
  have R := R.grown hg1 (fun e => by injection e with e; have := S.gl; omega)
  have S := S.next hs1 hg1
  clear hs1 hg1
  go_wp2_with fail
  refine (one_any g q1 6 w1 S.src (by omega) (by omega) (by omega)).mono ?_
  rintro e w2 ⟨b, q, rfl, hq, hs2, hg2⟩
  have R := R.grown hg2 (fun e => by injection e with e; have := S.gl; omega)
  have S := S.next hs2 hg2
  clear hs2 hg2
  cases b with
  | true =>
    have L := litS4 w2 2 16 24 40 64 ⟨by omega, by omega⟩ ⟨by omega, by omega⟩ ⟨by omega, by omega⟩ ⟨by omega, by omega⟩
    have R := R.alloc (.cells #[.int .i64 16, .int .i64 24, .int .i64 40, .int .i64 64] 2)
    have hsz := S.size
    have hgl := S.gl
    have S := S.step (below_alloc w2 (.cells #[.int .i64 16, .int .i64 24, .int .i64 40, .int .i64 64] 2))
    have ham := among_any g q _ 4 4 _ _ S.src (by omega) L (fun a ha => by cases ha; show w2.heap.size ≠ g; omega) (by omega) (by omega)
    clear L
    go_wp2_with fail
    refine ham.mono ?_
    rintro e w4 ⟨y, q2, rfl, hy, hq2, hs4, hg4⟩
    have hN : 0 ≤ y ∧ y ≤ 64 := by simp at hy; omega
    clear hy ham
    have R := R.grown hg4 (fun e => by injection e with e; have := S.gl; omega)
    have S := S.next hs4 hg4
    clear hs4 hg4
    have hqq : q2 ≤ p + 10 := by omega
    clear hq hq1 hq2 hsz hgl n0 n1
    obtain ⟨y0, y1⟩ := hN
    obtain ⟨N, rfl⟩ := Int.eq_ofNat_of_zero_le y0
    clear y0
    go_wp2_with fail
    refine (l21DrawSize_any g q2 N _ S.src (by omega) (by omega)).mono ?_
    rintro e w5 ⟨A, c, F, m, d, cs, es, q5, rfl, hoa, hoe, S5, hq5, hm⟩
    have hsz := S.size
    have D : DG w (w5.alloc (.cells #[.slice A N c, .slice F m d] 27)) g q5 w.heap.size w5.heap.size A N c F m d cs es :=
      ⟨(S.then_ S5).step (below_alloc w5 _), Blk.new w5 _ _, (S5_R R S S5).alloc _, (hoa.more hsz).alloc _, (hoe.more hsz).alloc _, by have := (S5_R R S S5).lt; omega, Nat.le_refl _, (S.then_ S5).size⟩
    clear R S S5 hoa hoe hsz
    go_wp2_with fail
    refine (pick_any g q5 12 _ D.s.src (by omega) (by omega) (by omega)).mono ?_
    rintro e w6 ⟨x, q6, rfl, x0, x1, hq6, hs6, hg6⟩
    have D := D.draw hs6 hg6
    clear hs6 hg6
    generalize w5.heap.size = gb at *
    by_cases e0 : x = 0
    · have t0 : (x == 0) = true := by simp [e0]
      clear e0
      go_wp2_with fail
      refine (pick_any g q6 ((N : Int) + 1) _ D.s.src (by omega) (by omega) (by omega)).mono ?_
      rintro e w7 ⟨a, q7, rfl, a0, a1, hq7, hs7, hg7⟩
      have D := D.draw hs7 hg7
      clear hs7 hg7
      go_wp2_with fail
      refine (pick_any g q7 ((N : Int) + 2) _ D.s.src (by omega) (by omega) (by omega)).mono ?_
      rintro e w8 ⟨b, q8, rfl, b0, b1, hq8, hs8, hg8⟩
      have D := D.draw hs8 hg8
      clear hs8 hg8
      have L := RE.lit1 w8 65 a (b - 1) ⟨by omega, by omega⟩ ⟨by omega, by omega⟩
      have G := D.step (below_alloc w8 (.cells #[.int .i64 a, .int .i64 (b - 1)] 65))
      obtain ⟨x0', x1'⟩ := D.x.cells2
      clear D
      go_wp2_with (at_builtin; refine app_edges _ rfl (.tmp 32) (.tmp 36) rfl w.heap.size F m d _ rfl G.of_ (some ⟨w8.heap.size, 0, none⟩) 1 1 [(a, b - 1)] rfl L (fun e he => by simp at he; subst he; exact ⟨⟨by omega, by omega⟩, ⟨by omega, by omega⟩⟩) (by omega) G.s.size ?_; intro F' d' w3 ho3 hg3 hn3; have D := G.edges hg3 ho3; have fz := ((G.x.grown hg3 (OS.typed' G.of_.os G.x (by decide))).frozen 1); have cz := ((G.x.grown hg3 (OS.typed' G.of_.os G.x (by decide))).cells2.2); obtain ⟨y0, y1⟩ := D.x.cells2; obtain ⟨r0, r1⟩ := D.r.cells2; have f0 := D.r.frozen 0; have f1 := D.r.frozen 1; have hD := D.done)
      clear y0 y1 r0 r1
      obtain ⟨y0, y1⟩ := hD.2.2.2.cells2
      exact bodyPost_ret (v := .agg #[.slice A N c, .slice F' (m + 1) d']) (by simp [results, Tryz.results42, go_sem, y0, y1]) rfl ⟨_, _, _, _, _, _, _, _, _, rfl, hD.2.1, hD.2.2.1, hD.1, by omega, by omega, by omega⟩
    have t0 : (x == 0) = false := by simp [e0]
    by_cases e1 : x = 1
    · have t1 : (x == 1) = true := by simp [e1]
      clear e0 e1
      by_cases hN : 0 < N
      · go_wp2_with fail
        refine (pick_any g q6 (N : Int) _ D.s.src (by omega) (by omega) (by omega)).mono ?_
        rintro e w7 ⟨a, q7, rfl, a0, a1, hq7, hs7, hg7⟩
        obtain ⟨a, rfl⟩ := Int.eq_ofNat_of_zero_le a0
        have D := D.draw hs7 hg7
        clear hs7 hg7
        obtain ⟨ga, rfl, -, -, -⟩ := D.oa.cell (k := a) (by omega)
        have HD := Lib.hid (D.step (below_drewn _ 1))
        have R3 := litS3 w7 2 (-1) 63 64 ⟨by omega, by omega⟩ ⟨by omega, by omega⟩ ⟨by omega, by omega⟩
        have D7 := (D.step (below_alloc w7 (.cells #[.int .i64 (-1), .int .i64 63, .int .i64 64] 2))).step (below_drewn _ 1)
        have hgs := D.s.src.lt
        have HC := Lib.hid (among_any g q7 _ 3 3 _ _ D7.s.src (by omega) (R3.keep (below_drewn _ 1)) (fun b hb => by cases hb; show w7.heap.size ≠ g; omega) (by omega) (by omega))
        have HD7 := Lib.hid D7
        have hN1 : (a : Int) < N := by omega
        clear D D7 R3 hgs a0 a1
        go_wp2
        go_region_held_law (fun w' => w'.cell? ⟨gb, 0, none⟩ = some (.slice (some ⟨ga, 0, none⟩) N c))
          (first | exact HD.out.x.cells2.1 | exact HD7.out.x.cells2.1 | exact D8.x.cells2.1 | exact D9.x.cells2.1)
          ((go_at_call 43; refine HC.out.mono ?_; rintro e w8 ⟨y, q8, rfl, hy, hq8, hs8, hg8⟩; have D8 := HD7.out.draw hs8 hg8; obtain ⟨ga', hga, cc, cf, -⟩ := D8.oa.cell (k := a) (by omega); cases hga; have D9 := D8.colorsIn (grown_set (g := ga) (p := a) (u := .int .i64 y)) (D8.oa.set a (u := y) (by simp at hy; rcases hy with rfl | rfl | rfl <;> exact ⟨by omega, by omega⟩))))
        have D := D9
        clear HC HD HD7 D8 D9 hy cc cf
        obtain ⟨y0, y1⟩ := D.x.cells2
        obtain ⟨r0, r1⟩ := D.r.cells2
        have f0 := D.r.frozen 0
        have f1 := D.r.frozen 1
        have hD := D.done
        clear D
        go_wp2
        clear y0 y1 r0 r1
        obtain ⟨y0, y1⟩ := hD.2.2.2.cells2
        exact bodyPost_ret (v := .agg #[.slice (some ⟨ga, 0, none⟩) N c, .slice F m d]) (by simp [results, Tryz.results42, go_sem, y0, y1]) rfl ⟨_, _, _, _, _, _, _, _, _, rfl, hD.2.1, hD.2.2.1, hD.1, by omega, by omega, by omega⟩
      · obtain ⟨y0, y1⟩ := D.x.cells2
        obtain ⟨r0, r1⟩ := D.r.cells2
        have f0 := D.r.frozen 0
        have f1 := D.r.frozen 1
        have hD := D.done
        clear D
        go_wp2
        clear y0 y1 r0 r1
        obtain ⟨y0, y1⟩ := hD.2.2.2.cells2
        exact bodyPost_ret (v := .agg #[.slice A N c, .slice F m d]) (by simp [results, Tryz.results42, go_sem, y0, y1]) rfl ⟨_, _, _, _, _, _, _, _, _, rfl, hD.2.1, hD.2.2.1, hD.1, by omega, by omega, by omega⟩
    have t1 : (x == 1) = false := by simp [e1]
    by_cases e2 : x = 2
    · have t2 : (x == 2) = true := by simp [e2]
      clear e0 e1 e2
      by_cases hm2 : 1 < m
      · obtain ⟨gF, rfl, -, -, -⟩ := D.of_.cell (k := 1) (by omega)
        have D1 := D.step (below_drewn _ 1)
        obtain ⟨_, hF, c2, c3, f2, f3, i2, i3⟩ := D1.of_.cell (k := 1) (by omega)
        cases hF
        obtain ⟨_, hF, c0, c1, f0, f1, -, -⟩ := D1.of_.cell (k := 0) (by omega)
        cases hF
        have D2 := D1.edgesIn ((grown_set (g := gF) (p := 0 * 2) (u := .int .i64 (nthE es 1).1)).trans (grown_set (g := gF) (p := 0 * 2 + 1) (u := .int .i64 (nthE es 1).2))) (D1.of_.set 0 i2 i3)
        have HD := Lib.hid D1
        obtain ⟨_, hF, b0, b1, b2, b3, -⟩ := D.of_.cell (k := 0) (by omega)
        cases hF
        obtain ⟨_, hF, d2, d3, -⟩ := D2.of_.cell (k := 1) (by omega)
        cases hF
        rw [nthE_set01] at d2 d3
        have hl0 : 0 < es.length := by rw [D1.of_.len]; omega
        have hE := (ecells_at (es := es) (j := 0) (e := nthE es 0) (by rw [nthE_get hl0]; exact List.getElem?_eq_getElem hl0)).2
        obtain ⟨_, hF, g1, g2⟩ := (D1.of_.os.set 0 (.int .i64 (nthE es 1).1)).cell (j := 1) (u := .int .i64 (nthE es 0).2) (by rw [List.getElem?_set_ne (by decide)]; simpa using hE)
        cases hF
        clear hE hl0
        simp only [Nat.zero_mul, Nat.one_mul, Nat.zero_add, Nat.reduceAdd] at b0 b1 b2 b3 c0 c1 c2 c3 f0 f1 f2 f3 d2 d3 D2
        simp only [← World.drew_is_drewN] at c0 c1 c2 c3 f0 f1 f2 f3 d2 d3 D2 g1 g2
        obtain ⟨z0, z1⟩ := D.x.cells2
        clear D D1
        go_wp2
        clear z0 z1
        have h1 : w6.drew.cell? ⟨gb, 1, none⟩ = some (.slice (some ⟨gF, 0, none⟩) m d) := HD.out.x.cells2.2
        have hm0 : 0 < m := by omega
        refine region_last (P := Tryz.prog) (S := fun w' => w'.cell? ⟨gb, 1, none⟩ = some (.slice (some ⟨gF, 0, none⟩) m d) ∧ w'.cell? ⟨gF, 2, none⟩ = some (.int .i64 (nthE es 1).1) ∧ w'.cell? ⟨gF, 3, none⟩ = some (.int .i64 (nthE es 1).2)) (by kernel_rfl) (by simp only [List.getLast?_cons_cons, List.getLast?_singleton]; rfl) (by dsimp only [List.dropLast]) (by kernel_rfl) ⟨h1, c2, c3⟩ ?_
        intro hS
        refine wpAnyH_take (i := 0) (v := ?_) rfl (by kernel_rfl) (by kernel_rfl) (by kernel_rfl) (fun _ _ _ h => h) (Or.inl ⟨by rfl, ?_⟩) (by assumption) ?_
        rotate_left
        · (intro w hSw; (try dsimp only at hSw); go_simp; (try with_reducible rfl))
        simp only [Act.put, List.setIfInBounds_toArray, List.set_cons_zero, List.set_cons_succ]
        refine wpAnyH_take (i := 1) (v := ?_) rfl (by kernel_rfl) (by kernel_rfl) (by kernel_rfl) (fun _ _ _ h => h) (Or.inl ⟨by rfl, ?_⟩) (by assumption) ?_
        rotate_left
        · (intro w hSw; (try dsimp only at hSw); go_simp; (try with_reducible rfl))
        simp only [Act.put, List.setIfInBounds_toArray, List.set_cons_zero, List.set_cons_succ]
        refine wpAnyH_take (i := 2) (v := ?_) rfl (by kernel_rfl) (by kernel_rfl) (by kernel_rfl) (fun _ _ _ h => h) (Or.inl ⟨by rfl, ?_⟩) (by assumption) ?_
        rotate_left
        · (intro w hSw; (try dsimp only at hSw); go_simp; (try with_reducible rfl))
        simp only [Act.put, List.setIfInBounds_toArray, List.set_cons_zero, List.set_cons_succ]
        refine wpAnyH_take (i := 3) (v := ?_) rfl (by kernel_rfl) (by kernel_rfl) (by kernel_rfl) (fun _ _ _ h => h) (Or.inl ⟨by rfl, ?_⟩) (by assumption) ?_
        rotate_left
        · (intro w hSw; (try dsimp only at hSw); go_simp; (try with_reducible rfl))
        simp only [Act.put, List.setIfInBounds_toArray, List.set_cons_zero, List.set_cons_succ]
        refine wpAnyH_take (i := 4) (v := ?_) rfl (by kernel_rfl) (by kernel_rfl) (by kernel_rfl) (fun _ _ _ h => h) (Or.inl ⟨by rfl, ?_⟩) (by assumption) ?_
        rotate_left
        · (intro w hSw; (try dsimp only at hSw); go_simp; (try with_reducible rfl))
        simp only [Act.put, List.setIfInBounds_toArray, List.set_cons_zero, List.set_cons_succ]
        refine wpAnyH_take (i := 5) (v := ?_) rfl (by kernel_rfl) (by kernel_rfl) (by kernel_rfl) (fun _ _ _ h => h) (Or.inl ⟨by rfl, ?_⟩) (by assumption) ?_
        rotate_left
        · (intro w hSw; (try dsimp only at hSw); go_simp; (try with_reducible rfl))
        simp only [Act.put, List.setIfInBounds_toArray, List.set_cons_zero, List.set_cons_succ]
        refine wpAnyH_take (i := 6) (v := ?_) rfl (by kernel_rfl) (by kernel_rfl) (by kernel_rfl) (fun _ _ _ h => h) (Or.inl ⟨by rfl, ?_⟩) (by assumption) ?_
        rotate_left
        · (intro w hSw; (try dsimp only at hSw); go_simp; (try with_reducible rfl))
        simp only [Act.put, List.setIfInBounds_toArray, List.set_cons_zero, List.set_cons_succ]
        refine wpAnyH_done (by kernel_rfl) ?_ _
        dsimp only [atEnd]
        clear hS
        clear HD b0 b1 b2 b3
        generalize w6.drew = W at *
        have D := D2
        clear D2 d2 d3 h1
        obtain ⟨y0, y1⟩ := D.x.cells2
        obtain ⟨r0, r1⟩ := D.r.cells2
        have f0 := D.r.frozen 0
        have f1 := D.r.frozen 1
        have hD := D.done
        clear D
        go_wp2
        clear y0 y1 r0 r1
        obtain ⟨y0, y1⟩ := hD.2.2.2.cells2
        exact bodyPost_ret (v := .agg #[.slice A N c, .slice (some ⟨gF, 0, none⟩) m d]) (by simp [results, Tryz.results42, go_sem, y0, y1]) rfl ⟨_, _, _, _, _, _, _, _, _, rfl, hD.2.1, hD.2.2.1, hD.1, by omega, by omega, by omega⟩
      · obtain ⟨y0, y1⟩ := D.x.cells2
        obtain ⟨r0, r1⟩ := D.r.cells2
        have f0 := D.r.frozen 0
        have f1 := D.r.frozen 1
        have hD := D.done
        clear D
        go_wp2
        clear y0 y1 r0 r1
        obtain ⟨y0, y1⟩ := hD.2.2.2.cells2
        exact bodyPost_ret (v := .agg #[.slice A N c, .slice F m d]) (by simp [results, Tryz.results42, go_sem, y0, y1]) rfl ⟨_, _, _, _, _, _, _, _, _, rfl, hD.2.1, hD.2.2.1, hD.1, by omega, by omega, by omega⟩
    have t2 : (x == 2) = false := by simp [e2]
    by_cases e3 : x = 3
    · have t3 : (x == 3) = true := by simp [e3]
      clear e0 e1 e2 e3
      go_wp2_with fail
      refine (one_any g q6 3 _ D.s.src (by omega) (by omega) (by omega)).mono ?_
      rintro e w7 ⟨b, q7, rfl, hq7, hs7, hg7⟩
      have D := D.draw hs7 hg7
      clear hs7 hg7
      cases b with
      | false =>
        obtain ⟨y0, y1⟩ := D.x.cells2
        obtain ⟨r0, r1⟩ := D.r.cells2
        have f0 := D.r.frozen 0
        have f1 := D.r.frozen 1
        have hD := D.done
        clear D
        go_wp2
        clear y0 y1 r0 r1
        obtain ⟨y0, y1⟩ := hD.2.2.2.cells2
        exact bodyPost_ret (v := .agg #[.slice A N c, .slice F m d]) (by simp [results, Tryz.results42, go_sem, y0, y1]) rfl ⟨_, _, _, _, _, _, _, _, _, rfl, hD.2.1, hD.2.2.1, hD.1, by omega, by omega, by omega⟩
      | true =>
        go_wp2
        go_loopw [] (fun wr => ∃ (A : Option Addr) (n c : Nat) (cs : List Int), n ≤ 65 ∧ DG w wr g q7 w.heap.size gb A n c F m d cs es) (fun wr => 65 - lenC wr gb)
        case atStart => exact ⟨A, N, c, cs, by omega, D⟩
        case round =>
          clear D
          obtain ⟨A, n, c, cs, hn, D⟩ := hrel
          obtain ⟨z0, z1⟩ := D.x.cells2
          by_cases hlt : n < 65
          · go_wp2_with (at_builtin; refine app_int _ rfl (.tmp 75) (.tmp 76) rfl w.heap.size A n c _ rfl D.oa 0 wr.heap.size rfl rfl ⟨by omega, by omega⟩ (by omega) D.s.size ?_; intro A4 c4 w4 ho4 hg4 hf4; have D4 := D.colors hg4 ho4; have fz := ((D.x.grown hg4 (OS.typed' D.oa.os D.x (by decide))).frozen 0); have cz := ((D.x.grown hg4 (OS.typed' D.oa.os D.x (by decide))).cells2.1))
            go_roundw
            case rel => exact ⟨A4, n + 1, c4, _, by omega, D4⟩
            case measure => rw [lenC_at D4.x.cells2.1, lenC_at z0]; omega
          · clear z0 z1
            obtain ⟨y0, y1⟩ := D.x.cells2
            obtain ⟨r0, r1⟩ := D.r.cells2
            have f0 := D.r.frozen 0
            have f1 := D.r.frozen 1
            have hD := D.done
            clear D
            go_wp2
            clear y0 y1 r0 r1
            obtain ⟨y0, y1⟩ := hD.2.2.2.cells2
            exact bodyPost_ret (v := .agg #[.slice A n c, .slice F m d]) (by simp [results, Tryz.results42, go_sem, y0, y1]) rfl ⟨_, _, _, _, _, _, _, _, _, rfl, hD.2.1, hD.2.2.1, hD.1, by omega, by omega, by omega⟩
    have t3 : (x == 3) = false := by simp [e3]
    clear e0 e1 e2 e3
    obtain ⟨y0, y1⟩ := D.x.cells2
    obtain ⟨r0, r1⟩ := D.r.cells2
    have f0 := D.r.frozen 0
    have f1 := D.r.frozen 1
    have hD := D.done
    clear D
    go_wp2
    clear y0 y1 r0 r1
    obtain ⟨y0, y1⟩ := hD.2.2.2.cells2
    exact bodyPost_ret (v := .agg #[.slice A N c, .slice F m d]) (by simp [results, Tryz.results42, go_sem, y0, y1]) rfl ⟨_, _, _, _, _, _, _, _, _, rfl, hD.2.1, hD.2.2.1, hD.1, by omega, by omega, by omega⟩
  | false =>
    obtain ⟨N, rfl⟩ := Int.eq_ofNat_of_zero_le n0
    have hqq : q ≤ p + 10 := by omega
    clear hq hq1 n0
    go_wp2_with fail
    refine (l21DrawSize_any g q N _ S.src (by omega) (by omega)).mono ?_
    rintro e w5 ⟨A, c, F, m, d, cs, es, q5, rfl, hoa, hoe, S5, hq5, hm⟩
    have hsz := S.size
    have D : DG w (w5.alloc (.cells #[.slice A N c, .slice F m d] 27)) g q5 w.heap.size w5.heap.size A N c F m d cs es :=
      ⟨(S.then_ S5).step (below_alloc w5 _), Blk.new w5 _ _, (S5_R R S S5).alloc _, (hoa.more hsz).alloc _, (hoe.more hsz).alloc _, by have := (S5_R R S S5).lt; omega, Nat.le_refl _, (S.then_ S5).size⟩
    clear R S S5 hoa hoe hsz
    go_wp2_with fail
    refine (pick_any g q5 12 _ D.s.src (by omega) (by omega) (by omega)).mono ?_
    rintro e w6 ⟨x, q6, rfl, x0, x1, hq6, hs6, hg6⟩
    have D := D.draw hs6 hg6
    clear hs6 hg6
    generalize w5.heap.size = gb at *
    by_cases e0 : x = 0
    · have t0 : (x == 0) = true := by simp [e0]
      clear e0
      go_wp2_with fail
      refine (pick_any g q6 ((N : Int) + 1) _ D.s.src (by omega) (by omega) (by omega)).mono ?_
      rintro e w7 ⟨a, q7, rfl, a0, a1, hq7, hs7, hg7⟩
      have D := D.draw hs7 hg7
      clear hs7 hg7
      go_wp2_with fail
      refine (pick_any g q7 ((N : Int) + 2) _ D.s.src (by omega) (by omega) (by omega)).mono ?_
      rintro e w8 ⟨b, q8, rfl, b0, b1, hq8, hs8, hg8⟩
      have D := D.draw hs8 hg8
      clear hs8 hg8
      have L := RE.lit1 w8 65 a (b - 1) ⟨by omega, by omega⟩ ⟨by omega, by omega⟩
      have G := D.step (below_alloc w8 (.cells #[.int .i64 a, .int .i64 (b - 1)] 65))
      obtain ⟨x0', x1'⟩ := D.x.cells2
      clear D
      go_wp2_with (at_builtin; refine app_edges _ rfl (.tmp 32) (.tmp 36) rfl w.heap.size F m d _ rfl G.of_ (some ⟨w8.heap.size, 0, none⟩) 1 1 [(a, b - 1)] rfl L (fun e he => by simp at he; subst he; exact ⟨⟨by omega, by omega⟩, ⟨by omega, by omega⟩⟩) (by omega) G.s.size ?_; intro F' d' w3 ho3 hg3 hn3; have D := G.edges hg3 ho3; have fz := ((G.x.grown hg3 (OS.typed' G.of_.os G.x (by decide))).frozen 1); have cz := ((G.x.grown hg3 (OS.typed' G.of_.os G.x (by decide))).cells2.2); obtain ⟨y0, y1⟩ := D.x.cells2; obtain ⟨r0, r1⟩ := D.r.cells2; have f0 := D.r.frozen 0; have f1 := D.r.frozen 1; have hD := D.done)
      clear y0 y1 r0 r1
      obtain ⟨y0, y1⟩ := hD.2.2.2.cells2
      exact bodyPost_ret (v := .agg #[.slice A N c, .slice F' (m + 1) d']) (by simp [results, Tryz.results42, go_sem, y0, y1]) rfl ⟨_, _, _, _, _, _, _, _, _, rfl, hD.2.1, hD.2.2.1, hD.1, by omega, by omega, by omega⟩
    have t0 : (x == 0) = false := by simp [e0]
    by_cases e1 : x = 1
    · have t1 : (x == 1) = true := by simp [e1]
      clear e0 e1
      by_cases hN : 0 < N
      · go_wp2_with fail
        refine (pick_any g q6 (N : Int) _ D.s.src (by omega) (by omega) (by omega)).mono ?_
        rintro e w7 ⟨a, q7, rfl, a0, a1, hq7, hs7, hg7⟩
        obtain ⟨a, rfl⟩ := Int.eq_ofNat_of_zero_le a0
        have D := D.draw hs7 hg7
        clear hs7 hg7
        obtain ⟨ga, rfl, -, -, -⟩ := D.oa.cell (k := a) (by omega)
        have HD := Lib.hid (D.step (below_drewn _ 1))
        have R3 := litS3 w7 2 (-1) 63 64 ⟨by omega, by omega⟩ ⟨by omega, by omega⟩ ⟨by omega, by omega⟩
        have D7 := (D.step (below_alloc w7 (.cells #[.int .i64 (-1), .int .i64 63, .int .i64 64] 2))).step (below_drewn _ 1)
        have hgs := D.s.src.lt
        have HC := Lib.hid (among_any g q7 _ 3 3 _ _ D7.s.src (by omega) (R3.keep (below_drewn _ 1)) (fun b hb => by cases hb; show w7.heap.size ≠ g; omega) (by omega) (by omega))
        have HD7 := Lib.hid D7
        have hN1 : (a : Int) < N := by omega
        clear D D7 R3 hgs a0 a1
        go_wp2
        go_region_held_law (fun w' => w'.cell? ⟨gb, 0, none⟩ = some (.slice (some ⟨ga, 0, none⟩) N c))
          (first | exact HD.out.x.cells2.1 | exact HD7.out.x.cells2.1 | exact D8.x.cells2.1 | exact D9.x.cells2.1)
          ((go_at_call 43; refine HC.out.mono ?_; rintro e w8 ⟨y, q8, rfl, hy, hq8, hs8, hg8⟩; have D8 := HD7.out.draw hs8 hg8; obtain ⟨ga', hga, cc, cf, -⟩ := D8.oa.cell (k := a) (by omega); cases hga; have D9 := D8.colorsIn (grown_set (g := ga) (p := a) (u := .int .i64 y)) (D8.oa.set a (u := y) (by simp at hy; rcases hy with rfl | rfl | rfl <;> exact ⟨by omega, by omega⟩))))
        have D := D9
        clear HC HD HD7 D8 D9 hy cc cf
        obtain ⟨y0, y1⟩ := D.x.cells2
        obtain ⟨r0, r1⟩ := D.r.cells2
        have f0 := D.r.frozen 0
        have f1 := D.r.frozen 1
        have hD := D.done
        clear D
        go_wp2
        clear y0 y1 r0 r1
        obtain ⟨y0, y1⟩ := hD.2.2.2.cells2
        exact bodyPost_ret (v := .agg #[.slice (some ⟨ga, 0, none⟩) N c, .slice F m d]) (by simp [results, Tryz.results42, go_sem, y0, y1]) rfl ⟨_, _, _, _, _, _, _, _, _, rfl, hD.2.1, hD.2.2.1, hD.1, by omega, by omega, by omega⟩
      · obtain ⟨y0, y1⟩ := D.x.cells2
        obtain ⟨r0, r1⟩ := D.r.cells2
        have f0 := D.r.frozen 0
        have f1 := D.r.frozen 1
        have hD := D.done
        clear D
        go_wp2
        clear y0 y1 r0 r1
        obtain ⟨y0, y1⟩ := hD.2.2.2.cells2
        exact bodyPost_ret (v := .agg #[.slice A N c, .slice F m d]) (by simp [results, Tryz.results42, go_sem, y0, y1]) rfl ⟨_, _, _, _, _, _, _, _, _, rfl, hD.2.1, hD.2.2.1, hD.1, by omega, by omega, by omega⟩
    have t1 : (x == 1) = false := by simp [e1]
    by_cases e2 : x = 2
    · have t2 : (x == 2) = true := by simp [e2]
      clear e0 e1 e2
      by_cases hm2 : 1 < m
      · obtain ⟨gF, rfl, -, -, -⟩ := D.of_.cell (k := 1) (by omega)
        have D1 := D.step (below_drewn _ 1)
        obtain ⟨_, hF, c2, c3, f2, f3, i2, i3⟩ := D1.of_.cell (k := 1) (by omega)
        cases hF
        obtain ⟨_, hF, c0, c1, f0, f1, -, -⟩ := D1.of_.cell (k := 0) (by omega)
        cases hF
        have D2 := D1.edgesIn ((grown_set (g := gF) (p := 0 * 2) (u := .int .i64 (nthE es 1).1)).trans (grown_set (g := gF) (p := 0 * 2 + 1) (u := .int .i64 (nthE es 1).2))) (D1.of_.set 0 i2 i3)
        have HD := Lib.hid D1
        obtain ⟨_, hF, b0, b1, b2, b3, -⟩ := D.of_.cell (k := 0) (by omega)
        cases hF
        obtain ⟨_, hF, d2, d3, -⟩ := D2.of_.cell (k := 1) (by omega)
        cases hF
        rw [nthE_set01] at d2 d3
        have hl0 : 0 < es.length := by rw [D1.of_.len]; omega
        have hE := (ecells_at (es := es) (j := 0) (e := nthE es 0) (by rw [nthE_get hl0]; exact List.getElem?_eq_getElem hl0)).2
        obtain ⟨_, hF, g1, g2⟩ := (D1.of_.os.set 0 (.int .i64 (nthE es 1).1)).cell (j := 1) (u := .int .i64 (nthE es 0).2) (by rw [List.getElem?_set_ne (by decide)]; simpa using hE)
        cases hF
        clear hE hl0
        simp only [Nat.zero_mul, Nat.one_mul, Nat.zero_add, Nat.reduceAdd] at b0 b1 b2 b3 c0 c1 c2 c3 f0 f1 f2 f3 d2 d3 D2
        simp only [← World.drew_is_drewN] at c0 c1 c2 c3 f0 f1 f2 f3 d2 d3 D2 g1 g2
        obtain ⟨z0, z1⟩ := D.x.cells2
        clear D D1
        go_wp2
        clear z0 z1
        have h1 : w6.drew.cell? ⟨gb, 1, none⟩ = some (.slice (some ⟨gF, 0, none⟩) m d) := HD.out.x.cells2.2
        have hm0 : 0 < m := by omega
        refine region_last (P := Tryz.prog) (S := fun w' => w'.cell? ⟨gb, 1, none⟩ = some (.slice (some ⟨gF, 0, none⟩) m d) ∧ w'.cell? ⟨gF, 2, none⟩ = some (.int .i64 (nthE es 1).1) ∧ w'.cell? ⟨gF, 3, none⟩ = some (.int .i64 (nthE es 1).2)) (by kernel_rfl) (by simp only [List.getLast?_cons_cons, List.getLast?_singleton]; rfl) (by dsimp only [List.dropLast]) (by kernel_rfl) ⟨h1, c2, c3⟩ ?_
        intro hS
        refine wpAnyH_take (i := 0) (v := ?_) rfl (by kernel_rfl) (by kernel_rfl) (by kernel_rfl) (fun _ _ _ h => h) (Or.inl ⟨by rfl, ?_⟩) (by assumption) ?_
        rotate_left
        · (intro w hSw; (try dsimp only at hSw); go_simp; (try with_reducible rfl))
        simp only [Act.put, List.setIfInBounds_toArray, List.set_cons_zero, List.set_cons_succ]
        refine wpAnyH_take (i := 1) (v := ?_) rfl (by kernel_rfl) (by kernel_rfl) (by kernel_rfl) (fun _ _ _ h => h) (Or.inl ⟨by rfl, ?_⟩) (by assumption) ?_
        rotate_left
        · (intro w hSw; (try dsimp only at hSw); go_simp; (try with_reducible rfl))
        simp only [Act.put, List.setIfInBounds_toArray, List.set_cons_zero, List.set_cons_succ]
        refine wpAnyH_take (i := 2) (v := ?_) rfl (by kernel_rfl) (by kernel_rfl) (by kernel_rfl) (fun _ _ _ h => h) (Or.inl ⟨by rfl, ?_⟩) (by assumption) ?_
        rotate_left
        · (intro w hSw; (try dsimp only at hSw); go_simp; (try with_reducible rfl))
        simp only [Act.put, List.setIfInBounds_toArray, List.set_cons_zero, List.set_cons_succ]
        refine wpAnyH_take (i := 3) (v := ?_) rfl (by kernel_rfl) (by kernel_rfl) (by kernel_rfl) (fun _ _ _ h => h) (Or.inl ⟨by rfl, ?_⟩) (by assumption) ?_
        rotate_left
        · (intro w hSw; (try dsimp only at hSw); go_simp; (try with_reducible rfl))
        simp only [Act.put, List.setIfInBounds_toArray, List.set_cons_zero, List.set_cons_succ]
        refine wpAnyH_take (i := 4) (v := ?_) rfl (by kernel_rfl) (by kernel_rfl) (by kernel_rfl) (fun _ _ _ h => h) (Or.inl ⟨by rfl, ?_⟩) (by assumption) ?_
        rotate_left
        · (intro w hSw; (try dsimp only at hSw); go_simp; (try with_reducible rfl))
        simp only [Act.put, List.setIfInBounds_toArray, List.set_cons_zero, List.set_cons_succ]
        refine wpAnyH_take (i := 5) (v := ?_) rfl (by kernel_rfl) (by kernel_rfl) (by kernel_rfl) (fun _ _ _ h => h) (Or.inl ⟨by rfl, ?_⟩) (by assumption) ?_
        rotate_left
        · (intro w hSw; (try dsimp only at hSw); go_simp; (try with_reducible rfl))
        simp only [Act.put, List.setIfInBounds_toArray, List.set_cons_zero, List.set_cons_succ]
        refine wpAnyH_take (i := 6) (v := ?_) rfl (by kernel_rfl) (by kernel_rfl) (by kernel_rfl) (fun _ _ _ h => h) (Or.inl ⟨by rfl, ?_⟩) (by assumption) ?_
        rotate_left
        · (intro w hSw; (try dsimp only at hSw); go_simp; (try with_reducible rfl))
        simp only [Act.put, List.setIfInBounds_toArray, List.set_cons_zero, List.set_cons_succ]
        refine wpAnyH_done (by kernel_rfl) ?_ _
        dsimp only [atEnd]
        clear hS
        clear HD b0 b1 b2 b3
        generalize w6.drew = W at *
        have D := D2
        clear D2 d2 d3 h1
        obtain ⟨y0, y1⟩ := D.x.cells2
        obtain ⟨r0, r1⟩ := D.r.cells2
        have f0 := D.r.frozen 0
        have f1 := D.r.frozen 1
        have hD := D.done
        clear D
        go_wp2
        clear y0 y1 r0 r1
        obtain ⟨y0, y1⟩ := hD.2.2.2.cells2
        exact bodyPost_ret (v := .agg #[.slice A N c, .slice (some ⟨gF, 0, none⟩) m d]) (by simp [results, Tryz.results42, go_sem, y0, y1]) rfl ⟨_, _, _, _, _, _, _, _, _, rfl, hD.2.1, hD.2.2.1, hD.1, by omega, by omega, by omega⟩
      · obtain ⟨y0, y1⟩ := D.x.cells2
        obtain ⟨r0, r1⟩ := D.r.cells2
        have f0 := D.r.frozen 0
        have f1 := D.r.frozen 1
        have hD := D.done
        clear D
        go_wp2
        clear y0 y1 r0 r1
        obtain ⟨y0, y1⟩ := hD.2.2.2.cells2
        exact bodyPost_ret (v := .agg #[.slice A N c, .slice F m d]) (by simp [results, Tryz.results42, go_sem, y0, y1]) rfl ⟨_, _, _, _, _, _, _, _, _, rfl, hD.2.1, hD.2.2.1, hD.1, by omega, by omega, by omega⟩
    have t2 : (x == 2) = false := by simp [e2]
    by_cases e3 : x = 3
    · have t3 : (x == 3) = true := by simp [e3]
      clear e0 e1 e2 e3
      go_wp2_with fail
      refine (one_any g q6 3 _ D.s.src (by omega) (by omega) (by omega)).mono ?_
      rintro e w7 ⟨b, q7, rfl, hq7, hs7, hg7⟩
      have D := D.draw hs7 hg7
      clear hs7 hg7
      cases b with
      | false =>
        obtain ⟨y0, y1⟩ := D.x.cells2
        obtain ⟨r0, r1⟩ := D.r.cells2
        have f0 := D.r.frozen 0
        have f1 := D.r.frozen 1
        have hD := D.done
        clear D
        go_wp2
        clear y0 y1 r0 r1
        obtain ⟨y0, y1⟩ := hD.2.2.2.cells2
        exact bodyPost_ret (v := .agg #[.slice A N c, .slice F m d]) (by simp [results, Tryz.results42, go_sem, y0, y1]) rfl ⟨_, _, _, _, _, _, _, _, _, rfl, hD.2.1, hD.2.2.1, hD.1, by omega, by omega, by omega⟩
      | true =>
        go_wp2
        go_loopw [] (fun wr => ∃ (A : Option Addr) (n c : Nat) (cs : List Int), n ≤ 65 ∧ DG w wr g q7 w.heap.size gb A n c F m d cs es) (fun wr => 65 - lenC wr gb)
        case atStart => exact ⟨A, N, c, cs, by omega, D⟩
        case round =>
          clear D
          obtain ⟨A, n, c, cs, hn, D⟩ := hrel
          obtain ⟨z0, z1⟩ := D.x.cells2
          by_cases hlt : n < 65
          · go_wp2_with (at_builtin; refine app_int _ rfl (.tmp 75) (.tmp 76) rfl w.heap.size A n c _ rfl D.oa 0 wr.heap.size rfl rfl ⟨by omega, by omega⟩ (by omega) D.s.size ?_; intro A4 c4 w4 ho4 hg4 hf4; have D4 := D.colors hg4 ho4; have fz := ((D.x.grown hg4 (OS.typed' D.oa.os D.x (by decide))).frozen 0); have cz := ((D.x.grown hg4 (OS.typed' D.oa.os D.x (by decide))).cells2.1))
            go_roundw
            case rel => exact ⟨A4, n + 1, c4, _, by omega, D4⟩
            case measure => rw [lenC_at D4.x.cells2.1, lenC_at z0]; omega
          · clear z0 z1
            obtain ⟨y0, y1⟩ := D.x.cells2
            obtain ⟨r0, r1⟩ := D.r.cells2
            have f0 := D.r.frozen 0
            have f1 := D.r.frozen 1
            have hD := D.done
            clear D
            go_wp2
            clear y0 y1 r0 r1
            obtain ⟨y0, y1⟩ := hD.2.2.2.cells2
            exact bodyPost_ret (v := .agg #[.slice A n c, .slice F m d]) (by simp [results, Tryz.results42, go_sem, y0, y1]) rfl ⟨_, _, _, _, _, _, _, _, _, rfl, hD.2.1, hD.2.2.1, hD.1, by omega, by omega, by omega⟩
    have t3 : (x == 3) = false := by simp [e3]
    clear e0 e1 e2 e3
    obtain ⟨y0, y1⟩ := D.x.cells2
    obtain ⟨r0, r1⟩ := D.r.cells2
    have f0 := D.r.frozen 0
    have f1 := D.r.frozen 1
    have hD := D.done
    clear D
    go_wp2
    clear y0 y1 r0 r1
    obtain ⟨y0, y1⟩ := hD.2.2.2.cells2
    exact bodyPost_ret (v := .agg #[.slice A N c, .slice F m d]) (by simp [results, Tryz.results42, go_sem, y0, y1]) rfl ⟨_, _, _, _, _, _, _, _, _, rfl, hD.2.1, hD.2.2.1, hD.1, by omega, by omega, by omega⟩
end Go.Proofs.YtkihflnenifcgaaGreatDoor
