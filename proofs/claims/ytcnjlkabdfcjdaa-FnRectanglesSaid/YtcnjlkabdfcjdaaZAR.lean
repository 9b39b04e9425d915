/- Drawn partial squares: spec.l09Draw, spec.DrawCompletePartial. No condition beyond those stated. -/
import Derived.Test.YtcnjlkabdfcjdaaZAQ
set_option linter.unusedVariables false
set_option linter.unusedSimpArgs false
namespace Go.Proofs.Ytcnjlkabdfcjdaa
open Go.RowKit

theorem DPs.rows {w wr : World} {g q : Nat} {A : Option Addr} {n c : Nat} {zss : List (List Int)} (h : DPs w wr g q A n c zss) (hn : n ≤ 10) : ∀ z ∈ zss, z.length ≤ 10 := fun z hz => by
  obtain ⟨i, hi, rfl⟩ := List.mem_iff_getElem.1 hz
  have := h.sh i (by rw [← h.o.len]; exact hi)
  rw [row_get hi] at this
  omega
theorem DPs.ret {w wr : World} {g q p k : Nat} {A : Option Addr} {n c : Nat} {zss : List (List Int)} (h : DPs w wr g q A n c zss) (hn : n ≤ 10) (hq : q ≤ p + k) : RetDr w g p k (.returned (.slice A n c)) wr := by
  obtain ⟨vs, hob⟩ := OB.of_or h.o
  exact ⟨A, n, c, zss, q, rfl, RRo.of_OB hob, hn, h.rows hn, h.s, hq⟩
set_option maxRecDepth 100000 in
set_option maxHeartbeats 4000000 in
theorem l09Draw_any (g p : Nat) (w : World) (hs : Src w g p) (hp : p ≤ 1000000000) :
    Calls Try.prog 45 #[.pointer (some ⟨g, 0, none⟩)] w (RetDr w g p 1100) := by
  have S := SrW.start hs
  go_enter Try.func45, Try.ntmps45
  go_wp2_with fail
  refine (pick_any g p 6 w S.src (by omega) (by omega) (by omega)).mono ?_
  rintro e w1 ⟨x, q1, rfl, x0, x1, hq1, hs1, hg1⟩
  have S := S.next hs1 hg1
  obtain ⟨n0, hn0⟩ : ∃ n0 : Nat, x + 1 = (n0 : Int) := ⟨(x + 1).toNat, by omega⟩
  have hn1 : 1 ≤ n0 ∧ n0 ≤ 10 := by omega
  clear hs1 hg1 x0 x1
  go_wp2_with fail
  try rw [hn0]
  refine (one_any g q1 6 w1 S.src (by omega) (by omega) (by omega)).mono ?_
  rintro e w2 ⟨b, q2, rfl, hq2, hs2, hg2⟩
  have S := S.next hs2 hg2
  clear hs2 hg2
  go_upto_if 11 with (fail)
  go_cut [3] (fun s3 wx => ∃ (n q : Nat), s3 = .int .i64 n ∧ (1 ≤ n ∧ n ≤ 10) ∧ q ≤ p + 6 ∧ SrW w wx g q)
  case first =>
    cases b with
    | true =>
      go_wp2_with fail
      refine (pick_any g q2 10 _ S.src (by omega) (by omega) (by omega)).mono ?_
      rintro e w3 ⟨y, q3, rfl, y0, y1, hq3, hs3, hg3⟩
      have S := S.next hs3 hg3
      obtain ⟨n, hn⟩ : ∃ n : Nat, y + 1 = (n : Int) := ⟨(y + 1).toNat, by omega⟩
      go_wp2
      try rw [hn]
      go_meet
      exact ⟨n, q3, rfl, by omega, by omega, S⟩
    | false =>
      go_wp2
      go_meet
      exact ⟨n0, q2, rfl, hn1, by omega, S⟩
  case rest =>
    clear S hn0 hn1
    obtain ⟨n, q, rfl, hn, hq, S⟩ := hcut
    go_wp2_with fail
    refine (l09DrawPartial_any g q n wc S.src (by omega) hn.1 hn.2).mono ?_
    rintro e w3 ⟨A, c, zss, q3, rfl, D0, hq3⟩
    have D : DPs w w3 g q3 A n c zss := ⟨D0.o.more S.size, D0.sh, S.then_ D0.s⟩
    clear D0 S
    go_wp2_with fail
    refine (pick_any g q3 12 w3 D.s.src (by omega) (by omega) (by omega)).mono ?_
    rintro e w4 ⟨k, q4, rfl, k0, k1, hq4, hs4, hg4⟩
    have D := D.draw hs4 hg4
    clear hs4 hg4
    by_cases e0 : k = 0
    · subst e0
      go_wp2_with fail
      refine (pick_any g q4 n w4 D.s.src (by omega) (by omega) (by omega)).mono ?_
      rintro e w5 ⟨x, q5, rfl, x0, x1, hq5, hs5, hg5⟩
      have D := D.draw hs5 hg5
      clear hs5 hg5
      go_wp2_with fail
      refine (pick_any g q5 n w5 D.s.src (by omega) (by omega) (by omega)).mono ?_
      rintro e w6 ⟨y, q6, rfl, y0, y1, hq6, hs6, hg6⟩
      have D := D.draw hs6 hg6
      clear hs6 hg6
      obtain ⟨i, rfl⟩ := Int.eq_ofNat_of_zero_le x0
      obtain ⟨j, rfl⟩ := Int.eq_ofNat_of_zero_le y0
      have hin : i < n := by omega
      have hjn : j < n := by omega
      clear x0 x1 y0 y1
      obtain ⟨gA, gr, vc, rfl, ⟨hci, hfi⟩, ⟨kl1, kl2⟩, ⟨hcj, hfj, -⟩, ⟨hr0, hgA, hgr⟩, -⟩ := D.cell hin hjn
      go_wp2
      refine region_suf (P := Try.prog) (n := 11) (S := fun w' => w'.cell? ⟨gA, i, none⟩ = some (.slice (some ⟨gr, 0, none⟩) n vc)) (by kernel_rfl) (by simp only [List.take_succ_cons, List.take_zero]; rfl) (by simp only [List.drop_succ_cons, List.drop_zero]; rfl) (by kernel_rfl) (by simpa using hci) ?_
      intro hS0
      refine wpAnyH_take (i := 0) (v := ?_) rfl (by kernel_rfl) (by kernel_rfl) (by kernel_rfl) (fun _ _ _ h => h) (Or.inl ⟨by rfl, ?_⟩) (by assumption) ?_
      rotate_left
      · (intro w hSw; (try dsimp only at hSw); go_simp; (try with_reducible rfl))
      simp only [Act.put, List.setIfInBounds_toArray, List.set_cons_zero, List.set_cons_succ]
      refine wpAnyH_take (i := 1) (v := ?_) rfl (by kernel_rfl) (by kernel_rfl) (by kernel_rfl) (fun _ _ _ h => h) (Or.inl ⟨by rfl, ?_⟩) (by assumption) ?_
      rotate_left
      · (intro w hSw; (try dsimp only at hSw); go_simp; (try with_reducible rfl))
      simp only [Act.put, List.setIfInBounds_toArray, List.set_cons_zero, List.set_cons_succ]
      refine wpAnyH_take (i := 2) (v := ?_) rfl (by kernel_rfl) (by kernel_rfl) (by kernel_rfl) (fun _ _ _ h => h) (Or.inl ⟨by rfl, ?_⟩) (by assumption) ?_
      rotate_left
      · (intro w hSw; (try dsimp only at hSw); go_simp; (try with_reducible rfl))
      simp only [Act.put, List.setIfInBounds_toArray, List.set_cons_zero, List.set_cons_succ]
      refine wpAnyH_take (i := 3) (v := ?_) rfl (by kernel_rfl) (by kernel_rfl) (by kernel_rfl) (fun _ _ _ h => h) (Or.inl ⟨by rfl, ?_⟩) (by assumption) ?_
      rotate_left
      · (intro w hSw; (try dsimp only at hSw); go_simp; (try with_reducible rfl))
      simp only [Act.put, List.setIfInBounds_toArray, List.set_cons_zero, List.set_cons_succ]
      refine wpAnyH_take (i := 4) (v := ?_) rfl (by kernel_rfl) (by kernel_rfl) (by kernel_rfl) (fun _ _ _ h => h) (Or.inl ⟨by rfl, ?_⟩) (by assumption) ?_
      rotate_left
      · (intro w hSw; (try dsimp only at hSw); go_simp; (try with_reducible rfl))
      simp only [Act.put, List.setIfInBounds_toArray, List.set_cons_zero, List.set_cons_succ]
      refine wpAnyH_take (i := 5) (v := ?_) rfl (by kernel_rfl) (by kernel_rfl) (by kernel_rfl) (fun _ _ _ h => h) (Or.inl ⟨by rfl, ?_⟩) (by assumption) ?_
      rotate_left
      · (intro w hSw; (try dsimp only at hSw); go_simp; (try with_reducible rfl))
      simp only [Act.put, List.setIfInBounds_toArray, List.set_cons_zero, List.set_cons_succ]
      refine wpAnyH_take (i := 6) (v := ?_) rfl (by kernel_rfl) (by kernel_rfl) (by kernel_rfl) (fun _ _ _ h => h) (Or.inl ⟨by rfl, ?_⟩) (by assumption) ?_
      rotate_left
      · (intro w hSw; (try dsimp only at hSw); go_simp; (try with_reducible rfl))
      simp only [Act.put, List.setIfInBounds_toArray, List.set_cons_zero, List.set_cons_succ]
      refine wpAnyH_take (i := 7) (v := ?_) rfl (by kernel_rfl) (by kernel_rfl) (by kernel_rfl) (fun _ _ _ h => h) (Or.inl ⟨by rfl, ?_⟩) (by assumption) ?_
      rotate_left
      · (intro w hSw; (try dsimp only at hSw); go_simp; (try with_reducible rfl))
      simp only [Act.put, List.setIfInBounds_toArray, List.set_cons_zero, List.set_cons_succ]
      refine wpAnyH_take (i := 8) (v := ?_) rfl (by kernel_rfl) (by kernel_rfl) (by kernel_rfl) (fun _ _ _ h => h) (Or.inl ⟨by rfl, ?_⟩) (by assumption) ?_
      rotate_left
      · (intro w hSw; (try dsimp only at hSw); go_simp; (try with_reducible rfl))
      simp only [Act.put, List.setIfInBounds_toArray, List.set_cons_zero, List.set_cons_succ]
      refine wpAnyH_ready (rs := [9]) (by kernel_rfl) (by simp) ?_
      refine AllReadyH.cons rfl (fun K hK => ?_) AllReadyH.nil
      go_simp
      rw [show IntKind.i64.wrap ((n : Int) - 1) = (n : Int) - 1 by rw [IntKind.wrap_i64]; omega]
      have hb7 : Below w6.heap.size w6 (w6.alloc (.cells #[.int .i64 (-2), .int .i64 (n : Int), .int .i64 0, .int .i64 ((n : Int) - 1)] 2)).drew := (below_alloc w6 _).trans ((show Below (w6.alloc (.cells #[.int .i64 (-2), .int .i64 (n : Int), .int .i64 0, .int .i64 ((n : Int) - 1)] 2)).heap.size _ _ by have := below_drewn (w6.alloc (.cells #[.int .i64 (-2), .int .i64 (n : Int), .int .i64 0, .int .i64 ((n : Int) - 1)] 2)) 1; rwa [← World.drew_is_drewN] at this).mono (below_alloc w6 _).size)
      have hlit := (OI.lit w6 w6.heap.size 2 [-2, (n : Int), 0, (n : Int) - 1] (Nat.le_refl _) (by simp) (by intro z hz; simp at hz; unfold I64; omega)).reads
      have hlit2 : RI (w6.alloc (.cells #[.int .i64 (-2), .int .i64 (n : Int), .int .i64 0, .int .i64 ((n : Int) - 1)] 2)).drew (some ⟨w6.heap.size, 0, none⟩) 4 [-2, (n : Int), 0, (n : Int) - 1] := by
        have := hlit.drewN 1
        rwa [← World.drew_is_drewN] at this
      have hg6 := D.s.src.lt
      generalize (w6.alloc (.cells #[.int .i64 (-2), .int .i64 (n : Int), .int .i64 0, .int .i64 ((n : Int) - 1)] 2)).drew = W7 at *
      have D7 := D.step hb7
      have hci7 := below_cell hb7 hci
      refine hK.out _ _ hci7 (fun hS1 => ?_)
      clear hK K hS0
      refine wpAnyH_ready (rs := [10]) (by kernel_rfl) (by simp) ?_
      refine AllReadyH.cons rfl (fun K hK => ?_) AllReadyH.nil
      go_simp
      refine (among_any g q6 (some ⟨w6.heap.size, 0, none⟩) 4 4 [-2, (n : Int), 0, (n : Int) - 1] W7 D7.s.src (by omega) hlit2 (fun a ha => by injection ha with ha; subst ha; show w6.heap.size ≠ g; omega) (by omega) (by omega)).mono ?_
      rintro e w8 ⟨z, q8, rfl, hz, hq8, hs8, hg8⟩
      have hz64 : I64 z := by
        simp at hz
        unfold I64
        omega
      have D8 := D7.draw hs8 hg8
      obtain ⟨ga', r9, kk9, hga, ⟨co9, fo9⟩, ⟨kl19, kl29⟩, ⟨ci9, fi9, -⟩, -, hset9⟩ := D8.cell hin hjn
      injection hga with hga
      injection hga with hga
      subst hga
      have D10 := hset9 z hz64
      have hc9 := hg8.cell hci7 (fun e => hgA (by injection e))
      have e9 := co9.symm.trans hc9
      injection e9 with e9
      injection e9 with e9 e9b e9c
      injection e9 with e9
      injection e9 with e9
      subst e9 e9c
      dsimp only
      refine hK.out _ _ hc9 (fun hS2 => ?_)
      clear hK K hS1
      refine wpAnyH_done (by kernel_rfl) ?_ _
      dsimp only [atEnd]
      clear hset9 hS2 hs8 hg8 hlit hlit2 hb7 hc9 hci hfi hcj hfj D8 D7 D hz
      go_wp2
      go_ret
      exact D10.ret hn.2 (by omega)
    · have hk0 : (k == 0) = false := by simpa using e0
      by_cases e1 : k = 1
      · subst e1
        go_wp2_with fail
        refine (one_any g q4 3 w4 D.s.src (by omega) (by omega) (by omega)).mono ?_
        rintro e w5 ⟨b5, q5, rfl, hq5, hs5, hg5⟩
        have D := D.draw hs5 hg5
        clear hs5 hg5
        cases b5 with
        | true =>
          obtain ⟨vs, hob⟩ := OB.of_or D.o
          obtain ⟨gA, v, rfl, hvi, hci, hfi, hoi⟩ := hob.get (j := 0) (by omega)
          obtain ⟨vA, vn, vc⟩ := v
          have hvn := hoi.len
          simp only [] at hvn hci hoi
          obtain rfl : vn = n := by rw [← hvn]; exact D.sh 0 (by omega)
          obtain ⟨gr, rfl, hgr1, hgr2⟩ := hoi.os.form (by omega)
          have hcap := hoi.os.cap
          obtain ⟨n', rfl⟩ : ∃ n', vn = n' + 1 := ⟨vn - 1, by omega⟩
          have hst := hob.setRow 0 (v := (some ⟨gr, 0, none⟩, n', vc)) (hoi.shortD (k := n') (by omega))
          have S9 := D.s.far (grown_set (g := gA) (p := 0) (u := .slice (some ⟨gr, 0, none⟩) n' vc)) (fun b hb => by injection hb with hb; subst hb; exact (hob.os.lt rfl).1)
          have hrl := D.rows hn.2
          have hrl9 : ∀ y ∈ zss.set 0 ((row zss 0).take n'), y.length ≤ 10 := fun y hy => by
            rcases List.mem_or_eq_of_mem_set hy with h | rfl
            · exact hrl y h
            · rw [List.length_take]; omega
          have hwr : IntKind.i64.wrap (((n' + 1 : Nat) : Int) - 1) = (n' : Int) := by rw [IntKind.wrap_i64]; omega
          clear hob hoi D hrl hvn hgr1 hgr2
          go_wp2
          go_ret
          exact ⟨_, _, _, _, _, rfl, RRo.of_OB hst, hn.2, hrl9, S9, by omega⟩
        | false =>
          go_wp2
          go_ret
          exact D.ret hn.2 (by omega)
      · have hk1 : (k == 1) = false := by simpa using e1
        go_wp2
        go_ret
        exact D.ret hn.2 (by omega)
/-- drawn rows, a budget -/
def RetDCP (w : World) (e : Ending) (w' : World) : Prop := ∃ A n c zss b, e = .returned (.tuple #[.slice A n c, .int .i64 b]) ∧ RR w' A n zss ∧ (n ≤ c ∧ c ≤ 9223372036854775807) ∧ n ≤ 10 ∧ I64 b ∧ Below w.heap.size w w'
set_option maxRecDepth 100000 in
set_option maxHeartbeats 2000000 in
theorem drawCompletePartial_any (A : Option Addr) (n c : Nat) (bs : List Int) (w : World) (ha : RS EByte w A n bs) (hn : n ≤ 9223372036854775807) :
    Calls Try.prog 15 #[.slice A n c] w (RetDCP w) := by
  go_enter Try.func15, Try.ntmps15
  go_wp2_with fail
  refine (l00From_any A n c bs w ha hn).mono ?_
  rintro e w1 ⟨rfl, hs, hb⟩
  have S := SrW.start hs
  have hgw : ∀ b, some w.heap.size = some b → w.heap.size ≤ b := fun b hb => by injection hb with hb; omega
  have hsz := hb.size
  generalize hG : w.heap.size = g at *
  clear ha hs
  go_wp2_with fail
  refine (l09Draw_any g 0 w1 S.src (by omega)).mono ?_
  rintro e w2 ⟨X, m, d, zss, q, rfl, ho, hm, hrl, S2, hq⟩
  have hgl := S.gl
  have S := S.then_ S2
  clear S2
  go_wp2_with fail
  refine (l09DrawBudget_any g q w2 S.src (by omega)).mono ?_
  rintro e w4 ⟨b, q4, rfl, hb4, S4, hq4⟩
  have ho := ho.keptB S4.grown hgl
  have S := S.then_ S4
  clear S4
  go_wp2
  go_ret2
  exact ⟨X, m, d, zss, b, rfl, ho.reads, ho.cap, hm, hb4, by rw [hG]; exact hb.grown S.grown hsz hgw⟩
end Go.Proofs.Ytcnjlkabdfcjdaa
/- Drawn rectangles: spec.l09DrawRectangle, spec.DrawExtendRectangle. No condition beyond those stated. -/
namespace Go.Proofs.Ytcnjlkabdfcjdaa
open Go.RowKit

set_option maxRecDepth 100000 in
set_option maxHeartbeats 4000000 in
theorem l09DrawRectangle_any (g p : Nat) (w : World) (hs : Src w g p) (hp : p ≤ 1000000000) :
    Calls Try.prog 64 #[.pointer (some ⟨g, 0, none⟩)] w (RetDr w g p 1100) := by
  have S := SrW.start hs
  go_enter Try.func64, Try.ntmps64
  go_wp2_with fail
  refine (pick_any g p 10 w S.src (by omega) (by omega) (by omega)).mono ?_
  rintro e w1 ⟨x, q1, rfl, x0, x1, hq1, hs1, hg1⟩
  have S := S.next hs1 hg1
  obtain ⟨n, hn0⟩ : ∃ n : Nat, x + 1 = (n : Int) := ⟨(x + 1).toNat, by omega⟩
  have hn1 : 1 ≤ n := by omega
  have hn : n ≤ 10 := by omega
  clear hs1 hg1 x0 x1
  go_wp2_with fail
  try rw [hn0]
  refine (l06DrawSquare_any g q1 n w1 S.src (by omega) hn1 hn).mono ?_
  rintro e w2 ⟨A0, c0, zss0, q0, rfl, ho0, hl0, hS0, S0, hq0⟩
  have hrl := sq_rows hS0
  go_wp2_with fail
  refine (l06Own_any A0 n c0 zss0 w2 ho0.reads (by omega) (rows_few' hl0 hn hrl)).mono ?_
  rintro e w3 ⟨A, n2, c, rfl, ho, hb2⟩
  obtain rfl : n2 = n := by rw [← ho.len, hl0]
  have D : DPs w w3 g q0 A n2 c zss0 := ⟨ho.more (Nat.le_trans S.size S0.size), fun i hi => by have := (hS0.2.2.1 i (by omega)).1; omega, (S.then_ S0).step hb2⟩
  clear ho0 hS0 S0 hrl ho hb2 hl0 hs S
  go_wp2_with fail
  try rw [hn0]
  refine (pick_any g q0 ((n2 : Int) + 1) w3 D.s.src (by omega) (by omega) (by omega)).mono ?_
  rintro e w4 ⟨fr, q4, rfl, f0, f1, hq4, hs4, hg4⟩
  have D := D.draw hs4 hg4
  obtain ⟨fr, rfl⟩ := Int.eq_ofNat_of_zero_le f0
  have hfr : fr ≤ n2 := by omega
  clear hs4 hg4 f0 f1
  go_wp2
  try rw [hn0]
  go_loopw [6] (fun i wr => ∃ (k : Nat) (zss : List (List Int)), k ≤ n2 ∧ i = .int .i64 k ∧ DPs w wr g q4 A n2 c zss) (fun i _ => n2 - (intOf i).toNat)
  case atStart => exact ⟨fr, zss0, hfr, rfl, D⟩
  case round =>
    clear D
    obtain ⟨k, zss, hk, rfl, D⟩ := hrel
    by_cases hlt : k < n2
    · have HD := Lib.hid D
      clear D
      go_wp2
      go_loopw [7] (fun i wr => ∃ (j : Nat) (zss : List (List Int)), j ≤ n2 ∧ i = .int .i64 j ∧ DPs w wr g q4 A n2 c zss) (fun i _ => n2 - (intOf i).toNat)
      case atStart => exact ⟨0, zss, Nat.zero_le _, rfl, HD.out⟩
      case round =>
        clear HD
        obtain ⟨j, zss, hj, rfl, D⟩ := hrel
        by_cases hlt2 : j < n2
        · obtain ⟨ga, r, kk, rfl, ⟨co, fo⟩, ⟨kl1, kl2⟩, ⟨ci, fi, -⟩, -, hset⟩ := D.cell hlt hlt2
          have D9 := Lib.hid (hset (-1) (by unfold I64; omega))
          clear hset D
          go_wp2
          go_roundw
          case rel => exact ⟨j + 1, _, by omega, by go_num, D9.out⟩
          case measure => simp [intOf]; omega
        · go_wp2
          go_roundw
          case rel => exact ⟨k + 1, zss, by omega, by go_num, D⟩
          case measure => simp [intOf]; omega
    · go_wp2_with fail
      refine (one_any g q4 8 wr D.s.src (by omega) (by omega) (by omega)).mono ?_
      rintro e w5 ⟨b5, q5, rfl, hq5, hs5, hg5⟩
      have D := D.draw hs5 hg5
      clear hs5 hg5
      cases b5 with
      | false =>
        go_wp2
        go_ret
        exact D.ret hn (by omega)
      | true =>
        go_wp2_with fail
        refine (pick_any g q5 n2 w5 D.s.src (by omega) (by omega) (by omega)).mono ?_
        rintro e w6 ⟨x, q6, rfl, x0, x1, hq6, hs6, hg6⟩
        have D := D.draw hs6 hg6
        obtain ⟨x, rfl⟩ := Int.eq_ofNat_of_zero_le x0
        have hx : x < n2 := by omega
        clear hs6 hg6 x0 x1
        have hdr : Below w6.heap.size w6 w6.drew := by have := below_drewn w6 1; rwa [← World.drew_is_drewN] at this
        obtain ⟨ga, r, kk, rfl, ⟨co, fo⟩, ⟨kl1, kl2⟩, -, ⟨hr0, hg1, hg2⟩, -⟩ := D.cell hx (j := 0) (by omega)
        have D8 := D.step hdr
        have co8 := below_cell hdr co
        clear D
        go_wp2
        refine region_suf (P := Try.prog) (n := 7) (S := fun w' => w'.cell? ⟨ga, x, none⟩ = some (.slice (some ⟨r, 0, none⟩) n2 kk)) (by kernel_rfl) (by simp only [List.take_succ_cons, List.take_zero]; rfl) (by simp only [List.drop_succ_cons, List.drop_zero]; rfl) (by kernel_rfl) (by simpa using co) ?_
        intro hS0
        generalize w6.drew = W8 at *
        refine wpAnyH_take (i := 0) (v := ?_) rfl (by kernel_rfl) (by kernel_rfl) (by kernel_rfl) (fun _ _ _ h => h) (Or.inl ⟨by rfl, ?_⟩) (by assumption) ?_
        rotate_left
        · (intro w hSw; (try dsimp only at hSw); go_simp; (try with_reducible rfl))
        simp only [Act.put, List.setIfInBounds_toArray, List.set_cons_zero, List.set_cons_succ]
        refine wpAnyH_take (i := 1) (v := ?_) rfl (by kernel_rfl) (by kernel_rfl) (by kernel_rfl) (fun _ _ _ h => h) (Or.inl ⟨by rfl, ?_⟩) (by assumption) ?_
        rotate_left
        · (intro w hSw; (try dsimp only at hSw); go_simp; (try with_reducible rfl))
        simp only [Act.put, List.setIfInBounds_toArray, List.set_cons_zero, List.set_cons_succ]
        refine wpAnyH_take (i := 2) (v := ?_) rfl (by kernel_rfl) (by kernel_rfl) (by kernel_rfl) (fun _ _ _ h => h) (Or.inl ⟨by rfl, ?_⟩) (by assumption) ?_
        rotate_left
        · (intro w hSw; (try dsimp only at hSw); go_simp; (try with_reducible rfl))
        simp only [Act.put, List.setIfInBounds_toArray, List.set_cons_zero, List.set_cons_succ]
        refine wpAnyH_take (i := 3) (v := ?_) rfl (by kernel_rfl) (by kernel_rfl) (by kernel_rfl) (fun _ _ _ h => h) (Or.inl ⟨by rfl, ?_⟩) (by assumption) ?_
        rotate_left
        · (intro w hSw; (try dsimp only at hSw); go_simp; (try with_reducible rfl))
        simp only [Act.put, List.setIfInBounds_toArray, List.set_cons_zero, List.set_cons_succ]
        refine wpAnyH_take (i := 4) (v := ?_) rfl (by kernel_rfl) (by kernel_rfl) (by kernel_rfl) (fun _ _ _ h => h) (Or.inl ⟨by rfl, ?_⟩) (by assumption) ?_
        rotate_left
        · (intro w hSw; (try dsimp only at hSw); go_simp; (try with_reducible rfl))
        simp only [Act.put, List.setIfInBounds_toArray, List.set_cons_zero, List.set_cons_succ]
        refine wpAnyH_take (i := 5) (v := ?_) rfl (by kernel_rfl) (by kernel_rfl) (by kernel_rfl) (fun _ _ _ h => h) (Or.inl ⟨by rfl, ?_⟩) (by assumption) ?_
        rotate_left
        · (intro w hSw; (try dsimp only at hSw); go_simp; (try with_reducible rfl))
        simp only [Act.put, List.setIfInBounds_toArray, List.set_cons_zero, List.set_cons_succ]
        refine wpAnyH_ready (rs := [6]) (by kernel_rfl) (by simp) ?_
        refine AllReadyH.cons rfl (fun K hK => ?_) AllReadyH.nil
        go_simp
        refine (pick_any g q6 n2 W8 D8.s.src (by omega) (by omega) (by omega)).mono ?_
        rintro e w9 ⟨y, q9, rfl, y0, y1, hq9, hs9, hg9⟩
        obtain ⟨y, rfl⟩ := Int.eq_ofNat_of_zero_le y0
        have hy : y < n2 := by omega
        have D9 := D8.draw hs9 hg9
        obtain ⟨ga', r9, kk9, hga, ⟨co9, fo9⟩, ⟨kl19, kl29⟩, ⟨ci9, fi9, -⟩, -, hset9⟩ := D9.cell hx hy
        injection hga with hga
        injection hga with hga
        subst hga
        have D10 := hset9 (-1) (by unfold I64; omega)
        have hc9 := hg9.cell hS0 (fun e => hg1 (by injection e))
        have e9 := co9.symm.trans hc9
        injection e9 with e9
        injection e9 with e9 e9b e9c
        injection e9 with e9
        injection e9 with e9
        subst e9 e9c
        dsimp only
        refine hK.out _ _ hc9 (fun hS1 => ?_)
        clear hK K hS0
        refine wpAnyH_done (by kernel_rfl) ?_ _
        dsimp only [atEnd]
        clear hset9 hS1 hs9 hg9 hc9 D8 co8 co fo
        go_wp2
        go_ret
        exact D10.ret hn (by omega)
/-- drawn rows -/
def RetDE (w : World) (e : Ending) (w' : World) : Prop := ∃ A n c zss, e = .returned (.slice A n c) ∧ RR w' A n zss ∧ (n ≤ c ∧ c ≤ 9223372036854775807) ∧ n ≤ 10 ∧ Below w.heap.size w w'
set_option maxRecDepth 100000 in
set_option maxHeartbeats 2000000 in
theorem drawExtendRectangle_any (A : Option Addr) (n c : Nat) (bs : List Int) (w : World) (ha : RS EByte w A n bs) (hn : n ≤ 9223372036854775807) :
    Calls Try.prog 27 #[.slice A n c] w (RetDE w) := by
  go_enter Try.func27, Try.ntmps27
  go_wp2_with fail
  refine (l00From_any A n c bs w ha hn).mono ?_
  rintro e w1 ⟨rfl, hs, hb⟩
  have S := SrW.start hs
  have hgw : ∀ b, some w.heap.size = some b → w.heap.size ≤ b := fun b hb => by injection hb with hb; omega
  have hsz := hb.size
  generalize hG : w.heap.size = g at *
  clear ha hs
  go_wp2_with fail
  refine (one_any g 0 6 w1 S.src (by omega) (by omega) (by omega)).mono ?_
  rintro e w2 ⟨b, q, rfl, hq, hs2, hg2⟩
  have S := S.next hs2 hg2
  clear hs2 hg2
  cases b with
  | true =>
    go_wp2_with fail
    refine (l09Draw_any g q w2 S.src (by omega)).mono ?_
    rintro e w3 ⟨X, m, d, zss, q3, rfl, ho, hm, hrl, S2, hq3⟩
    have S := S.then_ S2
    clear S2
    go_wp2
    go_ret
    exact ⟨X, m, d, zss, rfl, ho.reads, ho.cap, hm, by rw [hG]; exact hb.grown S.grown hsz hgw⟩
  | false =>
    go_wp2_with fail
    refine (l09DrawRectangle_any g q w2 S.src (by omega)).mono ?_
    rintro e w3 ⟨X, m, d, zss, q3, rfl, ho, hm, hrl, S2, hq3⟩
    have S := S.then_ S2
    clear S2
    go_wp2
    go_ret
    exact ⟨X, m, d, zss, rfl, ho.reads, ho.cap, hm, by rw [hG]; exact hb.grown S.grown hsz hgw⟩
end Go.Proofs.Ytcnjlkabdfcjdaa
