/- A square that a law draws, and may bend: a number changed, a row cut short, the last row left out. No condition beyond those stated. -/
import Derived.Test.YtcnjlkabdfcjdaaZAY
import Derived.Test.YtcnjlkabdfcjdaaZAW
import Derived.Deep.DeepCutAuto
import Derived.Test.YtcnjlkabdfcjdaaZAX
set_option linter.unusedVariables false
set_option linter.unusedSimpArgs false
namespace Go.Proofs.Ytcnjlkabdfcjdaa
open Go.RowKit

/-- a call that draws rows -/
def RetDr (w : World) (g p k : Nat) (e : Ending) (w' : World) : Prop := ∃ A n c zss q, e = .returned (.slice A n c) ∧ RRo w' w.heap.size A n c zss ∧ n ≤ 10 ∧ (∀ z ∈ zss, z.length ≤ 10) ∧ SrW w w' g q ∧ q ≤ p + k
theorem sq_rows {zss : List (List Int)} (h : Square zss) : ∀ z ∈ zss, z.length ≤ 10 := fun z hz => by
  obtain ⟨i, hi, rfl⟩ := List.mem_iff_getElem.1 hz
  have := (h.2.2.1 i hi).1
  rw [row_get hi] at this
  have := h.2.1
  omega
theorem OI.shortD {w : World} {B g : Nat} {e : TypeId} {n c k : Nat} {zs : List Int} (h : OI w B e (some ⟨g, 0, none⟩) n c zs) (hk : k ≤ n) : OI w B e (some ⟨g, 0, none⟩) k c (zs.take k) := by
  refine ⟨?_, fun z hz => h.all z (List.mem_of_mem_take hz)⟩
  have e : ints (zs.take k) = (ints zs).take k := by simp [ints, List.map_take]
  rw [e]
  rcases h.os.cases with ⟨h0, _⟩ | ⟨g', cur, h0, hB, hg, hnc, hc, hs, ht⟩
  · cases h0
  · injection h0 with h0
    injection h0 with h0
    subst h0
    have hl := h.os.len
    refine ⟨by rw [List.length_take]; omega, .inr ⟨g, c, cur, rfl, hB, hg, by omega, hc, hs, ?_⟩⟩
    rw [← ht, Nat.mul_one, Nat.mul_one, List.take_take, Nat.min_eq_left hk]
set_option maxRecDepth 100000 in
set_option maxHeartbeats 4000000 in
theorem l06Draw_any (g p : Nat) (w : World) (hs : Src w g p) (hp : p ≤ 1099511627776) :
    Calls Try.prog 32 #[.pointer (some ⟨g, 0, none⟩)] w (RetDr w g p 140) := by
  have S := SrW.start hs
  go_enter Try.func32, Try.ntmps32
  go_wp2_with fail
  refine (pick_any g p 7 w S.src (by omega) (by omega) (by omega)).mono ?_
  rintro e w1 ⟨x, q1, rfl, x0, x1, hq1, hs1, hg1⟩
  have S := S.next hs1 hg1
  obtain ⟨n0, hn0⟩ : ∃ n0 : Nat, x + 1 = (n0 : Int) := ⟨(x + 1).toNat, by omega⟩
  have hn1 : 1 ≤ n0 ∧ n0 ≤ 10 := by omega
  clear hs1 hg1 x0 x1
  go_wp2_with fail
  try rw [hn0]
  refine (one_any g q1 4 w1 S.src (by omega) (by omega) (by omega)).mono ?_
  rintro e w2 ⟨b, q2, rfl, hq2, hs2, hg2⟩
  have S := S.next hs2 hg2
  clear hs2 hg2
  go_upto_if 12 with (fail)
  go_cut [3] (fun s3 wx => ∃ (n q : Nat), s3 = .int .i64 n ∧ (1 ≤ n ∧ n ≤ 10) ∧ q ≤ p + 6 ∧ SrW w wx g q)
  case first =>
    cases b with
    | true =>
      go_wp2_with fail
      refine (pick_any g q2 10 _ S.src (by omega) (by omega) (by omega)).mono ?_
      rintro e w3 ⟨y, q3, rfl, y0, y1, hq3, hs3, hg3⟩
      have S := S.next hs3 hg3
      obtain ⟨n, hn⟩ : ∃ n : Nat, y + 1 = (n : Int) := ⟨(y + 1).toNat, by omega⟩
      go_wp2
      try rw [hn]
      go_meet
      exact ⟨n, q3, rfl, by omega, by omega, S⟩
    | false =>
      go_wp2
      go_meet
      exact ⟨n0, q2, rfl, hn1, by omega, S⟩
  case rest =>
    clear S hn0 hn1
    obtain ⟨n, q, rfl, hn, hq, S⟩ := hcut
    go_wp2_with fail
    refine (l06DrawSquare_any g q n wc S.src (by omega) hn.1 hn.2).mono ?_
    rintro e w3 ⟨A, c, zss, q3, rfl, ho, hl, hS, S3, hq3⟩
    have ho := ho.more S.size
    have S := S.then_ S3
    clear S3
    have hrl := sq_rows hS
    go_wp2_with fail
    refine (pick_any g q3 10 w3 S.src (by omega) (by omega) (by omega)).mono ?_
    rintro e w4 ⟨k, q4, rfl, k0, k1, hq4, hs4, hg4⟩
    have ho := ho.keptB hg4 S.gl
    have S := S.next hs4 hg4
    clear hs4 hg4
    by_cases e0 : k = 0
    · subst e0
      go_wp2_with fail
      refine (pick_any g q4 n w4 S.src (by omega) (by omega) (by omega)).mono ?_
      rintro e w5 ⟨x, q5, rfl, x0, x1, hq5, hs5, hg5⟩
      have ho := ho.keptB hg5 S.gl
      have S := S.next hs5 hg5
      clear hs5 hg5
      go_wp2_with fail
      refine (pick_any g q5 n w5 S.src (by omega) (by omega) (by omega)).mono ?_
      rintro e w6 ⟨y, q6, rfl, y0, y1, hq6, hs6, hg6⟩
      obtain ⟨vs, hv⟩ := ho.keptB hg6 S.gl
      have S := S.next hs6 hg6
      clear hs6 hg6 ho
      obtain ⟨i, rfl⟩ := Int.eq_ofNat_of_zero_le x0
      obtain ⟨j, rfl⟩ := Int.eq_ofNat_of_zero_le y0
      have hin : i < n := by omega
      obtain ⟨gA, v, rfl, hvi, hci, hfi, hoi⟩ := hv.get hin
      obtain ⟨vA, vn, vc⟩ := v
      have hrow := (hS.2.2.1 i (by omega)).1
      have hvn := hoi.len
      simp only [] at hvn hci hoi
      obtain rfl : vn = n := by omega
      obtain ⟨gr, rfl, hcj, hfj, -⟩ := hoi.cell (k := j) (by omega)
      have hjn : j < vn := by omega
      have hgl := S.gl
      have hgA : gA ≠ g := fun e => by have := (hv.os.lt (k := gA) rfl).1; omega
      have hgr : gr ≠ g := fun e => by have := (hoi.os.lt (k := gr) rfl).1; omega
      go_wp2
      have hdr : Below w6.heap.size w6 w6.drew := by have := below_drewn w6 1; rwa [← World.drew_is_drewN] at this
      refine region_suf (P := Try.prog) (n := 11) (S := fun w' => w'.cell? ⟨gA, i, none⟩ = some (.slice (some ⟨gr, 0, none⟩) vn vc)) (by kernel_rfl) (by simp only [List.take_succ_cons, List.take_zero]; rfl) (by simp only [List.drop_succ_cons, List.drop_zero]; rfl) (by kernel_rfl) (by simpa using hci) ?_
      intro hS0
      refine wpAnyH_take (i := 0) (v := ?_) rfl (by kernel_rfl) (by kernel_rfl) (by kernel_rfl) (fun _ _ _ h => h) (Or.inl ⟨by rfl, ?_⟩) (by assumption) ?_
      rotate_left
      · (intro w hSw; (try dsimp only at hSw); go_simp; (try with_reducible rfl))
      simp only [Act.put, List.setIfInBounds_toArray, List.set_cons_zero, List.set_cons_succ]
      refine wpAnyH_take (i := 1) (v := ?_) rfl (by kernel_rfl) (by kernel_rfl) (by kernel_rfl) (fun _ _ _ h => h) (Or.inl ⟨by rfl, ?_⟩) (by assumption) ?_
      rotate_left
      · (intro w hSw; (try dsimp only at hSw); go_simp; (try with_reducible rfl))
      simp only [Act.put, List.setIfInBounds_toArray, List.set_cons_zero, List.set_cons_succ]
      refine wpAnyH_take (i := 2) (v := ?_) rfl (by kernel_rfl) (by kernel_rfl) (by kernel_rfl) (fun _ _ _ h => h) (Or.inl ⟨by rfl, ?_⟩) (by assumption) ?_
      rotate_left
      · (intro w hSw; (try dsimp only at hSw); go_simp; (try with_reducible rfl))
      simp only [Act.put, List.setIfInBounds_toArray, List.set_cons_zero, List.set_cons_succ]
      refine wpAnyH_take (i := 3) (v := ?_) rfl (by kernel_rfl) (by kernel_rfl) (by kernel_rfl) (fun _ _ _ h => h) (Or.inl ⟨by rfl, ?_⟩) (by assumption) ?_
      rotate_left
      · (intro w hSw; (try dsimp only at hSw); go_simp; (try with_reducible rfl))
      simp only [Act.put, List.setIfInBounds_toArray, List.set_cons_zero, List.set_cons_succ]
      refine wpAnyH_take (i := 4) (v := ?_) rfl (by kernel_rfl) (by kernel_rfl) (by kernel_rfl) (fun _ _ _ h => h) (Or.inl ⟨by rfl, ?_⟩) (by assumption) ?_
      rotate_left
      · (intro w hSw; (try dsimp only at hSw); go_simp; (try with_reducible rfl))
      simp only [Act.put, List.setIfInBounds_toArray, List.set_cons_zero, List.set_cons_succ]
      refine wpAnyH_take (i := 5) (v := ?_) rfl (by kernel_rfl) (by kernel_rfl) (by kernel_rfl) (fun _ _ _ h => h) (Or.inl ⟨by rfl, ?_⟩) (by assumption) ?_
      rotate_left
      · (intro w hSw; (try dsimp only at hSw); go_simp; (try with_reducible rfl))
      simp only [Act.put, List.setIfInBounds_toArray, List.set_cons_zero, List.set_cons_succ]
      refine wpAnyH_take (i := 6) (v := ?_) rfl (by kernel_rfl) (by kernel_rfl) (by kernel_rfl) (fun _ _ _ h => h) (Or.inl ⟨by rfl, ?_⟩) (by assumption) ?_
      rotate_left
      · (intro w hSw; (try dsimp only at hSw); go_simp; (try with_reducible rfl))
      simp only [Act.put, List.setIfInBounds_toArray, List.set_cons_zero, List.set_cons_succ]
      refine wpAnyH_take (i := 7) (v := ?_) rfl (by kernel_rfl) (by kernel_rfl) (by kernel_rfl) (fun _ _ _ h => h) (Or.inl ⟨by rfl, ?_⟩) (by assumption) ?_
      rotate_left
      · (intro w hSw; (try dsimp only at hSw); go_simp; (try with_reducible rfl))
      simp only [Act.put, List.setIfInBounds_toArray, List.set_cons_zero, List.set_cons_succ]
      refine wpAnyH_take (i := 8) (v := ?_) rfl (by kernel_rfl) (by kernel_rfl) (by kernel_rfl) (fun _ _ _ h => h) (Or.inl ⟨by rfl, ?_⟩) (by assumption) ?_
      rotate_left
      · (intro w hSw; (try dsimp only at hSw); go_simp; (try with_reducible rfl))
      simp only [Act.put, List.setIfInBounds_toArray, List.set_cons_zero, List.set_cons_succ]
      refine wpAnyH_ready (rs := [9]) (by kernel_rfl) (by simp) ?_
      refine AllReadyH.cons rfl (fun K hK => ?_) AllReadyH.nil
      go_simp
      rw [show IntKind.i64.wrap ((vn : Int) - 1) = (vn : Int) - 1 by rw [IntKind.wrap_i64]; omega]
      have hb7 : Below w6.heap.size w6 (w6.alloc (.cells #[.int .i64 (-1), .int .i64 (vn : Int), .int .i64 0, .int .i64 ((vn : Int) - 1)] 2)).drew := (below_alloc w6 _).trans ((show Below (w6.alloc (.cells #[.int .i64 (-1), .int .i64 (vn : Int), .int .i64 0, .int .i64 ((vn : Int) - 1)] 2)).heap.size _ _ by have := below_drewn (w6.alloc (.cells #[.int .i64 (-1), .int .i64 (vn : Int), .int .i64 0, .int .i64 ((vn : Int) - 1)] 2)) 1; rwa [← World.drew_is_drewN] at this).mono (below_alloc w6 _).size)
      have hlit := (OI.lit w6 w6.heap.size 2 [-1, (vn : Int), 0, (vn : Int) - 1] (Nat.le_refl _) (by simp) (by intro z hz; simp at hz; unfold I64; omega)).reads
      have hlit2 : RI (w6.alloc (.cells #[.int .i64 (-1), .int .i64 (vn : Int), .int .i64 0, .int .i64 ((vn : Int) - 1)] 2)).drew (some ⟨w6.heap.size, 0, none⟩) 4 [-1, (vn : Int), 0, (vn : Int) - 1] := by
        have := hlit.drewN 1
        rwa [← World.drew_is_drewN] at this
      generalize (w6.alloc (.cells #[.int .i64 (-1), .int .i64 (vn : Int), .int .i64 0, .int .i64 ((vn : Int) - 1)] 2)).drew = W7 at *
      have S7 := S.step hb7
      refine hK.out _ _ (below_cell hb7 hci) (fun hS1 => ?_)
      clear hK K hS0
      refine wpAnyH_ready (rs := [10]) (by kernel_rfl) (by simp) ?_
      refine AllReadyH.cons rfl (fun K hK => ?_) AllReadyH.nil
      go_simp
      refine (among_any g q6 (some ⟨w6.heap.size, 0, none⟩) 4 4 [-1, (vn : Int), 0, (vn : Int) - 1] W7 S7.src (by omega) hlit2 (fun a ha => by injection ha with ha; subst ha; have := S.src.lt; show w6.heap.size ≠ g; omega) (by omega) (by omega)).mono ?_
      rintro e w8 ⟨z, q8, rfl, hz, hq8, hs8, hg8⟩
      dsimp only
      have S8 := S7.next hs8 hg8
      have hv8 := (hv.below hb7).keptB hg8 S.gl
      have ho8 := (hoi.below hb7).kept hg8 (.inr (fun e => hgr (by injection e)))
      have hc8 := hg8.cell (below_cell hb7 hci) (fun e => hgA (by injection e))
      have hz64 : I64 z := by
        simp at hz
        unfold I64
        omega
      refine hK.out _ _ hc8 (fun hS2 => ?_)
      clear hK K hS1
      refine wpAnyH_done (by kernel_rfl) ?_ _
      dsimp only [atEnd]
      obtain ⟨gr', hgr', hc9, hf9, -⟩ := ho8.cell hjn
      injection hgr' with hgr'
      injection hgr' with hgr'
      subst hgr'
      have hw9 := hv8.wrote hvi (grown_set (u := .int .i64 z) (p := j)) (ho8.set j hz64)
      have S9 := S8.far (grown_set (g := gr) (p := j) (u := .int .i64 z)) (fun b hb => by injection hb with hb; subst hb; exact (ho8.os.lt rfl).1)
      have hrl9 : ∀ y ∈ zss.set i ((row zss i).set j z), y.length ≤ 10 := fun y hy => by
        rcases List.mem_or_eq_of_mem_set hy with h | rfl
        · exact hrl y h
        · rw [List.length_set]; omega
      clear hS2 hlit hlit2 hb7 hv8 hc8 S7 S8 hs8 hg8 hci hfi hcj hfj hdr hoi hv hz
      go_wp2
      go_ret
      obtain ⟨vs9, hob⟩ := OB.of_or ⟨_, hw9⟩
      exact ⟨_, _, _, _, _, rfl, RRo.of_OB hob, hn.2, hrl9, S9, by omega⟩
    · have hk0 : (k == 0) = false := by simpa using e0
      by_cases e1 : k = 1
      · subst e1
        go_wp2_with fail
        refine (one_any g q4 3 w4 S.src (by omega) (by omega) (by omega)).mono ?_
        rintro e w5 ⟨b5, q5, rfl, hq5, hs5, hg5⟩
        have ho := ho.keptB hg5 S.gl
        have S := S.next hs5 hg5
        clear hs5 hg5
        cases b5 with
        | true =>
          go_wp2_with fail
          refine (pick_any g q5 n w5 S.src (by omega) (by omega) (by omega)).mono ?_
          rintro e w6 ⟨x, q6, rfl, x0, x1, hq6, hs6, hg6⟩
          obtain ⟨vs, hv⟩ := ho.keptB hg6 S.gl
          have S := S.next hs6 hg6
          clear hs6 hg6 ho
          obtain ⟨i, rfl⟩ := Int.eq_ofNat_of_zero_le x0
          have hin : i < n := by omega
          obtain ⟨gA, v, rfl, hvi, hci, hfi, hoi⟩ := hv.get hin
          obtain ⟨vA, vn, vc⟩ := v
          have hrow := (hS.2.2.1 i (by omega)).1
          have hvn := hoi.len
          simp only [] at hvn hci hoi
          obtain rfl : vn = n := by omega
          have hgA : gA ≠ g := fun e => by have := (hv.os.lt (k := gA) rfl).1; have := S.gl; omega
          obtain ⟨gr, rfl, hgr1, hgr2⟩ := hoi.os.form (by omega)
          have hgr : gr ≠ g := fun e => by have := S.gl; omega
          have hcap := hoi.os.cap
          go_wp2
          have hdr : Below w6.heap.size w6 w6.drew := by have := below_drewn w6 1; rwa [← World.drew_is_drewN] at this
          refine region_suf (P := Try.prog) (n := 10) (S := fun w' => w'.cell? ⟨gA, i, none⟩ = some (.slice (some ⟨gr, 0, none⟩) vn vc)) (by kernel_rfl) (by simp only [List.take_succ_cons, List.take_zero]; rfl) (by simp only [List.drop_succ_cons, List.drop_zero]; rfl) (by kernel_rfl) (by simpa using hci) ?_
          intro hS0
          refine wpAnyH_take (i := 0) (v := ?_) rfl (by kernel_rfl) (by kernel_rfl) (by kernel_rfl) (fun _ _ _ h => h) (Or.inl ⟨by rfl, ?_⟩) (by assumption) ?_
          rotate_left
          · (intro w hSw; (try dsimp only at hSw); go_simp; (try with_reducible rfl))
          simp only [Act.put, List.setIfInBounds_toArray, List.set_cons_zero, List.set_cons_succ]
          refine wpAnyH_take (i := 1) (v := ?_) rfl (by kernel_rfl) (by kernel_rfl) (by kernel_rfl) (fun _ _ _ h => h) (Or.inl ⟨by rfl, ?_⟩) (by assumption) ?_
          rotate_left
          · (intro w hSw; (try dsimp only at hSw); go_simp; (try with_reducible rfl))
          simp only [Act.put, List.setIfInBounds_toArray, List.set_cons_zero, List.set_cons_succ]
          refine wpAnyH_take (i := 2) (v := ?_) rfl (by kernel_rfl) (by kernel_rfl) (by kernel_rfl) (fun _ _ _ h => h) (Or.inl ⟨by rfl, ?_⟩) (by assumption) ?_
          rotate_left
          · (intro w hSw; (try dsimp only at hSw); go_simp; (try with_reducible rfl))
          simp only [Act.put, List.setIfInBounds_toArray, List.set_cons_zero, List.set_cons_succ]
          refine wpAnyH_take (i := 3) (v := ?_) rfl (by kernel_rfl) (by kernel_rfl) (by kernel_rfl) (fun _ _ _ h => h) (Or.inl ⟨by rfl, ?_⟩) (by assumption) ?_
          rotate_left
          · (intro w hSw; (try dsimp only at hSw); go_simp; (try with_reducible rfl))
          simp only [Act.put, List.setIfInBounds_toArray, List.set_cons_zero, List.set_cons_succ]
          refine wpAnyH_take (i := 4) (v := ?_) rfl (by kernel_rfl) (by kernel_rfl) (by kernel_rfl) (fun _ _ _ h => h) (Or.inl ⟨by rfl, ?_⟩) (by assumption) ?_
          rotate_left
          · (intro w hSw; (try dsimp only at hSw); go_simp; (try with_reducible rfl))
          simp only [Act.put, List.setIfInBounds_toArray, List.set_cons_zero, List.set_cons_succ]
          refine wpAnyH_take (i := 5) (v := ?_) rfl (by kernel_rfl) (by kernel_rfl) (by kernel_rfl) (fun _ _ _ h => h) (Or.inl ⟨by rfl, ?_⟩) (by assumption) ?_
          rotate_left
          · (intro w hSw; (try dsimp only at hSw); go_simp; (try with_reducible rfl))
          simp only [Act.put, List.setIfInBounds_toArray, List.set_cons_zero, List.set_cons_succ]
          refine wpAnyH_take (i := 6) (v := ?_) rfl (by kernel_rfl) (by kernel_rfl) (by kernel_rfl) (fun _ _ _ h => h) (Or.inl ⟨by rfl, ?_⟩) (by assumption) ?_
          rotate_left
          · (intro w hSw; (try dsimp only at hSw); go_simp; (try with_reducible rfl))
          simp only [Act.put, List.setIfInBounds_toArray, List.set_cons_zero, List.set_cons_succ]
          refine wpAnyH_take (i := 7) (v := ?_) rfl (by kernel_rfl) (by kernel_rfl) (by kernel_rfl) (fun _ _ _ h => h) (Or.inl ⟨by rfl, ?_⟩) (by assumption) ?_
          rotate_left
          · (intro w hSw; (try dsimp only at hSw); go_simp; (try with_reducible rfl))
          simp only [Act.put, List.setIfInBounds_toArray, List.set_cons_zero, List.set_cons_succ]
          refine wpAnyH_ready (rs := [8]) (by kernel_rfl) (by simp) ?_
          refine AllReadyH.cons rfl (fun K hK => ?_) AllReadyH.nil
          go_simp
          have S7 := S.step hdr
          refine (pick_any g q6 vn w6.drew S7.src (by omega) (by omega) (by omega)).mono ?_
          rintro e w8 ⟨z, q8, rfl, z0, z1, hq8, hs8, hg8⟩
          dsimp only
          obtain ⟨t, rfl⟩ := Int.eq_ofNat_of_zero_le z0
          have S8 := S7.next hs8 hg8
          have hv8 := (hv.below hdr).keptB hg8 S.gl
          have ho8 := (hoi.below hdr).kept hg8 (.inr (fun e => hgr (by injection e)))
          have hc8 := hg8.cell (below_cell hdr hci) (fun e => hgA (by injection e))
          refine hK.out _ _ hc8 (fun hS1 => ?_)
          clear hK K hS0
          have htc : t ≤ vc := by omega
          refine wpAnyH_ready (rs := [9]) (by kernel_rfl) (by simp) ?_
          refine AllReadyH.cons rfl (fun K hK => ?_) AllReadyH.nil
          go_simp
          refine hK.out _ _ hc8 (fun hS2 => ?_)
          clear hK K hS1
          refine wpAnyH_done (by kernel_rfl) ?_ _
          dsimp only [atEnd]
          obtain ⟨us, hob⟩ := OB.of_or ⟨_, hv8⟩
          have hst := hob.setRow i (v := (some ⟨gr, 0, none⟩, t, vc)) (ho8.shortD (k := t) (by omega))
          have S9 := S8.far (grown_set (g := gA) (p := i) (u := .slice (some ⟨gr, 0, none⟩) t vc)) (fun b hb => by injection hb with hb; subst hb; exact (hob.os.lt rfl).1)
          have hrl9 : ∀ y ∈ zss.set i ((row zss i).take t), y.length ≤ 10 := fun y hy => by
            rcases List.mem_or_eq_of_mem_set hy with h | rfl
            · exact hrl y h
            · rw [List.length_take]; omega
          obtain ⟨gA', -, hgA', -, -, hf9, -⟩ := hob.get hin
          injection hgA' with hgA'
          injection hgA' with hgA'
          subst hgA'
          clear hS2 hv8 S7 S8 hs8 hg8 hci hfi hdr hoi hv hob
          go_wp2
          go_ret
          exact ⟨_, _, _, _, _, rfl, RRo.of_OB hst, hn.2, hrl9, S9, by omega⟩
        | false =>
          go_wp2_with fail
          refine (one_any g q5 2 w5 S.src (by omega) (by omega) (by omega)).mono ?_
          rintro e w6 ⟨b6, q6, rfl, hq6, hs6, hg6⟩
          have ho := ho.keptB hg6 S.gl
          have S := S.next hs6 hg6
          clear hs6 hg6
          cases b6 with
          | true =>
            obtain ⟨vs9, hob⟩ := OB.of_or ho
            have hcap := hob.os.cap
            obtain ⟨n', rfl⟩ : ∃ n', n = n' + 1 := ⟨n - 1, by omega⟩
            have hwr : IntKind.i64.wrap (((n' + 1 : Nat) : Int) - 1) = (n' : Int) := by rw [IntKind.wrap_i64]; omega
            have hrr : RRo w6 w.heap.size A n' c (zss.take n') := ⟨n' + 1, vs9, zss, hob, by omega, rfl⟩
            have hrl9 : ∀ y ∈ zss.take n', y.length ≤ 10 := fun y hy => hrl y (List.mem_of_mem_take hy)
            clear hob ho
            go_wp2
            go_ret
            exact ⟨_, _, _, _, _, rfl, hrr, by omega, hrl9, S, by omega⟩
          | false =>
            obtain ⟨vs9, hob⟩ := OB.of_or ho
            go_wp2
            go_ret
            exact ⟨_, _, _, _, _, rfl, RRo.of_OB hob, hn.2, hrl, S, by omega⟩
      · have hk1 : (k == 1) = false := by simpa using e1
        obtain ⟨vs9, hob⟩ := OB.of_or ho
        go_wp2
        go_ret
        exact ⟨_, _, _, _, _, rfl, RRo.of_OB hob, hn.2, hrl, S, by omega⟩
end Go.Proofs.Ytcnjlkabdfcjdaa
/- spec.l09DrawBudget, spec.DrawTransversalsOf. No condition beyond those stated. -/
namespace Go.Proofs.Ytcnjlkabdfcjdaa
open Go.RowKit

theorem litB5 (w : World) (t : TypeId) (a b c d f : Int) (ha : I64 a) (hb : I64 b) (hc : I64 c) (hd : I64 d) (hf : I64 f) : RI (w.alloc (.cells #[.int .i64 a, .int .i64 b, .int .i64 c, .int .i64 d, .int .i64 f] t)) (some ⟨w.heap.size, 0, none⟩) 5 [a, b, c, d, f] :=
  RS.lit (E := EInt) (Value.int .i64) w t [a, b, c, d, f] fun x hx => ⟨rfl, by simp at hx; rcases hx with rfl | rfl | rfl | rfl | rfl <;> assumption⟩
/-- a drawn budget -/
def RetDB9 (w : World) (g p : Nat) (e : Ending) (w' : World) : Prop := ∃ (b : Int) (q : Nat), e = .returned (.int .i64 b) ∧ I64 b ∧ SrW w w' g q ∧ q ≤ p + 6
set_option maxRecDepth 100000 in
set_option maxHeartbeats 800000 in
theorem l09DrawBudget_any (g p : Nat) (w : World) (hs : Src w g p) (hp : p ≤ 562949953421312) :
    Calls Try.prog 34 #[.pointer (some ⟨g, 0, none⟩)] w (RetDB9 w g p) := by
  have S := SrW.start hs
  clear hs
  go_enter Try.func34, Try.ntmps34
  go_wp2_with fail
  refine (pick_any g p 8 _ S.src (by omega) (by omega) (by omega)).mono ?_
  rintro e w1 ⟨x, q1, rfl, x0, x1, hq1, hs1, hg1⟩
  have S := S.next hs1 hg1
  clear hs1 hg1
  by_cases e0 : x = 0
  · have t0 : (x == 0) = true := by simp [e0]
    clear e0
    have L := litB5 w1 2 0 1 (-1) 20000 20001 ⟨by omega, by omega⟩ ⟨by omega, by omega⟩ ⟨by omega, by omega⟩ ⟨by omega, by omega⟩ ⟨by omega, by omega⟩
    have hgs := S.src.lt
    have S := S.step (below_alloc w1 (.cells #[.int .i64 0, .int .i64 1, .int .i64 (-1), .int .i64 20000, .int .i64 20001] 2))
    have ham := among_any g q1 _ 5 5 _ _ S.src (by omega) L (fun a ha => by cases ha; show w1.heap.size ≠ g; omega) (by omega) (by omega)
    clear L
    go_wp2_with fail
    refine ham.mono ?_
    rintro e w2 ⟨y, q2, rfl, hy, hq2, hs2, hg2⟩
    have S := S.next hs2 hg2
    have hN : I64 y := by unfold I64; simp at hy; omega
    clear hy ham hs2 hg2
    go_wp2
    go_ret
    exact ⟨y, q2, rfl, hN, S, by omega⟩
  have t0 : (x == 0) = false := by simp [e0]
  by_cases e1 : x = 1
  · have t1 : (x == 1) = true := by simp [e1]
    clear e0 e1
    go_wp2_with fail
    refine (pick_any g q1 30 _ S.src (by omega) (by omega) (by omega)).mono ?_
    rintro e w2 ⟨y, q2, rfl, y0, y1, hq2, hs2, hg2⟩
    have S := S.next hs2 hg2
    clear hs2 hg2
    go_wp2
    go_ret
    exact ⟨_, q2, rfl, ⟨by omega, by omega⟩, S, by omega⟩
  have t1 : (x == 1) = false := by simp [e1]
  clear e0 e1
  go_wp2_with fail
  refine (pick_any g q1 1000 _ S.src (by omega) (by omega) (by omega)).mono ?_
  rintro e w2 ⟨y, q2, rfl, y0, y1, hq2, hs2, hg2⟩
  have S := S.next hs2 hg2
  clear hs2 hg2
  go_wp2
  go_ret
  exact ⟨_, q2, rfl, ⟨by omega, by omega⟩, S, by omega⟩
/-- drawn rows, a limit, a budget -/
def RetDT (w : World) (e : Ending) (w' : World) : Prop := ∃ A n c zss lim b, e = .returned (.tuple #[.slice A n c, .int .i64 lim, .int .i64 b]) ∧ RR w' A n zss ∧ n ≤ 10 ∧ (∀ z ∈ zss, z.length ≤ 10) ∧ I64 lim ∧ I64 b ∧ Below w.heap.size w w'
set_option maxRecDepth 100000 in
set_option maxHeartbeats 2000000 in
theorem drawTransversals_any (A : Option Addr) (n c : Nat) (bs : List Int) (w : World) (ha : RS EByte w A n bs) (hn : n ≤ 9223372036854775807) :
    Calls Try.prog 8 #[.slice A n c] w (RetDT w) := by
  go_enter Try.func8, Try.ntmps8
  go_wp2_with fail
  refine (l00From_any A n c bs w ha hn).mono ?_
  rintro e w1 ⟨rfl, hs, hb⟩
  have S := SrW.start hs
  have hgw : ∀ b, some w.heap.size = some b → w.heap.size ≤ b := fun b hb => by injection hb with hb; omega
  have hsz := hb.size
  generalize hG : w.heap.size = g at *
  clear ha hs
  go_wp2_with fail
  refine (l06Draw_any g 0 w1 S.src (by omega)).mono ?_
  rintro e w2 ⟨X, m, d, zss, q, rfl, ho, hm, hrl, S2, hq⟩
  have S := S.then_ S2
  have hgs := S2.src.lt
  have L := RS.lit (E := EInt) (Value.int .i64) w2 2 [1, 2, 5, 100, 0, 101, 3, 10] (fun x hx => ⟨rfl, by simp at hx; unfold I64; omega⟩)
  have hba := below_alloc w2 (.cells #[.int .i64 1, .int .i64 2, .int .i64 5, .int .i64 100, .int .i64 0, .int .i64 101, .int .i64 3, .int .i64 10] 2)
  have S3 := S.step hba
  have ho := ho.below hba
  have ham := among_any g q _ 8 8 [1, 2, 5, 100, 0, 101, 3, 10] _ S3.src (by omega) L (fun a ha => by cases ha; show w2.heap.size ≠ g; omega) (by omega) (by omega)
  clear L S S2 hba
  go_wp2_with fail
  refine ham.mono ?_
  rintro e w3 ⟨lim, q3, rfl, hl, hq3, hs3, hg3⟩
  have S := S3.next hs3 hg3
  have hgl := S3.gl
  have ho := ho.keptB hg3 hgl
  have hl : I64 lim := by unfold I64; simp at hl; omega
  clear ham hs3 hg3 S3
  go_wp2_with fail
  refine (l09DrawBudget_any g q3 w3 S.src (by omega)).mono ?_
  rintro e w4 ⟨b, q4, rfl, hb4, S4, hq4⟩
  have ho := ho.keptB S4.grown hgl
  have S := S.then_ S4
  clear S4
  go_wp2
  go_ret3
  exact ⟨X, m, d, zss, lim, b, rfl, ho.reads, hm, hrl, hl, hb4, by rw [hG]; exact hb.grown S.grown hsz hgw⟩
end Go.Proofs.Ytcnjlkabdfcjdaa
/- Drawn squares that may have a mate. No condition beyond those stated. -/
namespace Go.Proofs.Ytcnjlkabdfcjdaa
open Go.RowKit

theorem mols_q {q : Int} (h : q ∈ [3, 4, 5, 7, 8, 9]) : ∃ p k, (p, k) ∈ PKL ∧ p ^ k = q := by
  simp only [List.mem_cons, List.not_mem_nil, or_false] at h
  rcases h with rfl | rfl | rfl | rfl | rfl | rfl
  · exact ⟨3, 1, by decide, by decide⟩
  · exact ⟨2, 2, by decide, by decide⟩
  · exact ⟨5, 1, by decide, by decide⟩
  · exact ⟨7, 1, by decide, by decide⟩
  · exact ⟨2, 3, by decide, by decide⟩
  · exact ⟨3, 2, by decide, by decide⟩
/-- a call that draws two lists of rows -/
def RetD2 (w : World) (g p k : Nat) (e : Ending) (w' : World) : Prop := ∃ A n c zss B m d q, e = .returned (.tuple #[.slice A n c, .slice B m d]) ∧ RRo w' w.heap.size A n c zss ∧ n ≤ 10 ∧ (∀ z ∈ zss, z.length ≤ 10) ∧ SrW w w' g q ∧ q ≤ p + k
set_option maxRecDepth 100000 in
set_option maxHeartbeats 4000000 in
theorem l07DrawTwo_any (g p : Nat) (w : World) (hs : Src w g p) (hp : p ≤ 1000000000) :
    Calls Try.prog 57 #[.pointer (some ⟨g, 0, none⟩)] w (RetD2 w g p 300) := by
  have S := SrW.start hs
  clear hs
  go_enter Try.func57, Try.ntmps57
  go_wp2_with fail
  refine (one_any g p 3 w S.src (by omega) (by omega) (by omega)).mono ?_
  rintro e w1 ⟨b, q1, rfl, hq1, hs1, hg1⟩
  have S := S.next hs1 hg1
  clear hs1 hg1
  cases b with
  | true =>
    go_wp2_with fail
    refine (l06Draw_any g q1 w1 S.src (by omega)).mono ?_
    rintro e w2 ⟨A, n, c, zss, q2, rfl, ho, hn, hrl, S2, hq2⟩
    have ho := ho.more S.size
    have hgl := S.gl
    have S := S.then_ S2
    clear S2
    go_wp2_with fail
    refine (l06Draw_any g q2 w2 S.src (by omega)).mono ?_
    rintro e w3 ⟨B, m, d, yss, q3, rfl, ho3, hm, hrm, S3, hq3⟩
    have ho := ho.keptB S3.grown hgl
    have S := S.then_ S3
    clear S3 ho3
    go_wp2
    go_ret2
    exact ⟨A, n, c, zss, B, m, d, q3, rfl, ho, hn, hrl, S, by omega⟩
  | false =>
    have hgs := S.src.lt
    have L := RS.lit (E := EInt) (Value.int .i64) w1 2 [3, 4, 5, 7, 8, 9] (fun x hx => ⟨rfl, by simp at hx; unfold I64; omega⟩)
    have hba := below_alloc w1 (.cells #[.int .i64 3, .int .i64 4, .int .i64 5, .int .i64 7, .int .i64 8, .int .i64 9] 2)
    have S2 := S.step hba
    have ham := among_any g q1 _ 6 6 [3, 4, 5, 7, 8, 9] _ S2.src (by omega) L (fun a ha => by cases ha; show w1.heap.size ≠ g; omega) (by omega) (by omega)
    clear L hba S
    go_wp2_with fail
    refine ham.mono ?_
    rintro e w3 ⟨q, q3, rfl, hq, hq3, hs3, hg3⟩
    have S := S2.next hs3 hg3
    obtain ⟨pp, kk, hm, hpq⟩ := mols_q hq
    have hqb : 3 ≤ q ∧ q ≤ 9 := by simp at hq; omega
    obtain ⟨n, rfl⟩ : ∃ n : Nat, q = (n : Int) := ⟨q.toNat, by omega⟩
    have hn3 : 3 ≤ n ∧ n ≤ 9 := by omega
    have hsub : IntKind.i64.wrap ((n : Int) - 1) = (n : Int) - 1 := by rw [IntKind.wrap_i64]; omega
    clear ham hs3 hg3 S2 hq hqb
    have HPQ := Lib.hid hpq
    clear hpq
    go_wp2_with fail
    refine (pick_any g q3 ((n : Int) - 1) w3 S.src (by omega) (by omega) (by omega)).mono ?_
    rintro e w4 ⟨m0, q4, rfl, m01, m02, hq4, hs4, hg4⟩
    have S := S.next hs4 hg4
    clear hs4 hg4
    go_wp2_with fail
    refine (pick_any g q4 ((n : Int) - 1) w4 S.src (by omega) (by omega) (by omega)).mono ?_
    rintro e w5 ⟨k0, q5, rfl, k01, k02, hq5, hs5, hg5⟩
    have S := S.next hs5 hg5
    clear hs5 hg5
    go_wp2_with fail
    refine (l04DrawPerm_any g q5 n w5 S.src (by omega) (by omega)).mono ?_
    rintro e w6 ⟨R, rc, r, q6, rfl, hor, hlr, hpr, S6, hq6⟩
    have hg5 := S6.src.lt
    have hor := hor.more S.size
    have hgl := S.gl
    have S := S.then_ S6
    clear S6
    go_wp2_with fail
    refine (l04DrawPerm_any g q6 n w6 S.src (by omega) (by omega)).mono ?_
    rintro e w7 ⟨K, kc, kk2, q7, rfl, hok, hlk, hpk, S7, hq7⟩
    have hok := hok.more S.size
    have hor := hor.keptB S7.grown hgl
    have S := S.then_ S7
    clear S7
    go_wp2_with fail
    refine (l07Square_any hm n (m0 + 1) w7 HPQ.out (by omega) ⟨by omega, by omega⟩).mono ?_
    rintro e w8 ⟨A, c, zss, rfl, hoa, hza, hb8⟩
    have hoa := hoa.more S.size
    have hor := hor.below hb8
    have hok := hok.below hb8
    have S := S.step hb8
    clear hb8
    go_wp2_with fail
    refine (l04DrawPerm_any g q7 n w8 S.src (by omega) (by omega)).mono ?_
    rintro e w9 ⟨Z, zc, z, q9, rfl, hoz, hlz, hpz, S9, hq9⟩
    have hoz := hoz.more S.size
    have hoa := hoa.keptB S9.grown hgl
    have hor := hor.keptB S9.grown hgl
    have hok := hok.keptB S9.grown hgl
    have S := S.then_ S9
    clear S9
    go_wp2_with fail
    refine (l06IsotopeG_any A n c zss R rc r K kc kk2 Z zc z w9 hoa.reads hor.reads hok.reads hoz.reads (by omega) hza.sh hpr hpk hpz).mono ?_
    rintro e w10 ⟨A1, c1, b1, rfl, ho1, hF1, hb10⟩
    have ho1 := ho1.more S.size
    have hor := hor.below hb10
    have hok := hok.below hb10
    have S := S.step hb10
    have hln := hF1.len
    have hrows := hF1.rows
    clear hb10 hoa hoz hF1 hza
    go_wp2_with fail
    refine (l07Square_any hm n (k0 + 1) w10 HPQ.out (by omega) ⟨by omega, by omega⟩).mono ?_
    rintro e w11 ⟨A2, c2, yss, rfl, hoa, hza, hb11⟩
    have hoa := hoa.more S.size
    have hor := hor.below hb11
    have hok := hok.below hb11
    have ho1 := ho1.below hb11
    have S := S.step hb11
    clear hb11
    go_wp2_with fail
    refine (l04DrawPerm_any g q9 n w11 S.src (by omega) (by omega)).mono ?_
    rintro e w12 ⟨Z2, zc2, z2, q12, rfl, hoz, hlz2, hpz2, S12, hq12⟩
    have hoz := hoz.more S.size
    have hoa := hoa.keptB S12.grown hgl
    have hor := hor.keptB S12.grown hgl
    have hok := hok.keptB S12.grown hgl
    have ho1 := ho1.keptB S12.grown hgl
    have S := S.then_ S12
    clear S12
    go_wp2_with fail
    refine (l06IsotopeG_any A2 n c2 yss R rc r K kc kk2 Z2 zc2 z2 w12 hoa.reads hor.reads hok.reads hoz.reads (by omega) hza.sh hpr hpk hpz2).mono ?_
    rintro e w13 ⟨A3, c3, b3, rfl, -, -, hb13⟩
    have ho1 := ho1.below hb13
    have S := S.step hb13
    obtain ⟨vs, hob⟩ := OB.of_or ho1
    have hrl : ∀ u ∈ b1, u.length ≤ 10 := fun u hu => by
      obtain ⟨i, hi, rfl⟩ := List.mem_iff_getElem.1 hu
      have := hrows i (by omega)
      rw [row_get hi] at this
      omega
    clear hb13 hoa hoz hor hok hza ho1 hrows
    go_wp2
    go_ret2
    exact ⟨A1, n, c1, b1, A3, n, c3, q12, rfl, RRo.of_OB hob, by omega, hrl, S, by omega⟩
/-- drawn rows, a budget -/
def RetDM (w : World) (e : Ending) (w' : World) : Prop := ∃ A n c zss b, e = .returned (.tuple #[.slice A n c, .int .i64 b]) ∧ RR w' A n zss ∧ n ≤ 10 ∧ (∀ z ∈ zss, z.length ≤ 10) ∧ I64 b ∧ Below w.heap.size w w'
set_option maxRecDepth 100000 in
set_option maxHeartbeats 2000000 in
theorem drawMateOf_any (A : Option Addr) (n c : Nat) (bs : List Int) (w : World) (ha : RS EByte w A n bs) (hn : n ≤ 9223372036854775807) :
    Calls Try.prog 23 #[.slice A n c] w (RetDM w) := by
  go_enter Try.func23, Try.ntmps23
  go_wp2_with fail
  refine (l00From_any A n c bs w ha hn).mono ?_
  rintro e w1 ⟨rfl, hs, hb⟩
  have S := SrW.start hs
  have hgw : ∀ b, some w.heap.size = some b → w.heap.size ≤ b := fun b hb => by injection hb with hb; omega
  have hsz := hb.size
  generalize hG : w.heap.size = g at *
  clear ha hs
  go_wp2_with fail
  refine (one_any g 0 3 w1 S.src (by omega) (by omega) (by omega)).mono ?_
  rintro e w2 ⟨b2, q1, rfl, hq1, hs1, hg1⟩
  have S := S.next hs1 hg1
  clear hs1 hg1
  cases b2 with
  | true =>
    go_wp2_with fail
    refine (l06Draw_any g q1 w2 S.src (by omega)).mono ?_
    rintro e w3 ⟨X, m, d, zss, q, rfl, ho, hm, hrl, S2, hq⟩
    have hgl := S2.gl
    have S := S.then_ S2
    clear S2
    go_wp2_with fail
    refine (l09DrawBudget_any g q w3 S.src (by omega)).mono ?_
    rintro e w4 ⟨b, q4, rfl, hb4, S4, hq4⟩
    have ho := ho.keptB S4.grown hgl
    have S := S.then_ S4
    clear S4
    go_wp2
    go_ret2
    exact ⟨X, m, d, zss, b, rfl, ho.reads, hm, hrl, hb4, by rw [hG]; exact hb.grown S.grown hsz hgw⟩
  | false =>
    go_wp2_with fail
    refine (l07DrawTwo_any g q1 w2 S.src (by omega)).mono ?_
    rintro e w3 ⟨X, m, d, zss, Y, ym, yd, q, rfl, ho, hm, hrl, S2, hq⟩
    have hgl := S2.gl
    have S := S.then_ S2
    clear S2
    go_wp2_with fail
    refine (l09DrawBudget_any g q w3 S.src (by omega)).mono ?_
    rintro e w4 ⟨b, q4, rfl, hb4, S4, hq4⟩
    have ho := ho.keptB S4.grown hgl
    have S := S.then_ S4
    clear S4
    go_wp2
    go_ret2
    exact ⟨X, m, d, zss, b, rfl, ho.reads, hm, hrl, hb4, by rw [hG]; exact hb.grown S.grown hsz hgw⟩
end Go.Proofs.Ytcnjlkabdfcjdaa
