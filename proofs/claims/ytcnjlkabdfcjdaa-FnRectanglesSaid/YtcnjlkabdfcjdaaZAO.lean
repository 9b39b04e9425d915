/- A square that a law draws, and may bend: a number changed, a row cut short, the last row left out. No condition beyond those stated. -/
import Derived.Test.YtcnjlkabdfcjdaaZAM
import Derived.Test.YtcnjlkabdfcjdaaZAN
import Derived.Deep.DeepCutAuto
import Derived.Test.YtcnjlkabdfcjdaaZAC
import Derived.Test.YtcnjlkabdfcjdaaZAG
import Derived.Test.YtcnjlkabdfcjdaaZAD
set_option linter.unusedVariables false
set_option linter.unusedSimpArgs false
namespace Go.Proofs.Ytcnjlkabdfcjdaa
open Go.RowKit

/-- a call that draws rows -/
def RetDr (w : World) (g p k : Nat) (e : Ending) (w' : World) : Prop := ∃ A n c zss q, e = .returned (.slice A n c) ∧ RRo w' w.heap.size A n c zss ∧ n ≤ 10 ∧ (∀ z ∈ zss, z.length ≤ 10) ∧ SrW w w' g q ∧ q ≤ p + k
theorem sq_rows {zss : List (List Int)} (h : Square zss) : ∀ z ∈ zss, z.length ≤ 10 := fun z hz => by
  obtain ⟨i, hi, rfl⟩ := List.mem_iff_getElem.1 hz
  have := (h.2.2.1 i hi).1
  rw [row_get hi] at this
  have := h.2.1
  omega
theorem OI.shortD {w : World} {B g : Nat} {e : TypeId} {n c k : Nat} {zs : List Int} (h : OI w B e (some ⟨g, 0, none⟩) n c zs) (hk : k ≤ n) : OI w B e (some ⟨g, 0, none⟩) k c (zs.take k) := by
  refine ⟨?_, fun z hz => h.all z (List.mem_of_mem_take hz)⟩
  have e : ints (zs.take k) = (ints zs).take k := by simp [ints, List.map_take]
  rw [e]
  rcases h.os.cases with ⟨h0, _⟩ | ⟨g', cur, h0, hB, hg, hnc, hc, hs, ht⟩
  · cases h0
  · injection h0 with h0
    injection h0 with h0
    subst h0
    have hl := h.os.len
    refine ⟨by rw [List.length_take]; omega, .inr ⟨g, c, cur, rfl, hB, hg, by omega, hc, hs, ?_⟩⟩
    rw [← ht, Nat.mul_one, Nat.mul_one, List.take_take, Nat.min_eq_left hk]
set_option maxRecDepth 100000 in
set_option maxHeartbeats 4000000 in
theorem l06Draw_any (g p : Nat) (w : World) (hs : Src w g p) (hp : p ≤ 1099511627776) :
    Calls Try.prog 32 #[.pointer (some ⟨g, 0, none⟩)] w (RetDr w g p 140) := by
  have S := SrW.start hs
  go_enter Try.func32, Try.ntmps32
  go_wp2_with fail
  refine (pick_any g p 7 w S.src (by omega) (by omega) (by omega)).mono ?_
  rintro e w1 ⟨x, q1, rfl, x0, x1, hq1, hs1, hg1⟩
  have S := S.next hs1 hg1
  obtain ⟨n0, hn0⟩ : ∃ n0 : Nat, x + 1 = (n0 : Int) := ⟨(x + 1).toNat, by omega⟩
  have hn1 : 1 ≤ n0 ∧ n0 ≤ 10 := by omega
  clear hs1 hg1 x0 x1
  go_wp2_with fail
  try rw [hn0]
  refine (one_any g q1 4 w1 S.src (by omega) (by omega) (by omega)).mono ?_
  rintro e w2 ⟨b, q2, rfl, hq2, hs2, hg2⟩
  have S := S.next hs2 hg2
  clear hs2 hg2
  go_upto_if 12 with (fail)
  go_cut [3] (fun s3 wx => ∃ (n q : Nat), s3 = .int .i64 n ∧ (1 ≤ n ∧ n ≤ 10) ∧ q ≤ p + 6 ∧ SrW w wx g q)
  case first =>
    cases b with
    | true =>
      go_wp2_with fail
      refine (pick_any g q2 10 _ S.src (by omega) (by omega) (by omega)).mono ?_
      rintro e w3 ⟨y, q3, rfl, y0, y1, hq3, hs3, hg3⟩
      have S := S.next hs3 hg3
      obtain ⟨n, hn⟩ : ∃ n : Nat, y + 1 = (n : Int) := ⟨(y + 1).toNat, by omega⟩
      go_wp2
      try rw [hn]
      go_meet
      exact ⟨n, q3, rfl, by omega, by omega, S⟩
    | false =>
      go_wp2
      go_meet
      exact ⟨n0, q2, rfl, hn1, by omega, S⟩
  case rest =>
    clear S hn0 hn1
    obtain ⟨n, q, rfl, hn, hq, S⟩ := hcut
    go_wp2_with fail
    refine (l06DrawSquare_any g q n wc S.src (by omega) hn.1 hn.2).mono ?_
    rintro e w3 ⟨A, c, zss, q3, rfl, ho, hl, hS, S3, hq3⟩
    have ho := ho.more S.size
    have S := S.then_ S3
    clear S3
    have hrl := sq_rows hS
    go_wp2_with fail
    refine (pick_any g q3 10 w3 S.src (by omega) (by omega) (by omega)).mono ?_
    rintro e w4 ⟨k, q4, rfl, k0, k1, hq4, hs4, hg4⟩
    have ho := ho.keptB hg4 S.gl
    have S := S.next hs4 hg4
    clear hs4 hg4
    by_cases e0 : k = 0
    · subst e0
      go_wp2_with fail
      refine (pick_any g q4 n w4 S.src (by omega) (by omega) (by omega)).mono ?_
      rintro e w5 ⟨x, q5, rfl, x0, x1, hq5, hs5, hg5⟩
      have ho := ho.keptB hg5 S.gl
      have S := S.next hs5 hg5
      clear hs5 hg5
      go_wp2_with fail
      refine (pick_any g q5 n w5 S.src (by omega) (by omega) (by omega)).mono ?_
      rintro e w6 ⟨y, q6, rfl, y0, y1, hq6, hs6, hg6⟩
      obtain ⟨vs, hv⟩ := ho.keptB hg6 S.gl
      have S := S.next hs6 hg6
      clear hs6 hg6 ho
      obtain ⟨i, rfl⟩ := Int.eq_ofNat_of_zero_le x0
      obtain ⟨j, rfl⟩ := Int.eq_ofNat_of_zero_le y0
      have hin : i < n := by omega
      obtain ⟨gA, v, rfl, hvi, hci, hfi, hoi⟩ := hv.get hin
      obtain ⟨vA, vn, vc⟩ := v
      have hrow := (hS.2.2.1 i (by omega)).1
      have hvn := hoi.len
      simp only [] at hvn hci hoi
      obtain rfl : vn = n := by omega
      obtain ⟨gr, rfl, hcj, hfj, -⟩ := hoi.cell (k := j) (by omega)
      have hjn : j < vn := by omega
      have hgl := S.gl
      have hgA : gA ≠ g := fun e => by have := (hv.os.lt (k := gA) rfl).1; omega
      have hgr : gr ≠ g := fun e => by have := (hoi.os.lt (k := gr) rfl).1; omega
      go_wp2
      have hdr : Below w6.heap.size w6 w6.drew := by have := below_drewn w6 1; rwa [← World.drew_is_drewN] at this
      refine region_suf (P := Try.prog) (n := 11) (S := fun w' => w'.cell? ⟨gA, i, none⟩ = some (.slice (some ⟨gr, 0, none⟩) vn vc)) (by kernel_rfl) (by simp only [List.take_succ_cons, List.take_zero]; rfl) (by simp only [List.drop_succ_cons, List.drop_zero]; rfl) (by kernel_rfl) (by simpa using hci) ?_
      intro hS0
      refine wpAnyH_take (i := 0) (v := ?_) rfl (by kernel_rfl) (by kernel_rfl) (by kernel_rfl) (fun _ _ _ h => h) (Or.inl ⟨by rfl, ?_⟩) (by assumption) ?_
      rotate_left
      · (intro w hSw; (try dsimp only at hSw); go_simp; (try with_reducible rfl))
      simp only [Act.put, List.setIfInBounds_toArray, List.set_cons_zero, List.set_cons_succ]
      refine wpAnyH_take (i := 1) (v := ?_) rfl (by kernel_rfl) (by kernel_rfl) (by kernel_rfl) (fun _ _ _ h => h) (Or.inl ⟨by rfl, ?_⟩) (by assumption) ?_
      rotate_left
      · (intro w hSw; (try dsimp only at hSw); go_simp; (try with_reducible rfl))
      simp only [Act.put, List.setIfInBounds_toArray, List.set_cons_zero, List.set_cons_succ]
      refine wpAnyH_take (i := 2) (v := ?_) rfl (by kernel_rfl) (by kernel_rfl) (by kernel_rfl) (fun _ _ _ h => h) (Or.inl ⟨by rfl, ?_⟩) (by assumption) ?_
      rotate_left
      · (intro w hSw; (try dsimp only at hSw); go_simp; (try with_reducible rfl))
      simp only [Act.put, List.setIfInBounds_toArray, List.set_cons_zero, List.set_cons_succ]
      refine wpAnyH_take (i := 3) (v := ?_) rfl (by kernel_rfl) (by kernel_rfl) (by kernel_rfl) (fun _ _ _ h => h) (Or.inl ⟨by rfl, ?_⟩) (by assumption) ?_
      rotate_left
      · (intro w hSw; (try dsimp only at hSw); go_simp; (try with_reducible rfl))
      simp only [Act.put, List.setIfInBounds_toArray, List.set_cons_zero, List.set_cons_succ]
      refine wpAnyH_take (i := 4) (v := ?_) rfl (by kernel_rfl) (by kernel_rfl) (by kernel_rfl) (fun _ _ _ h => h) (Or.inl ⟨by rfl, ?_⟩) (by assumption) ?_
      rotate_left
      · (intro w hSw; (try dsimp only at hSw); go_simp; (try with_reducible rfl))
      simp only [Act.put, List.setIfInBounds_toArray, List.set_cons_zero, List.set_cons_succ]
      refine wpAnyH_take (i := 5) (v := ?_) rfl (by kernel_rfl) (by kernel_rfl) (by kernel_rfl) (fun _ _ _ h => h) (Or.inl ⟨by rfl, ?_⟩) (by assumption) ?_
      rotate_left
      · (intro w hSw; (try dsimp only at hSw); go_simp; (try with_reducible rfl))
      simp only [Act.put, List.setIfInBounds_toArray, List.set_cons_zero, List.set_cons_succ]
      refine wpAnyH_take (i := 6) (v := ?_) rfl (by kernel_rfl) (by kernel_rfl) (by kernel_rfl) (fun _ _ _ h => h) (Or.inl ⟨by rfl, ?_⟩) (by assumption) ?_
      rotate_left
      · (intro w hSw; (try dsimp only at hSw); go_simp; (try with_reducible rfl))
      simp only [Act.put, List.setIfInBounds_toArray, List.set_cons_zero, List.set_cons_succ]
      refine wpAnyH_take (i := 7) (v := ?_) rfl (by kernel_rfl) (by kernel_rfl) (by kernel_rfl) (fun _ _ _ h => h) (Or.inl ⟨by rfl, ?_⟩) (by assumption) ?_
      rotate_left
      · (intro w hSw; (try dsimp only at hSw); go_simp; (try with_reducible rfl))
      simp only [Act.put, List.setIfInBounds_toArray, List.set_cons_zero, List.set_cons_succ]
      refine wpAnyH_take (i := 8) (v := ?_) rfl (by kernel_rfl) (by kernel_rfl) (by kernel_rfl) (fun _ _ _ h => h) (Or.inl ⟨by rfl, ?_⟩) (by assumption) ?_
      rotate_left
      · (intro w hSw; (try dsimp only at hSw); go_simp; (try with_reducible rfl))
      simp only [Act.put, List.setIfInBounds_toArray, List.set_cons_zero, List.set_cons_succ]
      refine wpAnyH_ready (rs := [9]) (by kernel_rfl) (by simp) ?_
      refine AllReadyH.cons rfl (fun K hK => ?_) AllReadyH.nil
      go_simp
      rw [show IntKind.i64.wrap ((vn : Int) - 1) = (vn : Int) - 1 by rw [IntKind.wrap_i64]; omega]
      have hb7 : Below w6.heap.size w6 (w6.alloc (.cells #[.int .i64 (-1), .int .i64 (vn : Int), .int .i64 0, .int .i64 ((vn : Int) - 1)] 2)).drew := (below_alloc w6 _).trans ((show Below (w6.alloc (.cells #[.int .i64 (-1), .int .i64 (vn : Int), .int .i64 0, .int .i64 ((vn : Int) - 1)] 2)).heap.size _ _ by have := below_drewn (w6.alloc (.cells #[.int .i64 (-1), .int .i64 (vn : Int), .int .i64 0, .int .i64 ((vn : Int) - 1)] 2)) 1; rwa [← World.drew_is_drewN] at this).mono (below_alloc w6 _).size)
      have hlit := (OI.lit w6 w6.heap.size 2 [-1, (vn : Int), 0, (vn : Int) - 1] (Nat.le_refl _) (by simp) (by intro z hz; simp at hz; unfold I64; omega)).reads
      have hlit2 : RI (w6.alloc (.cells #[.int .i64 (-1), .int .i64 (vn : Int), .int .i64 0, .int .i64 ((vn : Int) - 1)] 2)).drew (some ⟨w6.heap.size, 0, none⟩) 4 [-1, (vn : Int), 0, (vn : Int) - 1] := by
        have := hlit.drewN 1
        rwa [← World.drew_is_drewN] at this
      generalize (w6.alloc (.cells #[.int .i64 (-1), .int .i64 (vn : Int), .int .i64 0, .int .i64 ((vn : Int) - 1)] 2)).drew = W7 at *
      have S7 := S.step hb7
      refine hK.out _ _ (below_cell hb7 hci) (fun hS1 => ?_)
      clear hK K hS0
      refine wpAnyH_ready (rs := [10]) (by kernel_rfl) (by simp) ?_
      refine AllReadyH.cons rfl (fun K hK => ?_) AllReadyH.nil
      go_simp
      refine (among_any g q6 (some ⟨w6.heap.size, 0, none⟩) 4 4 [-1, (vn : Int), 0, (vn : Int) - 1] W7 S7.src (by omega) hlit2 (fun a ha => by injection ha with ha; subst ha; have := S.src.lt; show w6.heap.size ≠ g; omega) (by omega) (by omega)).mono ?_
      rintro e w8 ⟨z, q8, rfl, hz, hq8, hs8, hg8⟩
      dsimp only
      have S8 := S7.next hs8 hg8
      have hv8 := (hv.below hb7).keptB hg8 S.gl
      have ho8 := (hoi.below hb7).kept hg8 (.inr (fun e => hgr (by injection e)))
      have hc8 := hg8.cell (below_cell hb7 hci) (fun e => hgA (by injection e))
      have hz64 : I64 z := by
        simp at hz
        unfold I64
        omega
      refine hK.out _ _ hc8 (fun hS2 => ?_)
      clear hK K hS1
      refine wpAnyH_done (by kernel_rfl) ?_ _
      dsimp only [atEnd]
      obtain ⟨gr', hgr', hc9, hf9, -⟩ := ho8.cell hjn
      injection hgr' with hgr'
      injection hgr' with hgr'
      subst hgr'
      have hw9 := hv8.wrote hvi (grown_set (u := .int .i64 z) (p := j)) (ho8.set j hz64)
      have S9 := S8.far (grown_set (g := gr) (p := j) (u := .int .i64 z)) (fun b hb => by injection hb with hb; subst hb; exact (ho8.os.lt rfl).1)
      have hrl9 : ∀ y ∈ zss.set i ((row zss i).set j z), y.length ≤ 10 := fun y hy => by
        rcases List.mem_or_eq_of_mem_set hy with h | rfl
        · exact hrl y h
        · rw [List.length_set]; omega
      clear hS2 hlit hlit2 hb7 hv8 hc8 S7 S8 hs8 hg8 hci hfi hcj hfj hdr hoi hv hz
      go_wp2
      go_ret
      obtain ⟨vs9, hob⟩ := OB.of_or ⟨_, hw9⟩
      exact ⟨_, _, _, _, _, rfl, RRo.of_OB hob, hn.2, hrl9, S9, by omega⟩
    · have hk0 : (k == 0) = false := by simpa using e0
      by_cases e1 : k = 1
      · subst e1
        go_wp2_with fail
        refine (one_any g q4 3 w4 S.src (by omega) (by omega) (by omega)).mono ?_
        rintro e w5 ⟨b5, q5, rfl, hq5, hs5, hg5⟩
        have ho := ho.keptB hg5 S.gl
        have S := S.next hs5 hg5
        clear hs5 hg5
        cases b5 with
        | true =>
          go_wp2_with fail
          refine (pick_any g q5 n w5 S.src (by omega) (by omega) (by omega)).mono ?_
          rintro e w6 ⟨x, q6, rfl, x0, x1, hq6, hs6, hg6⟩
          obtain ⟨vs, hv⟩ := ho.keptB hg6 S.gl
          have S := S.next hs6 hg6
          clear hs6 hg6 ho
          obtain ⟨i, rfl⟩ := Int.eq_ofNat_of_zero_le x0
          have hin : i < n := by omega
          obtain ⟨gA, v, rfl, hvi, hci, hfi, hoi⟩ := hv.get hin
          obtain ⟨vA, vn, vc⟩ := v
          have hrow := (hS.2.2.1 i (by omega)).1
          have hvn := hoi.len
          simp only [] at hvn hci hoi
          obtain rfl : vn = n := by omega
          have hgA : gA ≠ g := fun e => by have := (hv.os.lt (k := gA) rfl).1; have := S.gl; omega
          obtain ⟨gr, rfl, hgr1, hgr2⟩ := hoi.os.form (by omega)
          have hgr : gr ≠ g := fun e => by have := S.gl; omega
          have hcap := hoi.os.cap
          go_wp2
          have hdr : Below w6.heap.size w6 w6.drew := by have := below_drewn w6 1; rwa [← World.drew_is_drewN] at this
          refine region_suf (P := Try.prog) (n := 10) (S := fun w' => w'.cell? ⟨gA, i, none⟩ = some (.slice (some ⟨gr, 0, none⟩) vn vc)) (by kernel_rfl) (by simp only [List.take_succ_cons, List.take_zero]; rfl) (by simp only [List.drop_succ_cons, List.drop_zero]; rfl) (by kernel_rfl) (by simpa using hci) ?_
          intro hS0
          refine wpAnyH_take (i := 0) (v := ?_) rfl (by kernel_rfl) (by kernel_rfl) (by kernel_rfl) (fun _ _ _ h => h) (Or.inl ⟨by rfl, ?_⟩) (by assumption) ?_
          rotate_left
          · (intro w hSw; (try dsimp only at hSw); go_simp; (try with_reducible rfl))
          simp only [Act.put, List.setIfInBounds_toArray, List.set_cons_zero, List.set_cons_succ]
          refine wpAnyH_take (i := 1) (v := ?_) rfl (by kernel_rfl) (by kernel_rfl) (by kernel_rfl) (fun _ _ _ h => h) (Or.inl ⟨by rfl, ?_⟩) (by assumption) ?_
          rotate_left
          · (intro w hSw; (try dsimp only at hSw); go_simp; (try with_reducible rfl))
          simp only [Act.put, List.setIfInBounds_toArray, List.set_cons_zero, List.set_cons_succ]
          refine wpAnyH_take (i := 2) (v := ?_) rfl (by kernel_rfl) (by kernel_rfl) (by kernel_rfl) (fun _ _ _ h => h) (Or.inl ⟨by rfl, ?_⟩) (by assumption) ?_
          rotate_left
          · (intro w hSw; (try dsimp only at hSw); go_simp; (try with_reducible rfl))
          simp only [Act.put, List.setIfInBounds_toArray, List.set_cons_zero, List.set_cons_succ]
          refine wpAnyH_take (i := 3) (v := ?_) rfl (by kernel_rfl) (by kernel_rfl) (by kernel_rfl) (fun _ _ _ h => h) (Or.inl ⟨by rfl, ?_⟩) (by assumption) ?_
          rotate_left
          · (intro w hSw; (try dsimp only at hSw); go_simp; (try with_reducible rfl))
          simp only [Act.put, List.setIfInBounds_toArray, List.set_cons_zero, List.set_cons_succ]
          refine wpAnyH_take (i := 4) (v := ?_) rfl (by kernel_rfl) (by kernel_rfl) (by kernel_rfl) (fun _ _ _ h => h) (Or.inl ⟨by rfl, ?_⟩) (by assumption) ?_
          rotate_left
          · (intro w hSw; (try dsimp only at hSw); go_simp; (try with_reducible rfl))
          simp only [Act.put, List.setIfInBounds_toArray, List.set_cons_zero, List.set_cons_succ]
          refine wpAnyH_take (i := 5) (v := ?_) rfl (by kernel_rfl) (by kernel_rfl) (by kernel_rfl) (fun _ _ _ h => h) (Or.inl ⟨by rfl, ?_⟩) (by assumption) ?_
          rotate_left
          · (intro w hSw; (try dsimp only at hSw); go_simp; (try with_reducible rfl))
          simp only [Act.put, List.setIfInBounds_toArray, List.set_cons_zero, List.set_cons_succ]
          refine wpAnyH_take (i := 6) (v := ?_) rfl (by kernel_rfl) (by kernel_rfl) (by kernel_rfl) (fun _ _ _ h => h) (Or.inl ⟨by rfl, ?_⟩) (by assumption) ?_
          rotate_left
          · (intro w hSw; (try dsimp only at hSw); go_simp; (try with_reducible rfl))
          simp only [Act.put, List.setIfInBounds_toArray, List.set_cons_zero, List.set_cons_succ]
          refine wpAnyH_take (i := 7) (v := ?_) rfl (by kernel_rfl) (by kernel_rfl) (by kernel_rfl) (fun _ _ _ h => h) (Or.inl ⟨by rfl, ?_⟩) (by assumption) ?_
          rotate_left
          · (intro w hSw; (try dsimp only at hSw); go_simp; (try with_reducible rfl))
          simp only [Act.put, List.setIfInBounds_toArray, List.set_cons_zero, List.set_cons_succ]
          refine wpAnyH_ready (rs := [8]) (by kernel_rfl) (by simp) ?_
          refine AllReadyH.cons rfl (fun K hK => ?_) AllReadyH.nil
          go_simp
          have S7 := S.step hdr
          refine (pick_any g q6 vn w6.drew S7.src (by omega) (by omega) (by omega)).mono ?_
          rintro e w8 ⟨z, q8, rfl, z0, z1, hq8, hs8, hg8⟩
          dsimp only
          obtain ⟨t, rfl⟩ := Int.eq_ofNat_of_zero_le z0
          have S8 := S7.next hs8 hg8
          have hv8 := (hv.below hdr).keptB hg8 S.gl
          have ho8 := (hoi.below hdr).kept hg8 (.inr (fun e => hgr (by injection e)))
          have hc8 := hg8.cell (below_cell hdr hci) (fun e => hgA (by injection e))
          refine hK.out _ _ hc8 (fun hS1 => ?_)
          clear hK K hS0
          have htc : t ≤ vc := by omega
          refine wpAnyH_ready (rs := [9]) (by kernel_rfl) (by simp) ?_
          refine AllReadyH.cons rfl (fun K hK => ?_) AllReadyH.nil
          go_simp
          refine hK.out _ _ hc8 (fun hS2 => ?_)
          clear hK K hS1
          refine wpAnyH_done (by kernel_rfl) ?_ _
          dsimp only [atEnd]
          obtain ⟨us, hob⟩ := OB.of_or ⟨_, hv8⟩
          have hst := hob.setRow i (v := (some ⟨gr, 0, none⟩, t, vc)) (ho8.shortD (k := t) (by omega))
          have S9 := S8.far (grown_set (g := gA) (p := i) (u := .slice (some ⟨gr, 0, none⟩) t vc)) (fun b hb => by injection hb with hb; subst hb; exact (hob.os.lt rfl).1)
          have hrl9 : ∀ y ∈ zss.set i ((row zss i).take t), y.length ≤ 10 := fun y hy => by
            rcases List.mem_or_eq_of_mem_set hy with h | rfl
            · exact hrl y h
            · rw [List.length_take]; omega
          obtain ⟨gA', -, hgA', -, -, hf9, -⟩ := hob.get hin
          injection hgA' with hgA'
          injection hgA' with hgA'
          subst hgA'
          clear hS2 hv8 S7 S8 hs8 hg8 hci hfi hdr hoi hv hob
          go_wp2
          go_ret
          exact ⟨_, _, _, _, _, rfl, RRo.of_OB hst, hn.2, hrl9, S9, by omega⟩
        | false =>
          go_wp2_with fail
          refine (one_any g q5 2 w5 S.src (by omega) (by omega) (by omega)).mono ?_
          rintro e w6 ⟨b6, q6, rfl, hq6, hs6, hg6⟩
          have ho := ho.keptB hg6 S.gl
          have S := S.next hs6 hg6
          clear hs6 hg6
          cases b6 with
          | true =>
            obtain ⟨vs9, hob⟩ := OB.of_or ho
            have hcap := hob.os.cap
            obtain ⟨n', rfl⟩ : ∃ n', n = n' + 1 := ⟨n - 1, by omega⟩
            have hwr : IntKind.i64.wrap (((n' + 1 : Nat) : Int) - 1) = (n' : Int) := by rw [IntKind.wrap_i64]; omega
            have hrr : RRo w6 w.heap.size A n' c (zss.take n') := ⟨n' + 1, vs9, zss, hob, by omega, rfl⟩
            have hrl9 : ∀ y ∈ zss.take n', y.length ≤ 10 := fun y hy => hrl y (List.mem_of_mem_take hy)
            clear hob ho
            go_wp2
            go_ret
            exact ⟨_, _, _, _, _, rfl, hrr, by omega, hrl9, S, by omega⟩
          | false =>
            obtain ⟨vs9, hob⟩ := OB.of_or ho
            go_wp2
            go_ret
            exact ⟨_, _, _, _, _, rfl, RRo.of_OB hob, hn.2, hrl, S, by omega⟩
      · have hk1 : (k == 1) = false := by simpa using e1
        obtain ⟨vs9, hob⟩ := OB.of_or ho
        go_wp2
        go_ret
        exact ⟨_, _, _, _, _, rfl, RRo.of_OB hob, hn.2, hrl, S, by omega⟩
end Go.Proofs.Ytcnjlkabdfcjdaa
/- Plain law: the search for transversals finds them in lexicographic order. No program in sight. -/
namespace Go.Proofs.Ytcnjlkabdfcjdaa

/-- the state of the search -/
structure TSt where
  left : Nat
  spent : Bool
  found : List (List Int)
/-- the symbols of chosen cells -/
def symT (a : List (List Int)) (cols : List Int) : List Int := (List.range cols.length).map fun i => nth (row a i) (nth cols i).toNat
def freeT (a : List (List Int)) (cols : List Int) (y : Nat) : Bool := !(cols.contains (y : Int)) && !((symT a cols).contains (nth (row a cols.length) y))
def trL (sub : List Int → TSt → TSt) (a : List (List Int)) (lim : Nat) (cols : List Int) : List Nat → TSt → TSt
  | [], s => s
  | y :: r, s => if freeT a cols y then (if s.spent = true ∨ s.found.length = lim then s else if s.left = 0 then { s with spent := true } else trL sub a lim cols r (sub (cols ++ [(y : Int)]) { s with left := s.left - 1 })) else trL sub a lim cols r s
def trS (a : List (List Int)) (lim : Nat) : Nat → List Int → TSt → TSt
  | 0, cols, s => { s with found := s.found ++ [cols] }
  | k + 1, cols, s => trL (trS a lim k) a lim cols (List.range a.length) s
/-- all transversals that begin so, k rows on -/
def allT (a : List (List Int)) : Nat → List Int → List (List Int)
  | 0, cols => [cols]
  | k + 1, cols => (List.range a.length).flatMap fun y => if freeT a cols y then allT a k (cols ++ [(y : Int)]) else []
section
variable {a : List (List Int)} {lim : Nat}
theorem trL_spent {sub : List Int → TSt → TSt} {cols : List Int} : ∀ (r : List Nat) (s : TSt), s.spent = true → trL sub a lim cols r s = s
  | [], s, _ => rfl
  | y :: r, s, h => by
    rw [trL]
    split
    · rw [if_pos (.inl h)]
    · exact trL_spent r s h
theorem take_take_app {l m r : List (List Int)} {n : Nat} : ((l ++ m).take n ++ r).take n = (l ++ (m ++ r)).take n := by
  rw [← List.append_assoc]
  generalize l ++ m = x
  rcases Nat.lt_or_ge x.length n with h | h
  · rw [show x.take n = x from List.take_of_length_le (by omega)]
  · rw [List.take_append_of_le_length (by rw [List.length_take]; omega), List.take_append_of_le_length h, List.take_take, Nat.min_self]
theorem take_full {l m : List (List Int)} {n : Nat} (h : l.length = n) : (l ++ m).take n = l := by
  rw [List.take_append_of_le_length (by omega), List.take_of_length_le (by omega)]
theorem trL_found {sub : List Int → TSt → TSt} {cols : List Int} {F : List Int → List (List Int)}
    (hs : ∀ c s, s.spent = false → s.found.length < lim → (sub c s).spent = false → (sub c s).found = (s.found ++ F c).take lim) :
    ∀ (r : List Nat) (s : TSt), s.spent = false → s.found.length ≤ lim → (trL sub a lim cols r s).spent = false →
      (trL sub a lim cols r s).found = (s.found ++ r.flatMap fun y => if freeT a cols y then F (cols ++ [(y : Int)]) else []).take lim
  | [], s, _, h2, _ => by rw [trL, List.flatMap_nil, List.append_nil, List.take_of_length_le h2]
  | y :: r, s, h1, h2, h3 => by
    rw [trL] at h3 ⊢
    rw [List.flatMap_cons]
    by_cases hf : freeT a cols y = true
    · rw [if_pos hf] at h3 ⊢
      rw [if_pos hf]
      by_cases hl : s.spent = true ∨ s.found.length = lim
      · rw [if_pos hl]
        rcases hl with hl | hl
        · rw [h1] at hl; cases hl
        · exact (take_full hl).symm
      · rw [if_neg hl] at h3 ⊢
        have hl2 : s.found.length < lim := by
          rcases Nat.lt_or_ge s.found.length lim with h | h
          · exact h
          · exact absurd (.inr (by omega)) hl
        by_cases h0 : s.left = 0
        · rw [if_pos h0] at h3; cases h3
        · rw [if_neg h0] at h3 ⊢
          have hsub := hs (cols ++ [(y : Int)]) { s with left := s.left - 1 } h1 hl2
          cases hsp : (sub (cols ++ [(y : Int)]) { s with left := s.left - 1 }).spent with
          | true => rw [trL_spent r _ hsp, hsp] at h3; cases h3
          | false =>
            have e := hsub hsp
            have ih := trL_found hs r _ hsp (by rw [e, List.length_take]; omega) h3
            rw [ih, e]
            exact take_take_app
    · rw [if_neg hf] at h3 ⊢
      rw [if_neg hf, List.nil_append]
      exact trL_found hs r s h1 h2 h3
theorem trS_found : ∀ (k : Nat) (cols : List Int) (s : TSt), s.spent = false → s.found.length < lim → (trS a lim k cols s).spent = false → (trS a lim k cols s).found = (s.found ++ allT a k cols).take lim
  | 0, cols, s, _, h2, _ => by
    rw [trS, allT, List.take_of_length_le (by simp; omega)]
  | k + 1, cols, s, h1, h2, h3 => by
    rw [trS] at h3 ⊢
    rw [allT]
    exact trL_found (fun c s h1 h2 h3 => trS_found k c s h1 h2 h3) _ s h1 (by omega) h3
end
/-! what is found -/
/-- the first rows chosen so that no column and no symbol comes twice -/
structure PartT (a : List (List Int)) (cols : List Int) : Prop where
  len : cols.length ≤ a.length
  bd : ∀ i, i < cols.length → 0 ≤ nth cols i ∧ nth cols i < (a.length : Int)
  col : ∀ i j, i < j → j < cols.length → nth cols i ≠ nth cols j
  sym : ∀ i j, i < j → j < cols.length → nth (row a i) (nth cols i).toNat ≠ nth (row a j) (nth cols j).toNat
theorem nth_snocT {l : List Int} {x : Int} {i : Nat} : nth (l ++ [x]) i = if i < l.length then nth l i else if i = l.length then x else 0 := by
  unfold nth
  simp only [List.getD_eq_getElem?_getD, List.getElem?_append]
  split
  · rfl
  · split
    · rename_i e; subst e; simp
    · rw [List.getElem?_eq_none (by simp; omega)]; rfl
theorem symT_mem {a : List (List Int)} {cols : List Int} {z : Int} : z ∈ symT a cols ↔ ∃ i, i < cols.length ∧ nth (row a i) (nth cols i).toNat = z := by
  unfold symT
  simp only [List.mem_map, List.mem_range]
theorem freeT_iff {a : List (List Int)} {cols : List Int} (h : PartT a cols) (hl : cols.length < a.length) {y : Nat} (hy : y < a.length) : freeT a cols y = true ↔ PartT a (cols ++ [(y : Int)]) := by
  unfold freeT
  rw [Bool.and_eq_true, Bool.not_eq_true', Bool.not_eq_true', ← Bool.not_eq_true, ← Bool.not_eq_true, List.contains_iff_mem, List.contains_iff_mem, symT_mem]
  constructor
  · rintro ⟨h1, h2⟩
    refine ⟨by simp; omega, fun i hi => ?_, fun i j hij hj => ?_, fun i j hij hj => ?_⟩
    · rw [List.length_append, List.length_singleton] at hi
      rw [nth_snocT]
      split
      · exact h.bd i (by assumption)
      · rw [if_pos (by omega)]; omega
    · rw [List.length_append, List.length_singleton] at hj
      rw [nth_snocT, nth_snocT, if_pos (by omega)]
      split
      · exact h.col i j hij (by assumption)
      · rw [if_pos (by omega)]
        intro e
        exact h1 (by rw [← e, nth_get (by omega)]; exact List.getElem_mem _)
    · rw [List.length_append, List.length_singleton] at hj
      rw [nth_snocT, nth_snocT, if_pos (by omega)]
      split
      · exact h.sym i j hij (by assumption)
      · have ej : j = cols.length := by omega
        subst ej
        rw [if_pos rfl, Int.toNat_natCast]
        exact fun e => h2 ⟨i, by omega, e⟩
  · intro k
    have hlen : (cols ++ [(y : Int)]).length = cols.length + 1 := by simp
    refine ⟨fun hm => ?_, ?_⟩
    · obtain ⟨i, hi, e⟩ := mem_nth hm
      have := k.col i cols.length hi (by omega)
      rw [nth_snocT, nth_snocT, if_pos hi, if_neg (by omega), if_pos rfl] at this
      exact this e
    · rintro ⟨i, hi, e⟩
      have := k.sym i cols.length hi (by omega)
      rw [nth_snocT, nth_snocT, if_pos hi, if_neg (by omega), if_pos rfl, Int.toNat_natCast] at this
      exact this e
theorem PartT.prefix_ {a : List (List Int)} {cols : List Int} {y : Int} (h : PartT a (cols ++ [y])) : PartT a cols := by
  have hl : (cols ++ [y]).length = cols.length + 1 := by simp
  have e : ∀ i, i < cols.length → nth (cols ++ [y]) i = nth cols i := fun i hi => by rw [nth_snocT, if_pos hi]
  refine ⟨by have := h.len; omega, fun i hi => ?_, fun i j hij hj => ?_, fun i j hij hj => ?_⟩
  · rw [← e i hi]; exact h.bd i (by omega)
  · rw [← e i (by omega), ← e j hj]; exact h.col i j hij (by omega)
  · rw [← e i (by omega), ← e j hj]; exact h.sym i j hij (by omega)
/-- all of them, and no others -/
theorem allT_mem {a : List (List Int)} : ∀ (k : Nat) (cols : List Int), PartT a cols → cols.length + k = a.length → ∀ c, c ∈ allT a k cols ↔ PartT a c ∧ c.length = a.length ∧ c.take cols.length = cols
  | 0, cols, h, hl, c => by
    rw [allT, List.mem_singleton]
    constructor
    · rintro rfl; exact ⟨h, by omega, List.take_of_length_le (Nat.le_refl _)⟩
    · rintro ⟨-, h2, h3⟩
      rw [List.take_of_length_le (by omega)] at h3
      exact h3
  | k + 1, cols, h, hl, c => by
    rw [allT, List.mem_flatMap]
    constructor
    · rintro ⟨y, hy, hc⟩
      have hy := List.mem_range.1 hy
      split at hc
      · rename_i hf
        have h2 := (freeT_iff h (by omega) hy).1 hf
        obtain ⟨h3, h4, h5⟩ := (allT_mem k _ h2 (by simp; omega) c).1 hc
        refine ⟨h3, h4, ?_⟩
        have := congrArg (List.take cols.length) h5
        rw [List.take_take, List.length_append, List.length_singleton, Nat.min_eq_left (by omega), List.take_append_of_le_length (Nat.le_refl _), List.take_of_length_le (Nat.le_refl _)] at this
        exact this
      · cases hc
    · rintro ⟨h1, h2, h3⟩
      have hb := h1.bd cols.length (by omega)
      have hpre : c.take (cols.length + 1) = cols ++ [nth c cols.length] := by
        rw [List.take_succ_eq_append_getElem (by omega), h3, nth_get (by omega)]
      have hP : ∀ t, t ≤ c.length → PartT a (c.take t) := fun t ht => by
        have hlt : (c.take t).length = t := by rw [List.length_take]; omega
        have e : ∀ i, i < t → nth (c.take t) i = nth c i := fun i hi => by unfold nth; simp [List.getD_eq_getElem?_getD, List.getElem?_take, hi]
        refine ⟨by omega, fun i hi => ?_, fun i j hij hj => ?_, fun i j hij hj => ?_⟩
        · rw [e i (by omega)]; exact h1.bd i (by omega)
        · rw [e i (by omega), e j (by omega)]; exact h1.col i j hij (by omega)
        · rw [e i (by omega), e j (by omega)]; exact h1.sym i j hij (by omega)
      have hy : (nth c cols.length).toNat < a.length := by omega
      have ey : (((nth c cols.length).toNat : Nat) : Int) = nth c cols.length := by omega
      refine ⟨(nth c cols.length).toNat, List.mem_range.2 hy, ?_⟩
      have hP2 := hP (cols.length + 1) (by omega)
      rw [hpre, ← ey] at hP2
      rw [if_pos ((freeT_iff h (by omega) hy).2 hP2)]
      refine (allT_mem k _ hP2 (by simp; omega) c).2 ⟨h1, h2, ?_⟩
      rw [List.length_append, List.length_singleton, hpre, ey]
theorem agree_of_take {x y : List Int} {k : Nat} (h : x.take k = y.take k) (hx : k ≤ x.length) (hy : k ≤ y.length) : agree x y k := by
  refine ⟨hx, hy, fun j hj => ?_⟩
  have e : ∀ l : List Int, nth (l.take k) j = nth l j := fun l => by unfold nth; simp [List.getD_eq_getElem?_getD, List.getElem?_take, hj]
  rw [← e x, ← e y, h]
/-- in lexicographic order -/
theorem allT_strict {a : List (List Int)} : ∀ (k : Nat) (cols : List Int), PartT a cols → cols.length + k = a.length → StrictL cmpL (allT a k cols)
  | 0, cols, _, _ => by rw [allT]; exact List.pairwise_singleton _ _
  | k + 1, cols, h, hl => by
    rw [allT, StrictL, List.pairwise_flatMap]
    refine ⟨fun y hy => ?_, List.Pairwise.imp_of_mem ?_ List.pairwise_lt_range⟩
    · have hy := List.mem_range.1 hy
      split
      · rename_i hf
        exact allT_strict k _ ((freeT_iff h (by omega) hy).1 hf) (by simp; omega)
      · exact List.Pairwise.nil
    · intro y z hy hz hyz u hu v hv
      have hy := List.mem_range.1 hy
      have hz := List.mem_range.1 hz
      split at hu
      · split at hv
        · rename_i f1 f2
          obtain ⟨-, u2, u3⟩ := (allT_mem k _ ((freeT_iff h (by omega) hy).1 f1) (by simp; omega) u).1 hu
          obtain ⟨-, v2, v3⟩ := (allT_mem k _ ((freeT_iff h (by omega) hz).1 f2) (by simp; omega) v).1 hv
          have key : ∀ (c : List Int) (t : Nat), c.length = a.length → c.take (cols ++ [(t : Int)]).length = cols ++ [(t : Int)] → c.take cols.length = cols ∧ nth c cols.length = t := fun c t hc e => by
            rw [List.length_append, List.length_singleton] at e
            constructor
            · have := congrArg (List.take cols.length) e
              rw [List.take_take, Nat.min_eq_left (by omega), List.take_append_of_le_length (Nat.le_refl _), List.take_of_length_le (Nat.le_refl _)] at this
              exact this
            · have := congrArg (fun l => nth l cols.length) e
              simp only [nth_snocT, Nat.lt_irrefl, if_false, if_true] at this
              rw [← this]
              unfold nth
              simp [List.getD_eq_getElem?_getD, List.getElem?_take]
          obtain ⟨p1, p2⟩ := key u y u2 u3
          obtain ⟨q1, q2⟩ := key v z v2 v3
          have hag : agree u v cols.length := agree_of_take (by rw [p1, q1]) (by omega) (by omega)
          rw [cmpL_lt hag (by omega) (by omega) (by rw [p2, q2]; omega)]
          decide
        · cases hv
      · cases hu
theorem PartT.nil (a : List (List Int)) : PartT a [] := ⟨Nat.zero_le _, fun i h => absurd h (by simp), fun i j _ h => absurd h (by simp), fun i j _ h => absurd h (by simp)⟩
/-- what the law asks: a list that is not among those found comes behind them, and there are as many as are asked for -/
theorem first_of {l : List (List Int)} {lim : Nat} (hs : StrictL cmpL l) {p : List Int} (hp : p ∈ l) (hn : p ∉ l.take lim) : (l.take lim).length = lim ∧ ∀ i, i < lim → cmpL (row (l.take lim) i) p < 0 := by
  obtain ⟨j, hj, rfl⟩ := List.mem_iff_getElem.1 hp
  have hjl : lim ≤ j := by
    rcases Nat.lt_or_ge j lim with h | h
    · exact absurd (List.mem_take_iff_getElem.2 ⟨j, by omega, rfl⟩) hn
    · exact h
  have hlen : (l.take lim).length = lim := by rw [List.length_take]; omega
  refine ⟨hlen, fun i hi => ?_⟩
  rw [row_get (by omega), List.getElem_take]
  exact List.pairwise_iff_getElem.1 hs i j (by omega) hj (by omega)
end Go.Proofs.Ytcnjlkabdfcjdaa
