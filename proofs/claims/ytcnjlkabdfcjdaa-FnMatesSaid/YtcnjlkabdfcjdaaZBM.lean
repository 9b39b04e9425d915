/- Transversals, the program's search. No condition beyond those stated. -/
import Derived.Test.YtcnjlkabdfcjdaaZBB
import Derived.Test.YtcnjlkabdfcjdaaZBC
import Derived.Test.YtcnjlkabdfcjdaaZAE
import Derived.Test.YtcnjlkabdfcjdaaZAW
import Derived.Test.YtcnjlkabdfcjdaaZAO
import Derived.Deep.DeepCutAuto
set_option linter.unusedVariables false
set_option linter.unusedSimpArgs false
namespace Go.Proofs.Ytcnjlkabdfcjdaa
open Go.RowKit

/-! how far a search goes -/
theorem trL_le {a : List (List Int)} {lim L : Nat} {cols : List Int} {sub : List Int → TSt → TSt} (hs : ∀ c s, s.found.length < lim → s.left ≤ L → (sub c s).found.length ≤ lim ∧ (sub c s).left ≤ L) : ∀ (r : List Nat) (s : TSt), s.found.length ≤ lim → s.left ≤ L → (trL sub a lim cols r s).found.length ≤ lim ∧ (trL sub a lim cols r s).left ≤ L
  | [], s, h1, h2 => ⟨h1, h2⟩
  | y :: r, s, h1, h2 => by
    rw [trL]
    split
    · split
      · exact ⟨h1, h2⟩
      · rename_i h
        split
        · exact ⟨h1, h2⟩
        · have hlt : s.found.length < lim := by
            rcases Nat.lt_or_ge s.found.length lim with h3 | h3
            · exact h3
            · exact absurd (.inr (by omega)) h
          obtain ⟨e1, e2⟩ := hs (cols ++ [(y : Int)]) { s with left := s.left - 1 } hlt (by simp only []; omega)
          exact trL_le hs r _ e1 e2
    · exact trL_le hs r s h1 h2
theorem trS_le {a : List (List Int)} {lim L : Nat} : ∀ (k : Nat) (cols : List Int) (s : TSt), s.found.length < lim → s.left ≤ L → (trS a lim k cols s).found.length ≤ lim ∧ (trS a lim k cols s).left ≤ L
  | 0, cols, s, h1, h2 => by rw [trS]; exact ⟨by simp; omega, h2⟩
  | k + 1, cols, s, h1, h2 => by
    rw [trS]
    exact trL_le (fun c s h1 h2 => trS_le k c s h1 h2) _ s (by omega) h2
/-- the search's state -/
def ITs (w0 w : World) (M n : Nat) (SA : Option Addr) (sc : Nat) (a : List (List Int)) (lim : Nat) (s : TSt) (cols : List Int) (C FA : Option Addr) : Prop :=
  ∃ m mc fn fk vs, ITr w0 w M n SA sc a lim C m mc FA fn fk (s.left : Nat) s.spent (fun z => memB (symT a cols) (z : Nat)) cols vs s.found
def RetTs (w0 w : World) (M n : Nat) (SA : Option Addr) (sc : Nat) (a : List (List Int)) (lim : Nat) (s : TSt) (cols : List Int) (C FA : Option Addr) (e : Ending) (w' : World) : Prop :=
  e = .returned (.tuple #[]) ∧ ∃ C' FA', ITs w0 w' M n SA sc a lim s cols C' FA' ∧ Kc M w w' C C' FA FA'
set_option maxHeartbeats 1000000 in
theorem doneT_any {w0 w : World} {M n : Nat} {SA : Option Addr} {sc : Nat} {a : List (List Int)} {lim : Nat} {C : Option Addr} {m mc : Nat} {FA : Option Addr} {fn fk : Nat} {left : Int} {spent : Bool} {dn : Nat → Bool} {cols : List Int} {vs : List Sl} {found : List (List Int)} (h : ITr w0 w M n SA sc a lim C m mc FA fn fk left spent dn cols vs found) (hf : fn ≤ 1000) :
    Calls Try.prog 71 #[.pointer (some ⟨w0.heap.size + 1, 0, none⟩)] w (Quiet w (.bool (spent || decide (fn = lim)))) := by
  obtain ⟨⟨x0, x1, x2, x3⟩, x4, x5, x6⟩ := h.cells
  have HD := Lib.hid (show ((fn : Int) == (lim : Int)) = decide (fn = lim) by
    by_cases e : fn = lim
    · subst e; simp
    · rw [decide_eq_false e]; simp; omega)
  clear h
  cases spent with
  | true =>
    go_enter Try.func71, Try.ntmps71
    go_wp2
    go_quiet (fail)
    go_wp2
    go_ret
    exact ⟨rfl, ⟨_, rfl⟩⟩
  | false =>
    go_enter Try.func71, Try.ntmps71
    go_wp2
    go_quiet ((go_at_call 48; exact Quiet.call ((sizeR_any FA fn fk _ (by omega)).mono fun _ _ h => Quiet.of_same h)))
    go_wp2
    go_ret
    refine ⟨?_, ⟨_, rfl⟩⟩
    rw [Bool.false_or, ← HD.out]
    rfl
set_option maxRecDepth 100000 in
set_option maxHeartbeats 4000000 in
theorem searchT_leaf (w0 w : World) (M n : Nat) (SA : Option Addr) (sc : Nat) (a : List (List Int)) (lim : Nat) (s : TSt) (cols : List Int) (C FA : Option Addr) (hS : ITs w0 w M n SA sc a lim s cols C FA) (hl : cols.length = n) (hn : n ≤ 10) (hf : s.found.length ≤ 1000) :
    Calls Try.prog 37 #[.pointer (some ⟨w0.heap.size + 1, 0, none⟩)] w (RetTs w0 w M n SA sc a lim { s with found := s.found ++ [cols] } cols C FA) := by
  obtain ⟨m, mc, fn, fk, vs, h⟩ := hS
  have hml := h.c.len
  obtain rfl : m = n := by omega
  obtain ⟨⟨-, -, x2, -⟩, x4, -, x6⟩ := h.cells
  have hfn := h.r.slen
  have hfn2 : fn ≤ 1000 := by omega
  have H := Lib.hid h
  clear h hf hml hl hfn
  go_enter Try.func37, Try.ntmps37
  go_wp2
  have hdr : Below w.heap.size w w.drew := by have := below_drewn w 1; rwa [← World.drew_is_drewN] at this
  refine region_suf (P := Try.prog) (n := 12) (S := fun w' => w'.cell? ⟨w0.heap.size + 1, 6, none⟩ = some (.slice FA fn fk) ∧ w'.cell? ⟨w0.heap.size + 1, 4, none⟩ = some (.slice C m mc)) (by kernel_rfl) (by simp only [List.take_succ_cons, List.take_zero]; rfl) (by simp only [List.drop_succ_cons, List.drop_zero]; rfl) (by kernel_rfl) (by simpa using ⟨x6, x4⟩) ?_
  intro hS
  refine wpAnyH_take (i := 0) (v := ?_) rfl (by kernel_rfl) (by kernel_rfl) (by kernel_rfl) (fun _ _ _ h => h) (Or.inl ⟨by rfl, ?_⟩) (by assumption) ?_
  rotate_left
  · (intro w hSw; (try dsimp only at hSw); go_simp; (try with_reducible rfl))
  simp only [Act.put, List.setIfInBounds_toArray, List.set_cons_zero, List.set_cons_succ]
  refine wpAnyH_take (i := 1) (v := ?_) rfl (by kernel_rfl) (by kernel_rfl) (by kernel_rfl) (fun _ _ _ h => h) (Or.inl ⟨by rfl, ?_⟩) (by assumption) ?_
  rotate_left
  · (intro w hSw; (try dsimp only at hSw); go_simp; (try with_reducible rfl))
  simp only [Act.put, List.setIfInBounds_toArray, List.set_cons_zero, List.set_cons_succ]
  refine wpAnyH_take (i := 2) (v := ?_) rfl (by kernel_rfl) (by kernel_rfl) (by kernel_rfl) (fun _ _ _ h => h) (Or.inl ⟨by rfl, ?_⟩) (by assumption) ?_
  rotate_left
  · (intro w hSw; (try dsimp only at hSw); go_simp; (try with_reducible rfl))
  simp only [Act.put, List.setIfInBounds_toArray, List.set_cons_zero, List.set_cons_succ]
  refine wpAnyH_take (i := 3) (v := ?_) rfl (by kernel_rfl) (by kernel_rfl) (by kernel_rfl) (fun _ _ _ h => h) (Or.inl ⟨by rfl, ?_⟩) (by assumption) ?_
  rotate_left
  · (intro w hSw; (try dsimp only at hSw); go_simp; (try with_reducible rfl))
  simp only [Act.put, List.setIfInBounds_toArray, List.set_cons_zero, List.set_cons_succ]
  refine wpAnyH_take (i := 4) (v := ?_) rfl (by kernel_rfl) (by kernel_rfl) (by kernel_rfl) (fun _ _ _ h => h) (Or.inl ⟨by rfl, ?_⟩) (by assumption) ?_
  rotate_left
  · (intro w hSw; (try dsimp only at hSw); go_simp; (try with_reducible rfl))
  simp only [Act.put, List.setIfInBounds_toArray, List.set_cons_zero, List.set_cons_succ]
  refine wpAnyH_take (i := 5) (v := ?_) rfl (by kernel_rfl) (by kernel_rfl) (by kernel_rfl) (fun _ _ _ h => h) (Or.inl ⟨by rfl, ?_⟩) (by assumption) ?_
  rotate_left
  · (intro w hSw; (try dsimp only at hSw); go_simp; (try with_reducible rfl))
  simp only [Act.put, List.setIfInBounds_toArray, List.set_cons_zero, List.set_cons_succ]
  refine wpAnyH_take (i := 6) (v := ?_) rfl (by kernel_rfl) (by kernel_rfl) (by kernel_rfl) (fun _ _ _ h => h) (Or.inl ⟨by rfl, ?_⟩) (by assumption) ?_
  rotate_left
  · (intro w hSw; (try dsimp only at hSw); go_simp; (try with_reducible rfl))
  simp only [Act.put, List.setIfInBounds_toArray, List.set_cons_zero, List.set_cons_succ]
  refine wpAnyH_take (i := 7) (v := ?_) rfl (by kernel_rfl) (by kernel_rfl) (by kernel_rfl) (fun _ _ _ h => h) (Or.inl ⟨by rfl, ?_⟩) (by assumption) ?_
  rotate_left
  · (intro w hSw; (try dsimp only at hSw); go_simp; (try with_reducible rfl))
  simp only [Act.put, List.setIfInBounds_toArray, List.set_cons_zero, List.set_cons_succ]
  refine wpAnyH_take (i := 8) (v := ?_) rfl (by kernel_rfl) (by kernel_rfl) (by kernel_rfl) (fun _ _ _ h => h) (Or.inl ⟨by rfl, ?_⟩) (by assumption) ?_
  rotate_left
  · (intro w hSw; (try dsimp only at hSw); go_simp; (try with_reducible rfl))
  simp only [Act.put, List.setIfInBounds_toArray, List.set_cons_zero, List.set_cons_succ]
  refine wpAnyH_ready (rs := [9]) (by kernel_rfl) (by simp) ?_
  refine AllReadyH.cons rfl (fun K hK => ?_) AllReadyH.nil
  go_simp
  refine (clone_any C m mc cols _ (H.out.c.reads.keep hdr) (by omega)).mono ?_
  rintro e w5 ⟨A5, n5, k5, rfl, ho5, hb5⟩
  dsimp only
  have hb5' : Below w.heap.size w w5 := hdr.trans (hb5.mono (Nat.le_refl _))
  refine hK.out _ _ ⟨below_cell hb5' x6, below_cell hb5' x4⟩ (fun hS1 => ?_)
  clear hK K hS
  refine wpAnyH_ready (rs := [10]) (by kernel_rfl) (by simp) ?_
  refine AllReadyH.cons rfl (fun K hK => ?_) AllReadyH.nil
  go_simp
  have hb6 := hb5'.trans ((below_alloc w5 (.cells #[.slice A5 n5 k5] 30)).mono hb5'.size)
  refine hK.out _ _ ⟨below_cell hb6 x6, below_cell hb6 x4⟩ (fun hS2 => ?_)
  clear hK K hS1
  refine wpAnyH_ready (rs := [11]) (by kernel_rfl) (by simp) ?_
  refine AllReadyH.cons rfl (fun K hK => ?_) AllReadyH.nil
  have H5 := H.out.below hb5'
  have hsz : w.heap.size ≤ w5.heap.size := hb5'.size
  have hnew : ∀ k, blk A5 = some k → w.heap.size ≤ k := fun k hk => (ho5.os.lt hk).1
  have hap : ∀ (j : Nat) (u : Sl), vs[j]? = some u → apart u (A5, n5, k5) := H.out.r.apart_new hnew
  have hC5 : blk A5 = none ∨ blk A5 ≠ blk C := by
    by_cases hz : blk A5 = none
    · exact .inl hz
    · exact .inr fun e => by
        obtain ⟨k, hk⟩ := Option.ne_none_iff_exists'.1 hz
        have h7 := hnew k hk
        have h8 := (H.out.c.os.lt (e.symm.trans hk)).2
        omega
  refine step_of_list (by rfl) ?_
  refine app_row _ (by rfl) (.tmp 21) (.tmp 27) (by rfl) M FA fn fk vs s.found (by rfl) H5.r (A5, n5, k5) _ (ho5.more H.out.M3) hap w5.heap.size (by rfl) rfl (by omega) H5.M3 ?_
  intro A6 c6 w6 ho6 hg6 hf6
  have hX6 := (H5.grow hg6 (fun k hk => H5.r.os.lt hk)).1
  have H6 := H5.more hg6 ho6 hC5
  refine list_onlyK ?_
  refine hK.out _ _ ⟨hX6.cell 6, hX6.cell 4⟩ (fun hS3 => ?_)
  clear hK K hS2
  refine wpAnyH_done (by kernel_rfl) ?_ _
  dsimp only [atEnd]
  have z6 := hX6.frozen 6
  have q6 := hX6.cell 6
  have HK6 : Kc M w (w6.setCell ⟨w0.heap.size + 1, 6, none⟩ (.slice A6 (fn + 1) c6)) C C FA A6 := (((Kc.of_below hb5').trans (Kc.grownF (C := C) hg6 hf6))).trans (Kc.set (C := C) (FA := A6) (p := ⟨w0.heap.size + 1, 6, none⟩) (by have := H.out.M2; show w0.heap.size + 1 < M; omega) (.slice A6 (fn + 1) c6))
  have HH6 := Lib.hid H6
  have HK := Lib.hid HK6
  clear H6 HK6 H5 hX6 hap hnew ho6 hg6 hf6 ho5 hb5 hb5' hb6 hS3 x2 x4 x6 hdr hC5
  go_wp2
  refine bodyPost_ret (results_none rfl _ _ _) rfl ?_
  exact ⟨rfl, C, A6, ⟨m, mc, fn + 1, c6, vs ++ [(A5, n5, k5)], HH6.out⟩, HK.out⟩
end Go.Proofs.Ytcnjlkabdfcjdaa
