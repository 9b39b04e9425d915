/- Transversals, the program's search: a node is counted; whether a list contains a number. No condition beyond those stated. -/
import Derived.Test.YtcnjlkabdfcjdaaZAP
import Derived.Test.YtcnjlkabdfcjdaaZAE
import Derived.Test.YtcnjlkabdfcjdaaZAN
import Derived.Deep.DeepCutAuto
set_option linter.unusedVariables false
set_option linter.unusedSimpArgs false
namespace Go.Proofs.Ytcnjlkabdfcjdaa
open Go.RowKit

def memB (l : List Int) (x : Int) : Bool := l.any fun y => y == x
theorem memB_true {l : List Int} {x : Int} : memB l x = true ↔ x ∈ l := by simp [memB]
theorem memB_false {l : List Int} {x : Int} : memB l x = false ↔ x ∉ l := by rw [← memB_true, Bool.not_eq_true]
set_option maxHeartbeats 400000 in
theorem indexI_any (A : Option Addr) (n c : Nat) (zs : List Int) (x : Int) (w : World) (ha : RI w A n zs) (hn : n ≤ 9223372036854775807) :
    Calls Try.prog 85 #[.slice A n c, .int .i64 x] w fun e w' => ∃ r : Int, e = .returned (.int .i64 r) ∧ -1 ≤ r ∧ r ≤ 9223372036854775807 ∧ (0 ≤ r ↔ x ∈ zs) ∧ w = w' := by
  have hla := Lib.hid ha.len
  go_enter Try.func85, Try.ntmps85
  go_wp2
  go_loopw [5, 8] (fun _ i wr => ∃ k : Nat, k ≤ n ∧ i = .int .i64 k ∧ w = wr ∧ ∀ j, j < k → nth zs j ≠ x) (fun _ i _ => n - (intOf i).toNat)
  case atStart => exact ⟨0, Nat.zero_le _, rfl, by trivial, fun x h => absurd h (by omega)⟩
  case round =>
    obtain ⟨k, hk, rfl, rfl, hno⟩ := hrel
    by_cases hlt : k < n
    · obtain ⟨a, rfl, hca, hia⟩ := ha.get hlt
      by_cases hq : nth zs k = x
      · rw [hq] at hca
        have H := Lib.hid (show x ∈ zs by rw [← hq, nth_get (by rw [hla.out]; exact hlt)]; exact List.getElem_mem _)
        clear hno hq hia
        go_wp2
        go_ret
        exact ⟨k, rfl, by omega, by omega, ⟨fun _ => H.out, fun _ => by omega⟩, rfl⟩
      · have hqb : (x == nth zs k) = false := by simp; exact fun e => hq e.symm
        have H := Lib.hid (show ∀ j, j < k + 1 → nth zs j ≠ x from fun j hx => by
          rcases Nat.lt_succ_iff_lt_or_eq.1 hx with h | h
          · exact hno j h
          · rw [h]; exact hq)
        clear hno hq
        generalize nth zs k = q at *
        go_wp2
        go_roundw
        case rel => exact ⟨k + 1, by omega, by go_num, by trivial, H.out⟩
        case measure => simp [intOf]; omega
    · obtain rfl : k = n := by omega
      have H := Lib.hid hno
      clear hno
      go_wp2
      go_ret
      refine ⟨-1, rfl, by omega, by omega, ⟨fun h => by omega, fun h => ?_⟩, rfl⟩
      obtain ⟨j, hj, rfl⟩ := List.mem_iff_getElem.1 h
      exact absurd (nth_get hj) (H.out j (by rw [← hla.out]; exact hj))
theorem containsI_any (A : Option Addr) (n c : Nat) (zs : List Int) (x : Int) (w : World) (ha : RI w A n zs) (hn : n ≤ 9223372036854775807) :
    Calls Try.prog 53 #[.slice A n c, .int .i64 x] w fun e w' => e = .returned (.bool (memB zs x)) ∧ w = w' := by
  go_enter Try.func53, Try.ntmps53
  go_wp2_with fail
  refine (indexI_any A n c zs x _ ha hn).mono ?_
  rintro e w1 ⟨r, rfl, h1, h2, h3, rfl⟩
  have H := Lib.hid h3
  clear h3
  go_wp2
  go_ret
  refine ⟨?_, rfl⟩
  by_cases h : 0 ≤ r
  · rw [memB_true.2 (H.out.1 h)]; simp [h]
  · rw [memB_false.2 (fun hh => h (H.out.2 hh))]; simp [h]
set_option maxHeartbeats 1000000 in
theorem nodeC_any (w : World) (pb : Nat) (l : Nat) (b : Bool) (h0 : w.cell? ⟨pb, 0, none⟩ = some (.int .i64 (l : Int))) (h1 : w.cell? ⟨pb, 1, none⟩ = some (.bool b)) (f0 : w.frozen? ⟨pb, 0, none⟩ = false) (f1 : w.frozen? ⟨pb, 1, none⟩ = false) (hl : l ≤ 1048576) :
    Calls Try.prog 72 #[.pointer (some ⟨pb, 0, none⟩)] w (fun e w' => e = .returned (.bool (decide (l ≠ 0))) ∧ w' = if l = 0 then w.setCell ⟨pb, 1, none⟩ (.bool true) else w.setCell ⟨pb, 0, none⟩ (.int .i64 ((l : Int) - 1))) := by
  by_cases h : l = 0
  · subst h
    go_enter Try.func72, Try.ntmps72
    go_wp2
    go_ret
    exact ⟨rfl, rfl⟩
  · have h' : ((l : Int) == 0) = false := by simp; omega
    have hd : decide (l ≠ 0) = true := by simp [h]
    rw [hd, if_neg h]
    clear h hd
    go_enter Try.func72, Try.ntmps72
    go_wp2
    go_ret
    exact ⟨rfl, rfl⟩
end Go.Proofs.Ytcnjlkabdfcjdaa
/- Plain law of transversals, as the law asks it. No program in sight. -/
namespace Go.Proofs.Ytcnjlkabdfcjdaa

/-- a transversal: columns that are a permutation, and so are the symbols -/
def TransOk (a : List (List Int)) (c : List Int) : Prop := c.length = a.length ∧ PermOk c ∧ PermOk (symT a c)
theorem symT_len (a : List (List Int)) (c : List Int) : (symT a c).length = c.length := by simp [symT]
theorem symT_nth {a : List (List Int)} {c : List Int} {i : Nat} (h : i < c.length) : nth (symT a c) i = nth (row a i) (nth c i).toNat := by
  rw [nth_get (by rw [symT_len]; exact h)]
  simp [symT]
theorem trans_iff {a : List (List Int)} (hq : Square a) (c : List Int) : TransOk a c ↔ PartT a c ∧ c.length = a.length := by
  have hn := hq.2.1
  constructor
  · rintro ⟨h1, h2, h3⟩
    refine ⟨⟨by omega, fun i hi => ?_, fun i j hij hj => h2.2.ne i j hij hj, fun i j hij hj => ?_⟩, h1⟩
    · have := h2.2.bd i hi
      rw [h1] at this
      exact this
    · have := h3.2.ne i j hij (by rw [symT_len]; exact hj)
      rwa [symT_nth (by omega), symT_nth hj] at this
  · rintro ⟨h, hl⟩
    refine ⟨hl, ⟨by omega, ⟨fun k hk => ?_, fun i j hij hj => h.col i j hij hj⟩⟩, ⟨by rw [symT_len]; omega, ⟨fun k hk => ?_, fun i j hij hj => ?_⟩⟩⟩
    · rw [hl]
      exact h.bd k hk
    · rw [symT_len] at hk
      have hb := h.bd k hk
      obtain ⟨r1, r2⟩ := hq.2.2.1 k (by omega)
      have := r2.bd (nth c k).toNat (by rw [r1]; omega)
      rw [symT_nth hk, symT_len, hl]
      rw [r1] at this
      exact this
    · rw [symT_len] at hj
      rw [symT_nth (by omega), symT_nth hj]
      exact h.sym i j hij hj
/-- the search that is not cut off -/
def trR (a : List (List Int)) (lim budget : Nat) : TSt := trS a lim a.length [] ⟨budget, false, []⟩
theorem trR_found {a : List (List Int)} {lim budget : Nat} (hl : 0 < lim) (h : (trR a lim budget).spent = false) : (trR a lim budget).found = (allT a a.length []).take lim := by
  have := trS_found a.length [] ⟨budget, false, []⟩ rfl hl h
  rwa [List.nil_append] at this
/-- what the law asks of the lists that are found -/
structure FoundOk (a : List (List Int)) (lim : Nat) (L : List (List Int)) : Prop where
  len : L.length ≤ lim
  trans : ∀ i, i < L.length → TransOk a (row L i)
  up : ∀ i, i + 1 < L.length → cmpL (row L i) (row L (i + 1)) = -1
  rest : ∀ p, TransOk a p → p ∉ L → L.length = lim ∧ cmpL (row L (lim - 1)) p = -1
theorem found_ok {a : List (List Int)} (hq : Square a) {lim budget : Nat} (hl : 0 < lim) (h : (trR a lim budget).spent = false) : FoundOk a lim (trR a lim budget).found := by
  rw [trR_found hl h]
  have hP := PartT.nil a
  have hs := allT_strict a.length [] hP (by simp)
  have hm := allT_mem a.length [] hP (by simp)
  have neg1 : ∀ x y : List Int, cmpL x y < 0 → cmpL x y = -1 := fun x y h => by have := cmpL_bd x y; omega
  refine ⟨by rw [List.length_take]; omega, fun i hi => ?_, fun i hi => ?_, fun p hp hn => ?_⟩
  · rw [row_get hi]
    have := List.mem_of_mem_take (List.getElem_mem hi)
    obtain ⟨h1, h2, -⟩ := (hm _).1 this
    exact (trans_iff hq _).2 ⟨h1, h2⟩
  · rw [row_get (by omega), row_get hi]
    have := List.pairwise_iff_getElem.1 (List.Pairwise.sublist (List.take_sublist lim _) hs) i (i + 1) (by omega) hi (by omega)
    exact neg1 _ _ this
  · obtain ⟨h1, h2⟩ := (trans_iff hq p).1 hp
    have hpm := (hm p).2 ⟨h1, h2, by simp⟩
    obtain ⟨g1, g2⟩ := first_of hs hpm hn
    exact ⟨g1, neg1 _ _ (g2 (lim - 1) (by omega))⟩
/-- where there is one, one is found -/
theorem found_some {a : List (List Int)} (hq : Square a) {budget : Nat} (h : (trR a 1 budget).spent = false) {p : List Int} (hp : TransOk a p) : (trR a 1 budget).found.length = 1 := by
  have hF := found_ok hq (lim := 1) (by decide) h
  by_cases hm : p ∈ (trR a 1 budget).found
  · have := List.length_pos_of_mem hm
    have := hF.len
    omega
  · exact (hF.rest p hp hm).1
end Go.Proofs.Ytcnjlkabdfcjdaa
/- Transversals, the program's search. No condition beyond those stated. -/
namespace Go.Proofs.Ytcnjlkabdfcjdaa
open Go.RowKit

/-! how far a search goes -/
theorem trL_le {a : List (List Int)} {lim L : Nat} {cols : List Int} {sub : List Int → TSt → TSt} (hs : ∀ c s, s.found.length < lim → s.left ≤ L → (sub c s).found.length ≤ lim ∧ (sub c s).left ≤ L) : ∀ (r : List Nat) (s : TSt), s.found.length ≤ lim → s.left ≤ L → (trL sub a lim cols r s).found.length ≤ lim ∧ (trL sub a lim cols r s).left ≤ L
  | [], s, h1, h2 => ⟨h1, h2⟩
  | y :: r, s, h1, h2 => by
    rw [trL]
    split
    · split
      · exact ⟨h1, h2⟩
      · rename_i h
        split
        · exact ⟨h1, h2⟩
        · have hlt : s.found.length < lim := by
            rcases Nat.lt_or_ge s.found.length lim with h3 | h3
            · exact h3
            · exact absurd (.inr (by omega)) h
          obtain ⟨e1, e2⟩ := hs (cols ++ [(y : Int)]) { s with left := s.left - 1 } hlt (by simp only []; omega)
          exact trL_le hs r _ e1 e2
    · exact trL_le hs r s h1 h2
theorem trS_le {a : List (List Int)} {lim L : Nat} : ∀ (k : Nat) (cols : List Int) (s : TSt), s.found.length < lim → s.left ≤ L → (trS a lim k cols s).found.length ≤ lim ∧ (trS a lim k cols s).left ≤ L
  | 0, cols, s, h1, h2 => by rw [trS]; exact ⟨by simp; omega, h2⟩
  | k + 1, cols, s, h1, h2 => by
    rw [trS]
    exact trL_le (fun c s h1 h2 => trS_le k c s h1 h2) _ s (by omega) h2
/-- the search's state -/
def ITs (w0 w : World) (M n : Nat) (SA : Option Addr) (sc : Nat) (a : List (List Int)) (lim : Nat) (s : TSt) (cols : List Int) (C FA : Option Addr) : Prop :=
  ∃ m mc fn fk vs, ITr w0 w M n SA sc a lim C m mc FA fn fk (s.left : Nat) s.spent (fun z => memB (symT a cols) (z : Nat)) cols vs s.found
def RetTs (w0 w : World) (M n : Nat) (SA : Option Addr) (sc : Nat) (a : List (List Int)) (lim : Nat) (s : TSt) (cols : List Int) (C FA : Option Addr) (e : Ending) (w' : World) : Prop :=
  e = .returned (.tuple #[]) ∧ ∃ C' FA', ITs w0 w' M n SA sc a lim s cols C' FA' ∧ Kc M w w' C C' FA FA'
set_option maxHeartbeats 1000000 in
theorem doneT_any {w0 w : World} {M n : Nat} {SA : Option Addr} {sc : Nat} {a : List (List Int)} {lim : Nat} {C : Option Addr} {m mc : Nat} {FA : Option Addr} {fn fk : Nat} {left : Int} {spent : Bool} {dn : Nat → Bool} {cols : List Int} {vs : List Sl} {found : List (List Int)} (h : ITr w0 w M n SA sc a lim C m mc FA fn fk left spent dn cols vs found) (hf : fn ≤ 1000) :
    Calls Try.prog 71 #[.pointer (some ⟨w0.heap.size + 1, 0, none⟩)] w (Quiet w (.bool (spent || decide (fn = lim)))) := by
  obtain ⟨⟨x0, x1, x2, x3⟩, x4, x5, x6⟩ := h.cells
  have HD := Lib.hid (show ((fn : Int) == (lim : Int)) = decide (fn = lim) by
    by_cases e : fn = lim
    · subst e; simp
    · rw [decide_eq_false e]; simp; omega)
  clear h
  cases spent with
  | true =>
    go_enter Try.func71, Try.ntmps71
    go_wp2
    go_quiet (fail)
    go_wp2
    go_ret
    exact ⟨rfl, ⟨_, rfl⟩⟩
  | false =>
    go_enter Try.func71, Try.ntmps71
    go_wp2
    go_quiet ((go_at_call 48; exact Quiet.call ((sizeR_any FA fn fk _ (by omega)).mono fun _ _ h => Quiet.of_same h)))
    go_wp2
    go_ret
    refine ⟨?_, ⟨_, rfl⟩⟩
    rw [Bool.false_or, ← HD.out]
    rfl
set_option maxRecDepth 100000 in
set_option maxHeartbeats 4000000 in
theorem searchT_leaf (w0 w : World) (M n : Nat) (SA : Option Addr) (sc : Nat) (a : List (List Int)) (lim : Nat) (s : TSt) (cols : List Int) (C FA : Option Addr) (hS : ITs w0 w M n SA sc a lim s cols C FA) (hl : cols.length = n) (hn : n ≤ 10) (hf : s.found.length ≤ 1000) :
    Calls Try.prog 37 #[.pointer (some ⟨w0.heap.size + 1, 0, none⟩)] w (RetTs w0 w M n SA sc a lim { s with found := s.found ++ [cols] } cols C FA) := by
  obtain ⟨m, mc, fn, fk, vs, h⟩ := hS
  have hml := h.c.len
  obtain rfl : m = n := by omega
  obtain ⟨⟨-, -, x2, -⟩, x4, -, x6⟩ := h.cells
  have hfn := h.r.slen
  have hfn2 : fn ≤ 1000 := by omega
  have H := Lib.hid h
  clear h hf hml hl hfn
  go_enter Try.func37, Try.ntmps37
  go_wp2
  have hdr : Below w.heap.size w w.drew := by have := below_drewn w 1; rwa [← World.drew_is_drewN] at this
  refine region_suf (P := Try.prog) (n := 12) (S := fun w' => w'.cell? ⟨w0.heap.size + 1, 6, none⟩ = some (.slice FA fn fk) ∧ w'.cell? ⟨w0.heap.size + 1, 4, none⟩ = some (.slice C m mc)) (by kernel_rfl) (by simp only [List.take_succ_cons, List.take_zero]; rfl) (by simp only [List.drop_succ_cons, List.drop_zero]; rfl) (by kernel_rfl) (by simpa using ⟨x6, x4⟩) ?_
  intro hS
  refine wpAnyH_take (i := 0) (v := ?_) rfl (by kernel_rfl) (by kernel_rfl) (by kernel_rfl) (fun _ _ _ h => h) (Or.inl ⟨by rfl, ?_⟩) (by assumption) ?_
  rotate_left
  · (intro w hSw; (try dsimp only at hSw); go_simp; (try with_reducible rfl))
  simp only [Act.put, List.setIfInBounds_toArray, List.set_cons_zero, List.set_cons_succ]
  refine wpAnyH_take (i := 1) (v := ?_) rfl (by kernel_rfl) (by kernel_rfl) (by kernel_rfl) (fun _ _ _ h => h) (Or.inl ⟨by rfl, ?_⟩) (by assumption) ?_
  rotate_left
  · (intro w hSw; (try dsimp only at hSw); go_simp; (try with_reducible rfl))
  simp only [Act.put, List.setIfInBounds_toArray, List.set_cons_zero, List.set_cons_succ]
  refine wpAnyH_take (i := 2) (v := ?_) rfl (by kernel_rfl) (by kernel_rfl) (by kernel_rfl) (fun _ _ _ h => h) (Or.inl ⟨by rfl, ?_⟩) (by assumption) ?_
  rotate_left
  · (intro w hSw; (try dsimp only at hSw); go_simp; (try with_reducible rfl))
  simp only [Act.put, List.setIfInBounds_toArray, List.set_cons_zero, List.set_cons_succ]
  refine wpAnyH_take (i := 3) (v := ?_) rfl (by kernel_rfl) (by kernel_rfl) (by kernel_rfl) (fun _ _ _ h => h) (Or.inl ⟨by rfl, ?_⟩) (by assumption) ?_
  rotate_left
  · (intro w hSw; (try dsimp only at hSw); go_simp; (try with_reducible rfl))
  simp only [Act.put, List.setIfInBounds_toArray, List.set_cons_zero, List.set_cons_succ]
  refine wpAnyH_take (i := 4) (v := ?_) rfl (by kernel_rfl) (by kernel_rfl) (by kernel_rfl) (fun _ _ _ h => h) (Or.inl ⟨by rfl, ?_⟩) (by assumption) ?_
  rotate_left
  · (intro w hSw; (try dsimp only at hSw); go_simp; (try with_reducible rfl))
  simp only [Act.put, List.setIfInBounds_toArray, List.set_cons_zero, List.set_cons_succ]
  refine wpAnyH_take (i := 5) (v := ?_) rfl (by kernel_rfl) (by kernel_rfl) (by kernel_rfl) (fun _ _ _ h => h) (Or.inl ⟨by rfl, ?_⟩) (by assumption) ?_
  rotate_left
  · (intro w hSw; (try dsimp only at hSw); go_simp; (try with_reducible rfl))
  simp only [Act.put, List.setIfInBounds_toArray, List.set_cons_zero, List.set_cons_succ]
  refine wpAnyH_take (i := 6) (v := ?_) rfl (by kernel_rfl) (by kernel_rfl) (by kernel_rfl) (fun _ _ _ h => h) (Or.inl ⟨by rfl, ?_⟩) (by assumption) ?_
  rotate_left
  · (intro w hSw; (try dsimp only at hSw); go_simp; (try with_reducible rfl))
  simp only [Act.put, List.setIfInBounds_toArray, List.set_cons_zero, List.set_cons_succ]
  refine wpAnyH_take (i := 7) (v := ?_) rfl (by kernel_rfl) (by kernel_rfl) (by kernel_rfl) (fun _ _ _ h => h) (Or.inl ⟨by rfl, ?_⟩) (by assumption) ?_
  rotate_left
  · (intro w hSw; (try dsimp only at hSw); go_simp; (try with_reducible rfl))
  simp only [Act.put, List.setIfInBounds_toArray, List.set_cons_zero, List.set_cons_succ]
  refine wpAnyH_take (i := 8) (v := ?_) rfl (by kernel_rfl) (by kernel_rfl) (by kernel_rfl) (fun _ _ _ h => h) (Or.inl ⟨by rfl, ?_⟩) (by assumption) ?_
  rotate_left
  · (intro w hSw; (try dsimp only at hSw); go_simp; (try with_reducible rfl))
  simp only [Act.put, List.setIfInBounds_toArray, List.set_cons_zero, List.set_cons_succ]
  refine wpAnyH_ready (rs := [9]) (by kernel_rfl) (by simp) ?_
  refine AllReadyH.cons rfl (fun K hK => ?_) AllReadyH.nil
  go_simp
  refine (clone_any C m mc cols _ (H.out.c.reads.keep hdr) (by omega)).mono ?_
  rintro e w5 ⟨A5, n5, k5, rfl, ho5, hb5⟩
  dsimp only
  have hb5' : Below w.heap.size w w5 := hdr.trans (hb5.mono (Nat.le_refl _))
  refine hK.out _ _ ⟨below_cell hb5' x6, below_cell hb5' x4⟩ (fun hS1 => ?_)
  clear hK K hS
  refine wpAnyH_ready (rs := [10]) (by kernel_rfl) (by simp) ?_
  refine AllReadyH.cons rfl (fun K hK => ?_) AllReadyH.nil
  go_simp
  have hb6 := hb5'.trans ((below_alloc w5 (.cells #[.slice A5 n5 k5] 30)).mono hb5'.size)
  refine hK.out _ _ ⟨below_cell hb6 x6, below_cell hb6 x4⟩ (fun hS2 => ?_)
  clear hK K hS1
  refine wpAnyH_ready (rs := [11]) (by kernel_rfl) (by simp) ?_
  refine AllReadyH.cons rfl (fun K hK => ?_) AllReadyH.nil
  have H5 := H.out.below hb5'
  have hsz : w.heap.size ≤ w5.heap.size := hb5'.size
  have hnew : ∀ k, blk A5 = some k → w.heap.size ≤ k := fun k hk => (ho5.os.lt hk).1
  have hap : ∀ (j : Nat) (u : Sl), vs[j]? = some u → apart u (A5, n5, k5) := H.out.r.apart_new hnew
  have hC5 : blk A5 = none ∨ blk A5 ≠ blk C := by
    by_cases hz : blk A5 = none
    · exact .inl hz
    · exact .inr fun e => by
        obtain ⟨k, hk⟩ := Option.ne_none_iff_exists'.1 hz
        have h7 := hnew k hk
        have h8 := (H.out.c.os.lt (e.symm.trans hk)).2
        omega
  refine step_of_list (by rfl) ?_
  refine app_row _ (by rfl) (.tmp 21) (.tmp 27) (by rfl) M FA fn fk vs s.found (by rfl) H5.r (A5, n5, k5) _ (ho5.more H.out.M3) hap w5.heap.size (by rfl) rfl (by omega) H5.M3 ?_
  intro A6 c6 w6 ho6 hg6 hf6
  have hX6 := (H5.grow hg6 (fun k hk => H5.r.os.lt hk)).1
  have H6 := H5.more hg6 ho6 hC5
  refine list_onlyK ?_
  refine hK.out _ _ ⟨hX6.cell 6, hX6.cell 4⟩ (fun hS3 => ?_)
  clear hK K hS2
  refine wpAnyH_done (by kernel_rfl) ?_ _
  dsimp only [atEnd]
  have z6 := hX6.frozen 6
  have q6 := hX6.cell 6
  have HK6 : Kc M w (w6.setCell ⟨w0.heap.size + 1, 6, none⟩ (.slice A6 (fn + 1) c6)) C C FA A6 := (((Kc.of_below hb5').trans (Kc.grownF (C := C) hg6 hf6))).trans (Kc.set (C := C) (FA := A6) (p := ⟨w0.heap.size + 1, 6, none⟩) (by have := H.out.M2; show w0.heap.size + 1 < M; omega) (.slice A6 (fn + 1) c6))
  have HH6 := Lib.hid H6
  have HK := Lib.hid HK6
  clear H6 HK6 H5 hX6 hap hnew ho6 hg6 hf6 ho5 hb5 hb5' hb6 hS3 x2 x4 x6 hdr hC5
  go_wp2
  refine bodyPost_ret (results_none rfl _ _ _) rfl ?_
  exact ⟨rfl, C, A6, ⟨m, mc, fn + 1, c6, vs ++ [(A5, n5, k5)], HH6.out⟩, HK.out⟩
end Go.Proofs.Ytcnjlkabdfcjdaa
