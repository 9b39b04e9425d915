/- Difference sets: the finite part. No program in sight. -/
import Derived.Test.YtnfddnideaakgaaZAL
import Derived.Test.YtnfddnideaakgaaZAS
import Derived.Test.YtnfddnideaakgaaZAC
import Derived.Test.YtnfddnideaakgaaZAD
import Derived.Test.YtnfddnideaakgaaZAA
import Derived.ProofKit
import Derived.OpenShut
import Derived.Lib.SmallJoins
import Derived.Deep.Matrix
set_option linter.unusedVariables false
set_option linter.unusedSimpArgs false
namespace Go.Proofs.Ytnfddnideaakgaa
open Go.RowKit

/-- lists put in order, one after another -/
def insI (x : Int) : List Int → List Int
  | [] => [x]
  | y :: ys => if x ≤ y then x :: y :: ys else y :: insI x ys
def isortI : List Int → List Int
  | [] => []
  | x :: xs => insI x (isortI xs)
theorem insI_perm (x : Int) (l : List Int) : (insI x l).Perm (x :: l) := by
  induction l with
  | nil => exact List.Perm.refl _
  | cons y ys ih =>
    unfold insI
    split
    · exact List.Perm.refl _
    · exact (ih.cons y).trans (List.Perm.swap x y ys)
theorem isortI_perm (l : List Int) : (isortI l).Perm l := by
  induction l with
  | nil => exact List.Perm.refl _
  | cons x xs ih => exact (insI_perm x _).trans (ih.cons x)
theorem insI_sorted (x : Int) {l : List Int} (h : l.Pairwise (· ≤ ·)) : (insI x l).Pairwise (· ≤ ·) := by
  induction l with
  | nil => simp [insI]
  | cons y ys ih =>
    unfold insI
    split
    · rename_i hxy
      refine List.pairwise_cons.2 ⟨fun z hz => ?_, h⟩
      rcases List.mem_cons.1 hz with rfl | hz
      · exact hxy
      · exact Int.le_trans hxy ((List.pairwise_cons.1 h).1 z hz)
    · refine List.pairwise_cons.2 ⟨fun z hz => ?_, ih (List.pairwise_cons.1 h).2⟩
      rcases List.mem_cons.1 ((insI_perm x ys).mem_iff.1 hz) with rfl | hz
      · omega
      · exact (List.pairwise_cons.1 h).1 z hz
theorem isortI_sorted (l : List Int) : (isortI l).Pairwise (· ≤ ·) := by
  induction l with
  | nil => exact List.Pairwise.nil
  | cons x xs ih => exact insI_sorted x ih
theorem srt_isort (l : List Int) : srt l = isortI l :=
  ((srt_perm l).trans (isortI_perm l).symm).eq_of_pairwise (fun a b _ _ h1 h2 => Int.le_antisymm h1 h2) (srt_le l) (isortI_sorted l)
def insR (x : List Int) : List (List Int) → List (List Int)
  | [] => [x]
  | y :: ys => if cmpL x y ≤ 0 then x :: y :: ys else y :: insR x ys
def isortR : List (List Int) → List (List Int)
  | [] => []
  | x :: xs => insR x (isortR xs)
theorem insR_perm (x : List Int) (l : List (List Int)) : (insR x l).Perm (x :: l) := by
  induction l with
  | nil => exact List.Perm.refl _
  | cons y ys ih =>
    unfold insR
    split
    · exact List.Perm.refl _
    · exact (ih.cons y).trans (List.Perm.swap x y ys)
theorem isortR_perm (l : List (List Int)) : (isortR l).Perm l := by
  induction l with
  | nil => exact List.Perm.refl _
  | cons x xs ih => exact (insR_perm x _).trans (ih.cons x)
theorem insR_sorted (x : List Int) {l : List (List Int)} (h : SortedL cmpL l) : SortedL cmpL (insR x l) := by
  induction l with
  | nil => exact List.pairwise_singleton _ _
  | cons y ys ih =>
    unfold insR
    split
    · rename_i hxy
      refine List.pairwise_cons.2 ⟨fun z hz => ?_, h⟩
      rcases List.mem_cons.1 hz with rfl | hz
      · exact hxy
      · exact cmpL_ord.trans hxy ((List.pairwise_cons.1 h).1 z hz)
    · rename_i hxy
      refine List.pairwise_cons.2 ⟨fun z hz => ?_, ih (List.pairwise_cons.1 h).2⟩
      rcases List.mem_cons.1 ((insR_perm x ys).mem_iff.1 hz) with rfl | hz
      · have := cmpL_swap z y; omega
      · exact (List.pairwise_cons.1 h).1 z hz
theorem isortR_sorted (l : List (List Int)) : SortedL cmpL (isortR l) := by
  induction l with
  | nil => exact List.Pairwise.nil
  | cons x xs ih => exact insR_sorted x ih
theorem srtR_isort (l : List (List Int)) : srtR l = isortR l := (srtR_unique (isortR_perm l) (isortR_sorted l)).symm
/-- translates and multiples, computed -/
def mulC (n : Nat) (s : List Int) (k : Int) : List Int := isortI (s.map fun x => x * k % n)
def devC (n : Nat) (s : List Int) (k : Nat) : List (List Int) := (List.range k).map fun (b : Nat) => isortI (s.map fun x => (x + (b : Int)) % n)
theorem mulK_C (n : Nat) (s : List Int) (k : Int) : mulK n s k = mulC n s k := srt_isort _
theorem devK_C (n : Nat) (s : List Int) (k : Nat) : devK n s k = devC n s k := List.map_congr_left fun b _ => srt_isort _
def pairC (bs : List (List Int)) (a b : Int) : Nat := bs.countP fun r => decide (a ∈ r) && decide (b ∈ r)
theorem tB_decide (p : Prop) [Decidable p] : tB p = decide p := by
  by_cases h : p
  · rw [tB_yes h]; simp [h]
  · rw [tB_no h]; simp [h]
theorem pairN_C (bs : List (List Int)) (a b : Int) : pairN bs a b = pairC bs a b := by
  unfold pairN pairC
  congr 1
  funext r
  rw [tB_decide, tB_decide]
/-- a balanced design with lambda 1, checked -/
def balC (v : Nat) (bs : List (List Int)) (k : Nat) : Bool := decide (2 ≤ v) && decide (v ≤ 32) && decide (bs.length ≤ 128) && decide (0 < bs.length) && decide (2 ≤ k) && (bs.all fun s => okS v s && decide (s.length = k)) &&
  ((List.range (bs.length - 1)).all fun i => decide (cmpL (row bs i) (row bs (i + 1)) ≤ 0)) && (List.range v).all fun a => (List.range (v - a - 1)).all fun d => decide (pairC bs (a : Int) ((a + 1 + d : Nat) : Int) = 1)
theorem balC_bal {v k : Nat} {bs : List (List Int)} (h : balC v bs k = true) : Bal v bs k 1 := by
  simp only [balC, Bool.and_eq_true, decide_eq_true_eq, List.all_eq_true, List.mem_range] at h
  obtain ⟨⟨⟨⟨⟨⟨⟨h1, h2⟩, h3⟩, h4⟩, h5⟩, h6⟩, h7⟩, h8⟩ := h
  have hr : ∀ i, i < bs.length → row bs i ∈ bs := fun i hi => by rw [row_get hi]; exact List.getElem_mem hi
  exact ⟨⟨by omega, by omega, h3, fun i hi => (okS_block (h6 _ (hr i hi)).1).1, fun i hi => h7 i (by omega)⟩, h1, h4, fun i hi => (h6 _ (hr i hi)).2, h5, fun j hj => by
    rw [nth_get hj]
    have hm := List.getElem_mem hj
    generalize (prP v bs v)[j] = z at hm ⊢
    unfold prP at hm
    obtain ⟨a, ha, hz⟩ := List.mem_flatMap.1 hm
    unfold prB at hz
    obtain ⟨d, hd, hz⟩ := List.mem_map.1 hz
    have := h8 a (List.mem_range.1 ha) d (List.mem_range.1 hd)
    rw [← hz, pairN_C, this]
    rfl⟩
/-- the primes of the law, and what is asked of them -/
def palC (p : Nat) : Bool := decide (isP (p : Int) = true) && decide (p % 4 = 3) && decide (p ≤ 31) && okS p (sqK p p) && flatT p (sqK p p) (((p - 3) / 4 : Nat) : Int) && decide ((sqK p p).length = (p - 1) / 2) && isSqK p 1 &&
  ((List.range p).all fun t => !(decide (0 < t) && isSqK p t) || (decide (Nat.gcd t p = 1) && decide (mulC p (sqK p p) (t : Int) = sqK p p)))
set_option maxRecDepth 100000 in
theorem pal_all : [3, 7, 11, 19, 23, 31].all palC = true := by decide +kernel
theorem pal_at {p : Nat} (h : p ∈ [3, 7, 11, 19, 23, 31]) : palC p = true := List.all_eq_true.1 pal_all p h
structure PalOk (p : Nat) : Prop where
  pr : isP (p : Int) = true
  m4 : p % 4 = 3
  le : p ≤ 31
  ok : okS p (sqK p p) = true
  fl : flatT p (sqK p p) (((p - 3) / 4 : Nat) : Int) = true
  len : (sqK p p).length = (p - 1) / 2
  mul : ∀ t, t < p → 0 < t → (isSqK p t = true ∨ t = 1) → Nat.gcd t p = 1 ∧ mulK p (sqK p p) (t : Int) = sqK p p
theorem palC_ok {p : Nat} (h : palC p = true) : PalOk p := by
  simp only [palC, Bool.and_eq_true, decide_eq_true_eq, List.all_eq_true, List.mem_range] at h
  obtain ⟨⟨⟨⟨⟨⟨⟨h1, h2⟩, h3⟩, h4⟩, h5⟩, h6⟩, h7⟩, h8⟩ := h
  refine ⟨h1, h2, h3, h4, h5, h6, fun t ht h0 hs => ?_⟩
  have hs' : isSqK p t = true := by rcases hs with h | rfl; exact h; exact h7
  have := h8 t ht
  simp only [hs', h0, decide_true, Bool.and_self, Bool.not_true, Bool.false_or, Bool.and_eq_true, decide_eq_true_eq] at this
  exact ⟨this.1, by rw [mulK_C]; exact this.2⟩
/-- the multipliers of the squares -/
structure MulsOk (p : Nat) (M : List Int) : Prop where
  len : (p - 1) / 2 ≤ M.length
  le : M.length ≤ p
  pos : 0 < M.length
  one : nth M 0 = 1
  at_ : ∀ i, i < M.length → ∃ a : Nat, nth M i = (a : Int) ∧ 1 ≤ a ∧ a < p
theorem muls_ok {p : Nat} (h : PalOk p) : MulsOk p (mulsK p (sqK p p) p) := by
  have hp3 : 3 ≤ p := by have := h.m4; omega
  have hpass : ∀ t, t < p → 0 < t → (isSqK p t = true ∨ t = 1) → (decide (Nat.gcd t p = 1) && decide (0 < t) && decide (normK p (mulK p (sqK p p) (t : Int)) p = normK p (sqK p p) p)) = true := fun t h1 h2 h3 => by
    obtain ⟨a, b⟩ := h.mul t h1 h2 h3
    rw [b]
    simp [a, h2]
  have hsplit : List.range p = 0 :: 1 :: (List.range p).drop 2 := by
    rw [← range_drop (n := p) (x := 1) (by omega), ← range_drop (n := p) (x := 0) (by omega)]
    rfl
  have hM : ∃ rest, mulsK p (sqK p p) p = 1 :: rest := by
    unfold mulsK
    generalize hf : (fun t : Nat => decide (Nat.gcd t p = 1) && decide (0 < t) && decide (normK p (mulK p (sqK p p) (t : Int)) p = normK p (sqK p p) p)) = f
    have h1 : f 1 = true := by rw [← hf]; exact hpass 1 (by omega) (by omega) (.inr rfl)
    have h0 : ¬ f 0 = true := by rw [← hf]; simp
    rw [hsplit, List.filter_cons_of_neg h0, List.filter_cons_of_pos h1]
    exact ⟨_, rfl⟩
  obtain ⟨rest, hr⟩ := hM
  refine ⟨?_, mulsK_len p p _, by rw [hr]; simp, by rw [hr]; rfl, fun i hi => ?_⟩
  · rw [← h.len]
    unfold mulsK sqK
    rw [List.length_map, List.length_map, ← List.countP_eq_length_filter, ← List.countP_eq_length_filter]
    refine List.countP_mono_left fun t ht hs => ?_
    simp only [Bool.and_eq_true, decide_eq_true_eq] at hs
    exact hpass t (List.mem_range.1 ht) hs.1 (.inl hs.2)
  · rw [nth_get hi]
    have hm := List.getElem_mem hi
    generalize (mulsK p (sqK p p) p)[i] = z at hm ⊢
    unfold mulsK at hm
    obtain ⟨a, ha, rfl⟩ := List.mem_map.1 hm
    obtain ⟨h1, h2⟩ := List.mem_filter.1 ha
    simp only [Bool.and_eq_true, decide_eq_true_eq] at h2
    exact ⟨a, rfl, h2.1.2, List.mem_range.1 h1⟩
/-- the planes of the law -/
def PlQ (q n k : Nat) : Prop := (q = 2 ∧ n = 7 ∧ k = 3) ∨ (q = 3 ∧ n = 13 ∧ k = 4) ∨ (q = 4 ∧ n = 21 ∧ k = 5)
def plC (n k : Nat) (r : List Int) : Bool := okS n r && flatT n r 1 && decide (cells (devC n r n) ≤ 1000) && balC n (isortR (devC n r n)) k
structure PlOk (n k : Nat) (r : List Int) : Prop where
  ok : okS n r = true
  fl : flatT n r 1 = true
  cl : cells (devK n r n) ≤ 1099511627776
  bal : Bal n (srtR (devK n r n)) k 1
theorem plC_ok {n k : Nat} {r : List Int} (h : plC n k r = true) : PlOk n k r := by
  simp only [plC, Bool.and_eq_true, decide_eq_true_eq] at h
  obtain ⟨⟨⟨h1, h2⟩, h3⟩, h4⟩ := h
  exact ⟨h1, h2, by rw [devK_C]; omega, by rw [devK_C, srtR_isort]; exact balC_bal h4⟩
set_option maxRecDepth 100000 in
theorem pl2 : srchF 7 3 1 4 [0] (20000, false) = (some [0, 1, 3], (19996, false)) ∧ plC 7 3 [0, 1, 3] = true := by decide +kernel
set_option maxRecDepth 100000 in
theorem pl3 : srchF 13 4 1 5 [0] (20000, false) = (some [0, 1, 3, 9], (19990, false)) ∧ plC 13 4 [0, 1, 3, 9] = true := by decide +kernel
set_option maxRecDepth 100000 in
theorem pl4 : srchF 21 5 1 6 [0] (20000, false) = (some [0, 1, 4, 14, 16], (19852, false)) ∧ plC 21 5 [0, 1, 4, 14, 16] = true := by decide +kernel
theorem pl_at {q n k : Nat} (h : PlQ q n k) : ∃ r st, srchF n k 1 (k + 1) [0] (20000, false) = (some r, st) ∧ PlOk n k r := by
  rcases h with ⟨rfl, rfl, rfl⟩ | ⟨rfl, rfl, rfl⟩ | ⟨rfl, rfl, rfl⟩
  · exact ⟨_, _, pl2.1, plC_ok pl2.2⟩
  · exact ⟨_, _, pl3.1, plC_ok pl3.2⟩
  · exact ⟨_, _, pl4.1, plC_ok pl4.2⟩
end Go.Proofs.Ytnfddnideaakgaa
/- What the eighth wave of drawn laws shares: lengths of inputs, numbers chosen by bytes, designs that are the same. No condition beyond those stated. -/
namespace Go.Proofs.Ytnfddnideaakgaa
open Go.RowKit

set_option maxHeartbeats 1000000 in
theorem v8At_any (A : Option Addr) (n c : Nat) (zs : List Int) (i : Nat) (k : Int) (w : World) (ha : RS EByte w A n zs) (hi2 : i ≤ 1000000) (hk1 : 1 ≤ k) (hk2 : k ≤ 1000000) (hn : n ≤ 9223372036854775807) :
    Calls Try.prog 4 #[.slice A n c, .int .i64 i, .int .i64 k] w fun e w' => (∃ x : Int, e = .returned (.int .i64 x) ∧ 0 ≤ x ∧ x < k) ∧ w = w' := by
  by_cases h0 : k ≤ 1
  · go_enter Try.func4, Try.ntmps4
    go_wp2
    go_ret
    exact ⟨⟨0, rfl, by omega, by omega⟩, rfl⟩
  · by_cases hlt : i < n
    · obtain ⟨ad, u, x, rfl, hx, hc, rfl, x0, x1⟩ := ha.get hlt
      have h0' : 1 < k := by omega
      have hlt' : ¬ (n : Int) ≤ i := by omega
      have HM := Lib.hid (show 0 ≤ x % k ∧ x % k < k from ⟨Int.emod_nonneg _ (by omega), Int.emod_lt_of_pos _ (by omega)⟩)
      clear hx h0
      go_enter Try.func4, Try.ntmps4
      go_wp2
      go_ret
      exact ⟨⟨x % k, rfl, HM.out.1, HM.out.2⟩, rfl⟩
    · have h0' : 1 < k := by omega
      have hge : (n : Int) ≤ i := by omega
      clear h0
      go_enter Try.func4, Try.ntmps4
      go_wp2
      go_ret
      exact ⟨⟨0, rfl, by omega, by omega⟩, rfl⟩
end Go.Proofs.Ytnfddnideaakgaa
/- From the form's reading of an argument to this proof's words: a slice of numbers, of bytes, of slices of numbers. No condition beyond those stated. -/
namespace Go.Proofs.Ytnfddnideaakgaa
open Go.ChangeShapes Go.WideShapes Go.ChangeAt Go.RowKit Go.Deep

section
variable {H : Type} {enc : TypeId × Value → H} {P : Program} {w : World} {fuel : Nat}
theorem open_RI {t e : TypeId} {v : Value} {x : DataW H × List MemPlace} (ht : P.underlying t = some (.slice e)) (he : P.underlying e = some (.int .i64)) (hc : P.cellsOf e = 1)
    (h : DataW.trod enc P w 0 (fun _ => true) true fuel t [v] = some x) : ∃ A n c zs, v = .slice A n c ∧ n ≤ c ∧ c ≤ 9223372036854775807 ∧ RI w A n zs := by
  rcases open_ints ht he hc h with ⟨hcs, _⟩ | ⟨a, len, cap, zs, hcs, _, hl, hm, hz, _, hcell, hwz⟩
  · simp at hcs
    exact ⟨none, 0, 0, [], hcs, by omega, by omega, RS.nil_ _ _ _⟩
  · simp at hcs hz
    refine ⟨some a, len, cap, zs.take len, hcs, hl, by unfold maxLen at hm; exact hm, ?_, fun j y hy => ?_⟩
    · rw [List.length_take]; omega
    · rw [List.getElem?_take] at hy
      split at hy
      · rename_i hj
        have hj' : j < zs.length := by omega
        have e1 : zs.getD j 0 = y := by simp [List.getD, hy]
        refine ⟨a, _, rfl, hcell j hj', by rw [e1], ?_⟩
        exact I64.of_wf (hwz y (List.mem_of_getElem? hy))
      · cases hy
theorem open_RR {t e q : TypeId} {v : Value} {x : DataW H × List MemPlace} (ht : P.underlying t = some (.slice e)) (he : P.underlying e = some (.slice q)) (hq : P.underlying q = some (.int .i64))
    (ce : P.cellsOf e = 1) (cq : P.cellsOf q = 1) (h : DataW.trod enc P w 0 (fun _ => true) true fuel t [v] = some x) :
    ∃ A n c zss, v = .slice A n c ∧ n ≤ c ∧ c ≤ 9223372036854775807 ∧ RR w A n zss := by
  rcases open_int_rows ht he hq ce cq h with ⟨hcs, _⟩ | ⟨a, len, cap, A, L, C, Z, hcs, _, hl, hm, _, hr⟩
  · simp at hcs
    exact ⟨none, 0, 0, [], hcs, by omega, by omega, RS.nil_ _ _ _⟩
  · simp at hcs
    refine ⟨some a, len, cap, (List.range len).map fun r => (Z r).take (L r), hcs, hl, by unfold maxLen at hm; exact hm, by simp, fun j y hy => ?_⟩
    have hj : j < len := by
      have := (List.getElem?_eq_some_iff.1 hy).1
      simpa using this
    have ey : (Z j).take (L j) = y := by simpa [hj] using hy
    obtain ⟨h1, h2, h3, h4, h5, h6, h7⟩ := hr j (by omega)
    refine ⟨a, _, rfl, h1, A j, L j, C j, rfl, h2, by unfold maxLen at h3; exact h3, ?_, fun i z hz => ?_⟩
    · rw [← ey, List.length_take]; omega
    · rw [← ey, List.getElem?_take] at hz
      split at hz
      · rename_i hi
        have hi' : i < C j := by omega
        cases hA : A j with
        | none => have := h6 hA; omega
        | some a' =>
          have hcell := (h7 a' hA).2 i hi'
          have e1 : (Z j).getD i 0 = z := by simp [List.getD, hz]
          exact ⟨a', _, rfl, hcell, by rw [e1], I64.of_wf (h5 z (List.mem_of_getElem? hz))⟩
      · cases hz
theorem open_RB {t e : TypeId} {v : Value} {x : DataW H × List MemPlace} (ht : P.underlying t = some (.slice e)) (he : P.underlying e = some (.int .u8)) (hc : P.cellsOf e = 1)
    (h : DataW.trod enc P w 0 (fun _ => true) true fuel t [v] = some x) : ∃ A n c zs, v = .slice A n c ∧ n ≤ c ∧ c ≤ 9223372036854775807 ∧ RS EByte w A n zs := by
  rcases open_ints ht he hc h with ⟨hcs, _⟩ | ⟨a, len, cap, zs, hcs, _, hl, hm, hz, _, hcell, hwz⟩
  · simp at hcs
    exact ⟨none, 0, 0, [], hcs, by omega, by omega, RS.nil_ _ _ _⟩
  · simp at hcs hz
    refine ⟨some a, len, cap, zs.take len, hcs, hl, by unfold maxLen at hm; exact hm, ?_, fun j y hy => ?_⟩
    · rw [List.length_take]; omega
    · rw [List.getElem?_take] at hy
      split at hy
      · rename_i hj
        have hj' : j < zs.length := by omega
        have e1 : zs.getD j 0 = y := by simp [List.getD, hy]
        refine ⟨a, _, rfl, hcell j hj', by rw [e1], ?_⟩
        exact bounds_u8 (hwz y (List.mem_of_getElem? hy))
      · cases hy
end
end Go.Proofs.Ytnfddnideaakgaa
/- The law FnPaley: for every input it returns true. No condition beyond those stated. -/
namespace Go.Proofs.Ytnfddnideaakgaa
open Go.RowKit

theorem primes_at {w : World} {g x : Nat} (X : Blk w g 2 #[.int .i64 3, .int .i64 7, .int .i64 11, .int .i64 19, .int .i64 23, .int .i64 31]) (hx : x < 6) : ∃ p : Nat, w.cell? ⟨g, x, none⟩ = some (.int .i64 (p : Int)) ∧ PalOk p := by
  rw [X.cell x]
  have : x = 0 ∨ x = 1 ∨ x = 2 ∨ x = 3 ∨ x = 4 ∨ x = 5 := by omega
  rcases this with rfl | rfl | rfl | rfl | rfl | rfl
  · exact ⟨3, rfl, palC_ok (pal_at (by simp))⟩
  · exact ⟨7, rfl, palC_ok (pal_at (by simp))⟩
  · exact ⟨11, rfl, palC_ok (pal_at (by simp))⟩
  · exact ⟨19, rfl, palC_ok (pal_at (by simp))⟩
  · exact ⟨23, rfl, palC_ok (pal_at (by simp))⟩
  · exact ⟨31, rfl, palC_ok (pal_at (by simp))⟩
set_option maxRecDepth 100000 in
set_option maxHeartbeats 8000000 in
theorem law_Paley_ok (A0 : Option Addr) (n0 c0 : Nat) (bs : List Int) (w : World) (ha : RS EByte w A0 n0 bs) (hn0 : n0 ≤ 1048576) :
    Calls Try.prog 3 #[.slice A0 n0 c0] w fun e w' => e = .returned (.bool true) ∧ Below w.heap.size w w' := by
  have hb1 := below_alloc w (.cells #[.int .i64 3, .int .i64 7, .int .i64 11, .int .i64 19, .int .i64 23, .int .i64 31] 2)
  have X := Blk.new w 2 #[.int .i64 3, .int .i64 7, .int .i64 11, .int .i64 19, .int .i64 23, .int .i64 31]
  have hv := v8At_any A0 n0 c0 bs 0 6 _ (RS.keep keeps_EByte ha hb1) (by omega) (by omega) (by omega) (by omega)
  go_enter Try.func3, Try.ntmps3
  go_wp2_with fail
  refine hv.mono ?_
  rintro e w' ⟨⟨x, rfl, hx0, hx6⟩, rfl⟩
  obtain ⟨x, rfl⟩ := Int.eq_ofNat_of_zero_le hx0
  obtain ⟨p, hcp, hP⟩ := primes_at X (x := x) (by omega)
  have hp3 : 3 ≤ p := by have := hP.m4; omega
  have hp31 := hP.le
  have HP := Lib.hid hP
  clear hv X
  go_wp2_with fail
  refine (paleySet_any p _ hP.le hP.pr hP.m4).mono ?_
  rintro e w2 ⟨A, n, c, rfl, ho, hb2⟩
  have hw2 := hb1.trans (hb2.mono hb1.size)
  have hcap := ho.os.cap
  have hl := ho.len
  rw [hP.len] at hl
  have hri := ho.reads
  clear ho hb2 hb1 hcp hx0 hx6 hP
  have hbA := below_alloc w2 (.cells #[.slice A n c] 23)
  have hfl := FamilyLambda_ok p (some ⟨w2.heap.size, 0, none⟩) 1 1 [sqK p p] (((p - 3) / 4 : Nat) : Int) _ (RR.one hri hcap.1 hcap.2) (by omega) (by omega) (by omega) (allBlk_one HP.out.ok) (resS_one HP.out.ok) (fun i h1 h2 => flatT_at HP.out.fl h1 h2)
  go_wp2_with fail
  refine hfl.mono ?_
  rintro e w3 ⟨rfl, hb3⟩
  have hb23 := hbA.trans (hb3.mono hbA.size)
  have hw3 := hw2.trans (hb23.mono hw2.size)
  have hri3 := hri.keep hb23
  have e1 : ((p : Int) - 3) / 4 = (((p - 3) / 4 : Nat) : Int) := by omega
  have e2 : ((p : Int) - 1) / 2 = (n : Int) := by omega
  generalize (((p - 3) / 4 : Nat) : Int) = lam at *
  have hn15 : n ≤ 15 := by omega
  have hM := muls_ok HP.out
  have hml := hM.len
  have hmm := multipliersOf_ok p A n c (sqK p p) lam w3 hri3 hcap.1 hcap.2 (by omega) (by omega) HP.out.ok (by rw [← e1]; have := HP.out.fl; rwa [show (((p - 3) / 4 : Nat) : Int) = ((p : Int) - 3) / 4 by omega] at this)
  clear hfl hri hbA hb3 hb23 hw2
  go_wp2_with fail
  refine hmm.mono ?_
  rintro e w4 ⟨B, m, d, rfl, hom, hb4⟩
  have hw4 := hw3.trans (hb4.mono hw3.size)
  have hlm := hom.len
  have hmn : n ≤ m := by omega
  have hmp : m ≤ p := by rw [← hlm]; exact hM.le
  have hm0 : 0 < m := by rw [← hlm]; exact hM.pos
  have hrM := hom.reads
  have hone := hM.one
  have HA := Lib.hid (fun i (hi : i < m) => hM.at_ i (by omega))
  clear hmm hom hb4 hri3 hw3 hM hml HP
  generalize mulsK p (sqK p p) p = M at *
  have HONE := Lib.hid hone
  have e3 : decide ((m : Int) < (n : Int)) = false := by simp; omega
  have e4 : decide (m < n) = false := by simp; omega
  clear hone hlm
  go_wp2
  clear e1 e2 hmn hn15 e3 e4
  go_loopw [11] (fun iv wr => ∃ i : Nat, i ≤ m ∧ iv = .int .i64 i ∧ Below w4.heap.size w4 wr) (fun iv _ => m - (intOf iv).toNat)
  case atStart => exact ⟨0, Nat.zero_le _, rfl, Below.refl _ _⟩
  case round =>
    obtain ⟨i, hi, rfl, hb⟩ := hrel
    by_cases hlt : i < m
    · obtain ⟨a, hMa, ha1, hap⟩ := HA.out i hlt
      have HMA := Lib.hid hMa
      have hmod : (a : Int) % (p : Int) = (a : Int) := Int.emod_eq_of_lt (by omega) (by omega)
      clear hMa
      generalize hW : wr = wo at *
      clear hW
      go_wp2
      go_loopw [12, 13] (fun fv kv wr => ∃ (k : Nat) (fb : Bool), k ≤ m ∧ kv = .int .i64 k ∧ fv = .bool fb ∧ (i < k → fb = true) ∧ Below w4.heap.size w4 wr) (fun _ kv _ => m - (intOf kv).toNat)
      case atStart => exact ⟨0, false, Nat.zero_le _, rfl, rfl, (fun h => by omega), hb⟩
      case round =>
        obtain ⟨k, fb, hk, rfl, rfl, hf, hbr⟩ := hrel
        by_cases hlk : k < m
        · have hr := hrM.keep hbr
          obtain ⟨ad, rfl, ck, ik⟩ := hr.get hlk
          obtain ⟨ad1, had, ci, -⟩ := hr.get hlt
          cases had
          obtain ⟨ad2, had, cz, -⟩ := hr.get hm0
          cases had
          have cz : wr.cell? ad = some (.int .i64 (nth M 0)) := cz
          rw [HONE.out] at cz
          rw [HMA.out] at ci
          cases fb with
          | true =>
            have hf' : i < k + 1 → true = true := fun _ => rfl
            clear hf
            go_wp2
            go_quiet (fail)
            go_wp2
            go_roundw
            case rel => exact ⟨k + 1, true, by omega, by go_num, rfl, fun _ => rfl, hbr.trans ((below_drewn wr nq).mono hbr.size)⟩
            case measure => simp [intOf]; omega
          | false =>
            have hnk : ¬ i < k := fun h => by have := hf h; cases this
            obtain ⟨b, hb0⟩ : ∃ b, b = nth M k := ⟨_, rfl⟩
            have HFB := Lib.hid (show i < k + 1 → (b == (a : Int)) = true from fun h => by
              obtain rfl : i = k := by omega
              rw [hb0, HMA.out]; simp)
            rw [← hb0] at ck ik
            clear hf hb0 hnk
            go_wp2
            go_quiet (fail)
            go_wp2
            go_roundw
            case rel => exact ⟨k + 1, b == (a : Int), by omega, by go_num, rfl, HFB.out, hbr.trans ((below_drewn wr nq).mono hbr.size)⟩
            case measure => simp [intOf]; omega
        · obtain rfl : k = m := by omega
          obtain rfl : fb = true := hf hlt
          clear hf
          go_wp2
          go_roundw
          case rel => exact ⟨i + 1, by omega, by go_num, hbr⟩
          case measure => simp [intOf]; omega
    · have hw5 := hw4.trans (hb.mono hw4.size)
      have hv2 := v8At_any A0 n0 c0 bs 1 3 _ (RS.keep keeps_EByte ha hw5) (by omega) (by omega) (by omega) (by omega)
      clear hb hw4
      go_wp2_with fail
      refine hv2.mono ?_
      rintro e w' ⟨⟨x, rfl, hx0, hx3⟩, rfl⟩
      obtain ⟨x, rfl⟩ := Int.eq_ofNat_of_zero_le hx0
      have hq : ∃ q n k : Nat, (2 : Int) + (x : Int) = (q : Int) ∧ PlQ q n k := by
        have : x = 0 ∨ x = 1 ∨ x = 2 := by omega
        rcases this with rfl | rfl | rfl
        · exact ⟨2, 7, 3, rfl, .inl ⟨rfl, rfl, rfl⟩⟩
        · exact ⟨3, 13, 4, rfl, .inr (.inl ⟨rfl, rfl, rfl⟩)⟩
        · exact ⟨4, 21, 5, rfl, .inr (.inr ⟨rfl, rfl, rfl⟩)⟩
      obtain ⟨q, v, k, hqx, hQ⟩ := hq
      obtain ⟨r, st, hF, hL⟩ := pl_at hQ
      have hsg := singerSet_ok q v k r st wr hQ hF
      have e1 : (q : Int) * q + q + 1 = v := by rcases hQ with ⟨rfl, rfl, rfl⟩ | ⟨rfl, rfl, rfl⟩ | ⟨rfl, rfl, rfl⟩ <;> decide
      have hq0 : 0 ≤ (q : Int) * q ∧ (q : Int) * q ≤ 100 := by rcases hQ with ⟨rfl, rfl, rfl⟩ | ⟨rfl, rfl, rfl⟩ | ⟨rfl, rfl, rfl⟩ <;> decide
      obtain ⟨hq1, hq2⟩ := hq0
      have hv2 : 2 ≤ v ∧ v ≤ 32 ∧ q ≤ 5 := by unfold PlQ at hQ; omega
      obtain ⟨hv2, hv32, hq5⟩ := hv2
      have HL := Lib.hid hL
      have HQ := Lib.hid hQ
      clear hF hQ hL hx0 hx3 HA HONE hrM hcap
      go_wp2_with fail
      refine hsg.mono ?_
      rintro e w6 ⟨S, sn, sc, rfl, hos, hb6⟩
      have hw6 := hw5.trans (hb6.mono hw5.size)
      have hcs := hos.os.cap
      have hrs := hos.reads
      clear hsg hos hb6 hw5
      have hbS := below_alloc w6 (.cells #[.slice S sn sc] 23)
      have hfl := FamilyLambda_ok v (some ⟨w6.heap.size, 0, none⟩) 1 1 [r] 1 _ (RR.one hrs hcs.1 hcs.2) (by omega) hv2 hv32 (allBlk_one HL.out.ok) (resS_one HL.out.ok) (fun i h1 h2 => flatT_at HL.out.fl h1 h2)
      go_wp2_with fail
      refine hfl.mono ?_
      rintro e w7 ⟨rfl, hb7⟩
      have hb67 := hbS.trans (hb7.mono hbS.size)
      have hw7 := hw6.trans (hb67.mono hw6.size)
      have hrs7 := hrs.keep hb67
      clear hfl hbS hb7 hb67 hw6 hrs
      have hbS := below_alloc w7 (.cells #[.slice S sn sc] 23)
      have hdv := developFamily_ok v (some ⟨w7.heap.size, 0, none⟩) 1 r _ (RR.one hrs7 hcs.1 hcs.2) (by omega) hv32 HL.out.ok HL.out.cl
      go_wp2_with fail
      refine hdv.mono ?_
      rintro e w8 ⟨D, dc, rfl, hod, hb8⟩
      have hw8 := hw7.trans ((hbS.trans (hb8.mono hbS.size)).mono hw7.size)
      have hbd := below_alloc w8 (.cells #[.int .i64 (v : Int), .slice D v dc] 32)
      have XD := Blk.new w8 32 #[.int .i64 (v : Int), .slice D v dc]
      have hrd := hod.reads.keep hbd
      have hw9 := hw8.trans (hbd.mono hw8.size)
      have hpo := projectiveOrder_ok q v k D v dc (srtR (devK v r v)) _ hrd HL.out.bal HQ.out
      obtain ⟨x0, x1⟩ := XD.cells2
      clear hdv hod hb8 hbS hbd hw8 hw7 hrs7 hrd
      go_wp2_with fail
      refine hpo.mono ?_
      rintro e w10 ⟨rfl, hb10⟩
      have hw10 := hw9.trans (hb10.mono hw9.size)
      clear hpo
      go_wp2
      go_ret
      exact ⟨rfl, hw10⟩
theorem law_Paley (A : Option Addr) (n c : Nat) (zs : List Int) (w : World) (ha : RS EByte w A n zs) (hn : n ≤ c) (hc : c ≤ 9223372036854775807) :
    Calls Try.prog 3 #[.slice A n c] w fun e w' => e = .returned (.bool true) ∧ Below w.heap.size w w' := by
  by_cases h1 : n ≤ 1048576
  · exact law_Paley_ok A n c zs w ha h1
  · go_enter Try.func3, Try.ntmps3
    go_wp2
    go_ret
    exact ⟨rfl, Below.refl _ _⟩
end Go.Proofs.Ytnfddnideaakgaa
