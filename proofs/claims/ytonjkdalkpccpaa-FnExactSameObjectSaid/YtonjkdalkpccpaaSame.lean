/- Objects: whether two are equal, on both sides, and the law. No condition beyond those stated. -/
import Derived.Test.YtonjkdalkpccpaaLaw
namespace Go.Proofs.Ytonjkdalkpccpaa
open Go.RowKit

theorem bcell {W w1 : World} (hb : Below W.heap.size W w1) : (∀ b o, b < W.heap.size → w1.cell? ⟨b, o, none⟩ = W.cell? ⟨b, o, none⟩) ∧ (∀ b o, b < W.heap.size → w1.frozen? ⟨b, o, none⟩ = W.frozen? ⟨b, o, none⟩) :=
  ⟨fun b o h => hb.cell (p := ⟨b, o, none⟩) h, fun b o h => hb.frozen (p := ⟨b, o, none⟩) h⟩
def sameO (k1 k2 s1 s2 : Int) (xs ys : List (List Int)) : Bool := k1 == k2 && s1 == s2 && decide (xs = ys)

set_option maxHeartbeats 400000 in
theorem spec_SameObject (k1 s1 k2 s2 : Int) (A B : Option Addr) (n m c d : Nat) (xs ys : List (List Int)) (w : World) (ha : RR w A n xs) (hb : RR w B m ys) (hn : n ≤ 9223372036854775807) (hm : m ≤ 9223372036854775807) :
    Calls Try.prog 5 #[.agg #[.int .i64 k1, .int .i64 s1, .slice A n c], .agg #[.int .i64 k2, .int .i64 s2, .slice B m d]] w fun e w' => e = .returned (.bool (sameO k1 k2 s1 s2 xs ys)) ∧ Below w.heap.size w w' := by
  by_cases h1 : (k1 == k2) = true
  · by_cases h2 : (s1 == s2) = true
    · have H := Lib.hid (show sameO k1 k2 s1 s2 xs ys = decide (xs = ys) by simp [sameO, h1, h2])
      have hb1 := below_alloc w (.cells #[.int .i64 k1, .int .i64 s1, .slice A n c] 27)
      have hb2 := below_then hb1 (below_alloc (w.alloc (.cells #[.int .i64 k1, .int .i64 s1, .slice A n c] 27)) (.cells #[.int .i64 k2, .int .i64 s2, .slice B m d] 27))
      have ha' := ha.keep hb2
      have hb' := hb.keep hb2
      clear ha hb hb1
      go_enter Try.func5, Try.ntmps5
      go_wp2_with (go_at_call 10; refine (l10Same_any _ _ _ _ _ _ xs ys _ ha' hb' hn hm).mono ?_; rintro e w1 ⟨rfl, hd1⟩)
      go_ret
      exact ⟨by rw [H.out]; rfl, hb2.trans (hd1.below.mono hb2.size)⟩
    · have h2' : (s1 == s2) = false := by simpa using h2
      clear h2
      have H := Lib.hid (show sameO k1 k2 s1 s2 xs ys = false by simp [sameO, h2'])
      go_enter Try.func5, Try.ntmps5
      go_wp2
      go_ret
      exact ⟨by rw [H.out]; rfl, below_then (below_alloc w _) (below_alloc _ _)⟩
  · have h1' : (k1 == k2) = false := by simpa using h1
    clear h1
    have H := Lib.hid (show sameO k1 k2 s1 s2 xs ys = false by simp [sameO, h1'])
    go_enter Try.func5, Try.ntmps5
    go_wp2
    go_ret
    exact ⟨by rw [H.out]; rfl, below_then (below_alloc w _) (below_alloc _ _)⟩

set_option maxHeartbeats 400000 in
theorem impl_SameObject (k1 s1 k2 s2 : Int) (A B : Option Addr) (n m c d : Nat) (xs ys : List (List Int)) (w : World) (ha : RR w A n xs) (hb : RR w B m ys) (hn : n ≤ 9223372036854775807) (hm : m ≤ 9223372036854775807) :
    Calls Try.prog 7 #[.agg #[.int .i64 k1, .int .i64 s1, .slice A n c], .agg #[.int .i64 k2, .int .i64 s2, .slice B m d]] w fun e w' => e = .returned (.bool (sameO k1 k2 s1 s2 xs ys)) ∧ Below w.heap.size w w' := by
  by_cases h1 : (k1 == k2) = true
  · by_cases h2 : (s1 == s2) = true
    · have H := Lib.hid (show sameO k1 k2 s1 s2 xs ys = decide (xs = ys) by simp [sameO, h1, h2])
      have hb1 := below_alloc w (.cells #[.int .i64 k1, .int .i64 s1, .slice A n c] 27)
      have hb2 := below_then hb1 (below_alloc (w.alloc (.cells #[.int .i64 k1, .int .i64 s1, .slice A n c] 27)) (.cells #[.int .i64 k2, .int .i64 s2, .slice B m d] 27))
      have ha' := ha.keep hb2
      have hb' := hb.keep hb2
      clear ha hb hb1
      go_enter Try.func7, Try.ntmps7
      go_wp2_with (go_at_call 12; refine (areSame_any _ _ _ _ _ _ xs ys _ ha' hb' hn hm).mono ?_; rintro e w1 ⟨rfl, hd1⟩)
      go_ret
      exact ⟨by rw [H.out]; rfl, hb2.trans (hd1.below.mono hb2.size)⟩
    · have h2' : (s1 == s2) = false := by simpa using h2
      clear h2
      have H := Lib.hid (show sameO k1 k2 s1 s2 xs ys = false by simp [sameO, h2'])
      go_enter Try.func7, Try.ntmps7
      go_wp2
      go_ret
      exact ⟨by rw [H.out]; rfl, below_then (below_alloc w _) (below_alloc _ _)⟩
  · have h1' : (k1 == k2) = false := by simpa using h1
    clear h1
    have H := Lib.hid (show sameO k1 k2 s1 s2 xs ys = false by simp [sameO, h1'])
    go_enter Try.func7, Try.ntmps7
    go_wp2
    go_ret
    exact ⟨by rw [H.out]; rfl, below_then (below_alloc w _) (below_alloc _ _)⟩

set_option maxHeartbeats 400000 in
theorem szObject_any (k s l : Int) (A : Option Addr) (n c : Nat) (xs : List (List Int)) (w : World) (ha : RR w A n xs) (hn : n ≤ 9223372036854775807) (h0 : 0 ≤ l) (hl : l ≤ 1048576) :
    Calls Try.prog 4 #[.agg #[.int .i64 k, .int .i64 s, .slice A n c], .int .i64 l] w fun e w' => e = .returned (.int .i64 (szF l (bulk xs))) ∧ Below w.heap.size w w' := by
  have hb1 := below_alloc w (.cells #[.int .i64 k, .int .i64 s, .slice A n c] 24)
  have ha' := ha.keep hb1
  clear ha
  by_cases h : (bulk xs : Int) ≤ l
  · have H := Lib.hid (show szF l (bulk xs) = l - bulk xs by simp [szF, h])
    go_enter Try.func4, Try.ntmps4
    go_wp2_with (go_at_call 9; refine (szInt64SS_any _ _ _ _ xs _ ha' hn h0 hl).mono ?_; rintro e w1 ⟨rfl, rfl⟩; rw [H.out])
    go_ret
    exact ⟨by rw [H.out]; rfl, hb1⟩
  · have H := Lib.hid (show szF l (bulk xs) = -1 by simp [szF, h])
    clear h
    go_enter Try.func4, Try.ntmps4
    go_wp2_with (go_at_call 9; refine (szInt64SS_any _ _ _ _ xs _ ha' hn h0 hl).mono ?_; rintro e w1 ⟨rfl, rfl⟩; rw [H.out])
    go_ret
    exact ⟨by rw [H.out]; rfl, hb1⟩

/-- an object in memory of its own -/
def RetObj (w : World) (k s : Int) (zss : List (List Int)) (en : Ending) (w' : World) : Prop :=
  ∃ A n c, en = .returned (.agg #[.int .i64 k, .int .i64 s, .slice A n c]) ∧ OR w' w.heap.size 34 2 A n c zss ∧ Below w.heap.size w w'

set_option maxHeartbeats 400000 in
theorem toObject_any (k s : Int) (A : Option Addr) (n c : Nat) (xs : List (List Int)) (w : World) (ha : RR w A n xs) (hn : n ≤ 1099511627776) (hr : lens xs n ≤ 1099511627776) :
    Calls Try.prog 6 #[.agg #[.int .i64 k, .int .i64 s, .slice A n c]] w (RetObj w k s xs) := by
  have hb1 := below_alloc w (.cells #[.int .i64 k, .int .i64 s, .slice A n c] 24)
  go_enter Try.func6, Try.ntmps6
  go_wp2_with fail
  refine (toInt64SS_any A n c xs _ (ha.keep ((hb1.alloc (by simp) _).alloc (by simp; omega) _)) hn hr).mono ?_
  rintro e w1 ⟨A2, n2, c2, rfl, ho, hb⟩
  obtain ⟨hc, hf⟩ := bcell hb
  have hz : w.heap.size + 1 + 1 < w1.heap.size := by have := hb.size; simp at this; omega
  go_wp2
  refine bodyPost_ret (v := .agg #[.int .i64 k, .int .i64 s, .slice A2 n2 c2]) (by simp [results, Try.results6, go_sem, hc]) rfl ⟨A2, n2, c2, rfl, ?_, ?_⟩
  · have ho' : OR w1 (w.heap.size + 1 + 1 + 1) 34 2 A2 n2 c2 xs := by simpa using ho
    refine OR.more (B := w.heap.size + 1 + 1 + 1) ?_ (by omega)
    repeat (refine OR.setLow ?_ (by simp) _)
    exact ho'
  · repeat (refine Below.setCell ?_ (by simp; try omega) _)
    exact ((hb1.alloc (by simp) _).alloc (by simp; omega) _).trans (hb.mono (by simp; omega))
end Go.Proofs.Ytonjkdalkpccpaa
