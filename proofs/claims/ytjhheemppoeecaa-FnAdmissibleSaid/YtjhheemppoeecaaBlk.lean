/- Parameters of designs in range, and the numbers of blocks that follow from them: what both sides return, for all numbers. No condition. -/
import Derived.Test.YtjhheemppoeecaaProg
import Derived.Test.YtjhheemppoeecaaMem
import Derived.Test.YtjhheemppoeecaaBase
import Derived.Deep.QuietTactic
import Derived.BigQuiet
namespace Go.Proofs.Ytjhheemppoeecaa
open Go.RowKit

theorem mul_bd {a b A B : Int} (ha : 0 ≤ a) (hA : a ≤ A) (hb : 0 ≤ b) (hB : b ≤ B) : 0 ≤ a * b ∧ a * b ≤ A * B :=
  ⟨Int.mul_nonneg ha hb, Int.mul_le_mul hA hB hb (by omega)⟩

def inRng (v k l : Int) : Bool := inB v 3 1000 && inB k 2 (v - 1) && inB l 1 1000
theorem inRng_true {v k l : Int} (h : inRng v k l = true) : 3 ≤ v ∧ v ≤ 1000 ∧ 2 ≤ k ∧ k ≤ v - 1 ∧ 1 ≤ l ∧ l ≤ 1000 := by
  simp [inRng] at h
  have h1 := inB_true h.1.1; have h2 := inB_true h.1.2; have h3 := inB_true h.2
  omega
theorem inRng_false {v k l : Int} (h : ¬ inRng v k l = true) : inRng v k l = false := by simpa using h

set_option maxHeartbeats 400000 in
theorem l29Range_any (v k l : Int) (w : World) :
    Calls Try.prog 36 #[.int .i64 v, .int .i64 k, .int .i64 l] w fun e w' => e = .returned (.bool (inRng v k l)) ∧ w = w' := by
  by_cases h1 : inB v 3 1000 = true
  · have hv := inB_true h1
    have hv1 := hv.1
    have hv2 := hv.2
    clear hv
    by_cases h2 : inB k 2 (v - 1) = true
    · by_cases h3 : inB l 1 1000 = true
      · have H := Lib.hid (show inRng v k l = true by simp [inRng, h1, h2, h3])
        go_enter Try.func36, Try.ntmps36
        go_wp2_with (go_at_call 44; refine (l00In_any _ _ _ _).mono ?_; rintro e w' ⟨rfl, rfl⟩)
        go_ret
        exact ⟨by rw [H.out]; rfl, rfl⟩
      · have h3' := inB_false h3; clear h3
        have H := Lib.hid (show inRng v k l = false by simp [inRng, h1, h2, h3'])
        go_enter Try.func36, Try.ntmps36
        go_wp2_with (go_at_call 44; refine (l00In_any _ _ _ _).mono ?_; rintro e w' ⟨rfl, rfl⟩)
        go_ret
        exact ⟨by rw [H.out]; rfl, rfl⟩
    · have h2' := inB_false h2; clear h2
      have H := Lib.hid (show inRng v k l = false by simp [inRng, h2'])
      go_enter Try.func36, Try.ntmps36
      go_wp2_with (go_at_call 44; refine (l00In_any _ _ _ _).mono ?_; rintro e w' ⟨rfl, rfl⟩)
      go_ret
      exact ⟨by rw [H.out]; rfl, rfl⟩
  · have h1' := inB_false h1; clear h1
    have H := Lib.hid (show inRng v k l = false by simp [inRng, h1'])
    go_enter Try.func36, Try.ntmps36
    go_wp2_with (go_at_call 44; refine (l00In_any _ _ _ _).mono ?_; rintro e w' ⟨rfl, rfl⟩)
    go_ret
    exact ⟨by rw [H.out]; rfl, rfl⟩

set_option maxHeartbeats 400000 in
theorem inRange_any (v k l : Int) (w : World) :
    Calls Try.prog 34 #[.int .i64 v, .int .i64 k, .int .i64 l] w fun e w' => e = .returned (.bool (inRng v k l)) ∧ w = w' := by
  by_cases h1 : inB v 3 1000 = true
  · have hv := inB_true h1
    have hv1 := hv.1
    have hv2 := hv.2
    clear hv
    by_cases h2 : inB k 2 (v - 1) = true
    · by_cases h3 : inB l 1 1000 = true
      · have H := Lib.hid (show inRng v k l = true by simp [inRng, h1, h2, h3])
        go_enter Try.func34, Try.ntmps34
        go_wp2_with (go_at_call 33; refine (within_any _ _ _ _).mono ?_; rintro e w' ⟨rfl, rfl⟩)
        go_ret
        exact ⟨by rw [H.out]; rfl, rfl⟩
      · have h3' := inB_false h3; clear h3
        have H := Lib.hid (show inRng v k l = false by simp [inRng, h1, h2, h3'])
        go_enter Try.func34, Try.ntmps34
        go_wp2_with (go_at_call 33; refine (within_any _ _ _ _).mono ?_; rintro e w' ⟨rfl, rfl⟩)
        go_ret
        exact ⟨by rw [H.out]; rfl, rfl⟩
    · have h2' := inB_false h2; clear h2
      have H := Lib.hid (show inRng v k l = false by simp [inRng, h2'])
      go_enter Try.func34, Try.ntmps34
      go_wp2_with (go_at_call 33; refine (within_any _ _ _ _).mono ?_; rintro e w' ⟨rfl, rfl⟩)
      go_ret
      exact ⟨by rw [H.out]; rfl, rfl⟩
  · have h1' := inB_false h1; clear h1
    have H := Lib.hid (show inRng v k l = false by simp [inRng, h1'])
    go_enter Try.func34, Try.ntmps34
    go_wp2_with (go_at_call 33; refine (within_any _ _ _ _).mono ?_; rintro e w' ⟨rfl, rfl⟩)
    go_ret
    exact ⟨by rw [H.out]; rfl, rfl⟩

def nB (v k l : Int) : Int := l * v * (v - 1) / (k * (k - 1))
def nR (v k l : Int) : Int := l * (v - 1) / (k - 1)
def okB (v k l : Int) : Bool := l * v * (v - 1) % (k * (k - 1)) == 0
def okR (v k l : Int) : Bool := l * (v - 1) % (k - 1) == 0

structure NumFacts (v k l : Int) : Prop where
  a0 : 0 ≤ l * v
  a1 : l * v ≤ 1000000
  b0 : 0 ≤ l * v * (v - 1)
  b1 : l * v * (v - 1) ≤ 1000000000
  c0 : 0 ≤ l * (v - 1)
  c1 : l * (v - 1) ≤ 1000000
  d0 : 1 ≤ k * (k - 1)
  d1 : k * (k - 1) ≤ 1000000
theorem numFacts {v k l : Int} (h : inRng v k l = true) : NumFacts v k l := by
  obtain ⟨v1, v2, k1, k2, l1, l2⟩ := inRng_true h
  have a := mul_bd (a := l) (b := v) (A := 1000) (B := 1000) (by omega) (by omega) (by omega) (by omega)
  have b := mul_bd (a := l * v) (b := v - 1) (A := 1000000) (B := 1000) (by omega) (by omega) (by omega) (by omega)
  have c := mul_bd (a := l) (b := v - 1) (A := 1000) (B := 1000) (by omega) (by omega) (by omega) (by omega)
  have d := mul_bd (a := k - 2) (b := k - 1) (A := 1000) (B := 1000) (by omega) (by omega) (by omega) (by omega)
  have d' := mul_bd (a := k) (b := k - 1) (A := 1000) (B := 1000) (by omega) (by omega) (by omega) (by omega)
  have e : k * (k - 1) = (k - 2) * (k - 1) + 2 * (k - 1) := by rw [← Int.add_mul]; congr 1; omega
  exact ⟨a.1, by omega, b.1, by omega, c.1, by omega, by omega, by omega⟩

set_option maxHeartbeats 400000 in
theorem l29Numbers_any (v k l : Int) (w : World) (h : inRng v k l = true) :
    Calls Try.prog 49 #[.int .i64 v, .int .i64 k, .int .i64 l] w fun e w' => e = .returned (.tuple #[.int .i64 (nB v k l), .int .i64 (nR v k l), .bool (okB v k l), .bool (okR v k l)]) ∧ Below w.heap.size w w' := by
  obtain ⟨v1, v2, k1, k2, l1, l2⟩ := inRng_true h
  obtain ⟨a0, a1, b0, b1, c0, c1, d0, d1⟩ := numFacts h
  clear h
  go_enter Try.func49, Try.ntmps49
  go_wp2
  go_quiet (fail)
  go_wp2
  refine bodyPost_ret (v := .tuple #[.int .i64 (nB v k l), .int .i64 (nR v k l), .bool (okB v k l), .bool (okR v k l)]) (by simp [results, Try.results49, go_sem, nB, nR, okB, okR]) rfl ⟨rfl, ?_⟩
  exact below_drewn _ _

set_option maxHeartbeats 400000 in
theorem blockNumbers_any (v k l : Int) (w : World) (h : inRng v k l = true) :
    Calls Try.prog 47 #[.int .i64 v, .int .i64 k, .int .i64 l] w fun e w' => e = .returned (.tuple #[.int .i64 (nB v k l), .int .i64 (nR v k l), .bool (okB v k l), .bool (okR v k l)]) ∧ Below w.heap.size w w' := by
  obtain ⟨v1, v2, k1, k2, l1, l2⟩ := inRng_true h
  obtain ⟨a0, a1, b0, b1, c0, c1, d0, d1⟩ := numFacts h
  clear h
  go_enter Try.func47, Try.ntmps47
  go_wp2
  go_quiet (fail)
  go_wp2
  refine bodyPost_ret (v := .tuple #[.int .i64 (nB v k l), .int .i64 (nR v k l), .bool (okB v k l), .bool (okR v k l)]) (by simp [results, Try.results47, go_sem, nB, nR, okB, okR]) rfl ⟨rfl, ?_⟩
  exact below_drewn _ _

def bnB (v k l : Int) : Int := if inRng v k l && okB v k l && okR v k l then nB v k l else 0
def bnR (v k l : Int) : Int := if inRng v k l && okB v k l && okR v k l then nR v k l else 0
def bnC (v k l : Int) : Int := if inRng v k l then (if okB v k l && okR v k l then 0 else 6) else 2




end Go.Proofs.Ytjhheemppoeecaa
