/- The numbers drawn for symbols. No condition beyond those stated. -/
import Derived.Test.YtjhheemppoeecaaB10
import Derived.Test.YtjhheemppoeecaaSrc
import Derived.Test.YtjhheemppoeecaaHil5
namespace Go.Proofs.Ytjhheemppoeecaa
open Go.RowKit

/-- a source's state, behind more calls: what was before is as it was -/
structure SrcB (w w' : World) (g p : Nat) : Prop where
  src : Src w' g p
  gl : g < w.heap.size
  grown : w.grownBy w' (some g)
theorem SrcB.next {w w' w'' : World} {g p q : Nat} (h : SrcB w w' g p) (hs : Src w'' g q) (hg : w'.grownBy w'' (some g)) : SrcB w w'' g q := ⟨hs, h.gl, h.grown.trans hg⟩
theorem SrcB.step {w w' w'' : World} {g p : Nat} (h : SrcB w w' g p) (hb : Below w'.heap.size w' w'') : SrcB w w'' g p := ⟨h.src.below hb, h.gl, h.grown.trans (grownBy_of_below hb (some g))⟩
theorem lit5 (w : World) (t : TypeId) (a b c d e : Int) (h : ∀ x ∈ [a, b, c, d, e], I64 x) : RI (w.alloc (.cells #[.int .i64 a, .int .i64 b, .int .i64 c, .int .i64 d, .int .i64 e] t)) (some ⟨w.heap.size, 0, none⟩) 5 [a, b, c, d, e] :=
  RS.lit (E := EInt) (Value.int .i64) w t [a, b, c, d, e] fun x hx => ⟨rfl, h x hx⟩
theorem lit7 (w : World) (t : TypeId) (a b c d e f g : Int) (h : ∀ x ∈ [a, b, c, d, e, f, g], I64 x) : RI (w.alloc (.cells #[.int .i64 a, .int .i64 b, .int .i64 c, .int .i64 d, .int .i64 e, .int .i64 f, .int .i64 g] t)) (some ⟨w.heap.size, 0, none⟩) 7 [a, b, c, d, e, f, g] :=
  RS.lit (E := EInt) (Value.int .i64) w t [a, b, c, d, e, f, g] fun x hx => ⟨rfl, h x hx⟩
/-- products of so many small primes and signs -/
def prodN : Nat → Int → Prop
  | 0, x => x = 1
  | k + 1, x => ∃ y f, prodN k y ∧ f ∈ ([2, 3, 5, 7, -1] : List Int) ∧ x = y * f
theorem prodN_bd : ∀ (k : Nat) (x : Int), prodN k x → k ≤ 6 → -(7 ^ k : Int) ≤ x ∧ x ≤ 7 ^ k
  | 0, x, h, _ => by
    have : x = 1 := h
    subst this
    simp
  | k + 1, x, ⟨y, f, hy, hf, e⟩, hk => by
    have := prodN_bd k y hy (by omega)
    have h7 : (0 : Int) ≤ 7 ^ k := Int.pow_nonneg (by omega)
    rw [Int.pow_succ]
    generalize (7 : Int) ^ k = P at *
    subst e
    simp at hf
    rcases hf with rfl | rfl | rfl | rfl | rfl <;> omega
theorem prodN_small {k : Nat} {x : Int} (h : prodN k x) (hk : k ≤ 5) : -16807 ≤ x ∧ x ≤ 16807 := by
  have h1 := prodN_bd k x h (by omega)
  have h2 : (7 : Int) ^ k ≤ 7 ^ 5 := by
    have : (7 : Nat) ^ k ≤ 7 ^ 5 := Nat.pow_le_pow_right (by omega) hk
    exact_mod_cast this
  have h3 : (7 : Int) ^ 5 = 16807 := by decide
  omega
/-- a number that is drawn -/
def DN (x : Int) : Prop := x ∈ ([0, 1, -1, 1000000, -1000000, 1000001, 524288] : List Int) ∨ (∃ k, k ≤ 5 ∧ prodN k x) ∨ (-60 ≤ x ∧ x ≤ 59)
theorem DN.bd {x : Int} (h : DN x) : -1000001 ≤ x ∧ x ≤ 1000001 := by
  rcases h with h | ⟨k, hk, h⟩ | h
  · simp at h; omega
  · have := prodN_small h hk; omega
  · omega
/-- what a call leaves that draws one -/
def DrewN (w : World) (g p : Nat) (e : Ending) (w' : World) : Prop := ∃ (x : Int) (q : Nat), e = .returned (.int .i64 x) ∧ DN x ∧ q ≤ p + 40 ∧ Src w' g q ∧ w.grownBy w' (some g)
set_option maxRecDepth 100000 in
set_option maxHeartbeats 2000000 in
theorem drawNumber_any (g p : Nat) (w : World) (hs : Src w g p) (hp : p ≤ 1000000) :
    Calls Try.prog 21 #[.pointer (some ⟨g, 0, none⟩)] w (DrewN w g p) := by
  have hgl := hs.lt
  go_enter Try.func21, Try.ntmps21
  go_wp2_with fail
  refine (pick_any g p 8 _ hs (by omega) (by omega) (by omega)).mono ?_
  rintro e w1 ⟨x, p1, rfl, x0, x1, hp1, hs1, hg1⟩
  have S1 : SrcB w w1 g p1 := ⟨hs1, hgl, hg1⟩
  clear hs1 hg1
  by_cases e0 : x = 0
  · have q0 : (x == 0) = true := by simp [e0]
    have R := lit7 w1 2 0 1 (-1) 1000000 (-1000000) 1000001 524288 (fun x hx => by simp at hx; constructor <;> omega)
    have hal := below_alloc w1 (.cells #[.int .i64 0, .int .i64 1, .int .i64 (-1), .int .i64 1000000, .int .i64 (-1000000), .int .i64 1000001, .int .i64 524288] 2)
    have T1 := S1.step hal
    have hgs := S1.src.lt
    have ham := among_any g p1 _ 7 7 _ _ T1.src (by omega) R (fun a ha => by cases ha; show w1.heap.size ≠ g; omega) (by omega) (by omega)
    clear e0 R hal
    go_wp2_with fail
    refine ham.mono ?_
    rintro e w2 ⟨y, p2, rfl, hy, hp2, hs2, hg2⟩
    have S2 := T1.next hs2 hg2
    have HY := Lib.hid hy
    clear hy ham
    go_wp2
    go_ret
    exact ⟨y, p2, rfl, .inl HY.out, by omega, S2.src, S2.grown⟩
  have q0 : (x == 0) = false := by simp [e0]
  by_cases e1 : x = 1
  · have q1 : (x == 1) = true := by simp [e1]
    clear e0 e1
    go_wp2_with fail
    refine (pick_any g p1 6 _ S1.src (by omega) (by omega) (by omega)).mono ?_
    rintro e w2 ⟨K, p2, rfl, K0, K1, hp2, hs2, hg2⟩
    have S2 := S1.next hs2 hg2
    clear S1 hs2 hg2
    go_wp2
    go_loopw [3, 4] (fun t u wr => ∃ (j q : Nat) (y : Int), t = .int .i64 y ∧ u = .int .i64 (K - j) ∧ (j : Int) ≤ K ∧ q ≤ p2 + 2 * j ∧ prodN j y ∧ SrcB w wr g q) (fun _ u _ => (intOf u).toNat)
    case atStart => exact ⟨0, p2, 1, rfl, by simp, by simp; omega, by omega, rfl, S2⟩
    case round =>
      clear S2
      obtain ⟨j, q, y, rfl, rfl, hj, hq, hpr, S3⟩ := hrel
      have HPR := Lib.hid hpr
      obtain ⟨b0, b1⟩ := prodN_small hpr (by omega)
      clear hpr
      by_cases hlt : (j : Int) < K
      · have R := lit5 wr 2 2 3 5 7 (-1) (fun x hx => by simp at hx; constructor <;> omega)
        have hal := below_alloc wr (.cells #[.int .i64 2, .int .i64 3, .int .i64 5, .int .i64 7, .int .i64 (-1)] 2)
        have T1 := S3.step hal
        have hgs := S3.src.lt
        have ham := among_any g q _ 5 5 _ _ T1.src (by omega) R (fun a ha => by cases ha; show wr.heap.size ≠ g; omega) (by omega) (by omega)
        have hpos : K - (j : Int) > 0 := by omega
        clear R hal S3
        go_wp2_with fail
        refine ham.mono ?_
        rintro e w3 ⟨f, p3, rfl, hf, hp3, hs3, hg3⟩
        have S4 := T1.next hs3 hg3
        have HF := Lib.hid hf
        have hfb : (-7 ≤ f ∧ f ≤ 7) ∧ (-1000000 ≤ y * f ∧ y * f ≤ 1000000) := by
          simp at hf
          rcases hf with rfl | rfl | rfl | rfl | rfl <;> omega
        obtain ⟨⟨f0, f1⟩, f2, f3⟩ := hfb
        clear hf ham
        go_wp2
        go_roundw
        case rel => exact ⟨j + 1, p3, y * f, rfl, by go_num, by omega, by omega, ⟨y, f, HPR.out, HF.out, rfl⟩, S4⟩
        case measure => simp [intOf]; omega
      · have hpos : ¬ K - (j : Int) > 0 := by omega
        go_wp2
        go_ret
        exact ⟨y, q, rfl, .inr (.inl ⟨j, by omega, HPR.out⟩), by omega, S3.src, S3.grown⟩
  have q1 : (x == 1) = false := by simp [e1]
  clear e0 e1
  go_wp2_with fail
  refine (pick_any g p1 120 _ S1.src (by omega) (by omega) (by omega)).mono ?_
  rintro e w2 ⟨y, p2, rfl, y0, y1, hp2, hs2, hg2⟩
  have S2 := S1.next hs2 hg2
  go_wp2
  go_ret
  exact ⟨y - 60, p2, rfl, .inr (.inr ⟨by omega, by omega⟩), by omega, S2.src, S2.grown⟩
def RetTwo (w : World) (e : Ending) (w' : World) : Prop := ∃ a b : Int, e = .returned (.tuple #[.int .i64 a, .int .i64 b]) ∧ DN a ∧ DN b ∧ Below w.heap.size w w'
set_option maxRecDepth 100000 in
set_option maxHeartbeats 1000000 in
theorem drawTernary_any (A : Option Addr) (n c : Nat) (bs : List Int) (w : World) (ha : RS EByte w A n bs) (hn : n ≤ 9223372036854775807) :
    Calls Try.prog 7 #[.slice A n c] w (RetTwo w) := by
  go_enter Try.func7, Try.ntmps7
  go_wp2_with fail
  refine (l00From_any A n c bs w ha hn).mono ?_
  rintro e w1 ⟨rfl, hs, hb⟩
  go_wp2_with fail
  refine (drawNumber_any w.heap.size 0 w1 hs (by omega)).mono ?_
  rintro e w2 ⟨a, p2, rfl, ha2, hp2, hs2, hg2⟩
  have HA := Lib.hid ha2
  clear ha2
  go_wp2_with fail
  refine (drawNumber_any w.heap.size p2 w2 hs2 (by omega)).mono ?_
  rintro e w3 ⟨b, p3, rfl, hb3, hp3, hs3, hg3⟩
  have HB := Lib.hid hb3
  clear hb3
  go_wp2
  go_ret2
  exact ⟨a, b, rfl, HA.out, HB.out, hb.grown (hg2.trans hg3) hb.size (fun k hk => by injection hk with hk; omega)⟩
end Go.Proofs.Ytjhheemppoeecaa
