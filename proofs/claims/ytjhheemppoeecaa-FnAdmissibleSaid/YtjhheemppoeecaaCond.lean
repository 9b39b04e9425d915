/- The conditions that fail for parameters in range: both sides. No condition beyond those stated. -/
import Derived.Test.YtjhheemppoeecaaTern
import Derived.Test.YtjhheemppoeecaaBlk
namespace Go.Proofs.Ytjhheemppoeecaa
open Go.RowKit

/-- whether a number is the square of one up to 1000 -/
def isSq (n : Int) : Bool := (List.range 1001).any fun x => ((x : Int) * x == n)
theorem isSq_yes {n : Int} {x : Nat} (hx : x ≤ 1000) (h : (x : Int) * x = n) : isSq n = true := by
  unfold isSq
  rw [List.any_eq_true]
  exact ⟨x, List.mem_range.2 (by omega), by simp [h]⟩
theorem isSq_no {n : Int} {x : Nat} (h : ∀ j : Nat, j < x → (j : Int) * j ≠ n) (hx : n < (x : Int) * x) : isSq n = false := by
  unfold isSq
  rw [List.any_eq_false]
  intro j _
  simp only [beq_iff_eq]
  rcases Nat.lt_or_ge j x with h1 | h1
  · exact h j h1
  · have : (x : Int) * x ≤ (j : Int) * j := Int.mul_le_mul (by omega) (by omega) (by omega) (by omega)
    omega

set_option maxHeartbeats 400000 in
theorem l29Root_any (n : Int) (w : World) (h1 : -1000 ≤ n) (h2 : n ≤ 1000) :
    Calls Try.prog 50 #[.int .i64 n] w fun en w' => en = .returned (.bool (isSq n)) ∧ w = w' := by
  go_enter Try.func50, Try.ntmps50
  go_wp2
  go_loop [3] (fun i => ∃ x : Nat, i = .int .i64 x ∧ x ≤ 1000 ∧ ∀ j : Nat, j < x → (j : Int) * j ≠ n) (fun i => 1001 - (intOf i).toNat)
  case atStart => exact ⟨0, rfl, by omega, fun j h => absurd h (by omega)⟩
  case round =>
    obtain ⟨x, rfl, hx, hn⟩ := hrel
    have hm := mul_bd' (a := (x : Int)) (b := (x : Int)) (A := 1000) (B := 1000) (by omega) (by omega) (by omega) (by omega)
    have m1 := hm.1
    have m2 := hm.2
    clear hm
    by_cases hle : (x : Int) * x ≤ n
    · have hx2 : x ≤ 999 := by
        rcases Nat.lt_or_ge x 1000 with h | h
        · omega
        · have : (1000 : Int) * 1000 ≤ (x : Int) * x := Int.mul_le_mul (by omega) (by omega) (by omega) (by omega)
          omega
      by_cases he : (x : Int) * x = n
      · have HE := Lib.hid (isSq_yes hx he)
        have he' : ((x : Int) * x == n) = true := by simp [he]
        clear he hn
        go_wp2
        go_ret
        exact ⟨by rw [HE.out]; rfl, rfl⟩
      · have he' : ((x : Int) * x == n) = false := by simp [he]
        have HN := Lib.hid (show ∀ j : Nat, j < x + 1 → (j : Int) * j ≠ n from fun j hj => by
          rcases Nat.lt_succ_iff_lt_or_eq.1 hj with h | h
          · exact hn j h
          · rw [h]; exact he)
        clear he hn
        go_wp2
        go_round
        case rel => exact ⟨x + 1, by go_num, by omega, HN.out⟩
        case measure => simp [intOf]; omega
    · have HE := Lib.hid (isSq_no hn (by omega))
      clear hn
      go_wp2
      go_ret
      exact ⟨by rw [HE.out]; rfl, rfl⟩

set_option maxHeartbeats 400000 in
theorem isSquare_any (n : Int) (w : World) (h1 : -1000 ≤ n) (h2 : n ≤ 1000) :
    Calls Try.prog 48 #[.int .i64 n] w fun en w' => en = .returned (.bool (isSq n)) ∧ w = w' := by
  go_enter Try.func48, Try.ntmps48
  go_wp2
  go_loop [3] (fun i => ∃ x : Nat, i = .int .i64 x ∧ x ≤ 1000 ∧ ∀ j : Nat, j < x → (j : Int) * j ≠ n) (fun i => 1001 - (intOf i).toNat)
  case atStart => exact ⟨0, rfl, by omega, fun j h => absurd h (by omega)⟩
  case round =>
    obtain ⟨x, rfl, hx, hn⟩ := hrel
    have hm := mul_bd' (a := (x : Int)) (b := (x : Int)) (A := 1000) (B := 1000) (by omega) (by omega) (by omega) (by omega)
    have m1 := hm.1
    have m2 := hm.2
    clear hm
    by_cases hle : (x : Int) * x < n
    · have hx2 : x ≤ 999 := by
        rcases Nat.lt_or_ge x 1000 with h | h
        · omega
        · have : (1000 : Int) * 1000 ≤ (x : Int) * x := Int.mul_le_mul (by omega) (by omega) (by omega) (by omega)
          omega
      have HN := Lib.hid (show ∀ j : Nat, j < x + 1 → (j : Int) * j ≠ n from fun j hj => by
        rcases Nat.lt_succ_iff_lt_or_eq.1 hj with h | h
        · exact hn j h
        · rw [h]; omega)
      clear hn
      go_wp2
      go_round
      case rel => exact ⟨x + 1, by go_num, by omega, HN.out⟩
      case measure => simp [intOf]; omega
    · by_cases he : (x : Int) * x = n
      · have HE := Lib.hid (isSq_yes hx he)
        have he' : ((x : Int) * x == n) = true := by simp [he]
        have hge : n ≤ (x : Int) * x := by omega
        clear he hn
        go_wp2
        go_ret
        exact ⟨by rw [HE.out]; rfl, rfl⟩
      · have he' : ((x : Int) * x == n) = false := by simp [he]
        have HE := Lib.hid (isSq_no hn (by omega))
        clear he hn
        go_wp2
        go_ret
        exact ⟨by rw [HE.out]; rfl, rfl⟩

/-- the conditions that fail -/
def fails (v k l : Int) : List Int :=
  if okR v k l && okB v k l then
    if nB v k l < v then [3]
    else if nB v k l = v then
      (if v % 2 = 0 then (if isSq (k - l) then [] else [4])
       else if solves (k - l) (if v % 4 = 3 then -l else l) then [] else [5])
    else []
  else (if okR v k l then [] else [1]) ++ (if okB v k l then [] else [2])

set_option maxRecDepth 100000 in
set_option maxHeartbeats 1000000 in
theorem spec_fails1 (v k l : Int) (w : World) (h : inRng v k l = true) (hr : okR v k l = false) (hb : okB v k l = true) (hL : fails v k l = [1]) :
    Calls Try.prog 37 #[.int .i64 v, .int .i64 k, .int .i64 l] w (RetI w 2 (fails v k l)) := by
  have HL := Lib.hid hL
  clear hL
  obtain ⟨v1, v2, k1, k2, l1, l2⟩ := inRng_true h
  go_enter Try.func37, Try.ntmps37
  go_wp2_with fail
  refine (l29Numbers_any v k l _ h).mono ?_
  rintro e w1 ⟨rfl, hb1⟩
  have ho := OI.lit w1 w.heap.size 2 [] hb1.size (by simp) All64.nil_
  have hw := hb1.alloc hb1.size (.cells #[] 2)
  go_wp2_with (at_builtin; refine wpList_app1' _ rfl (.tmp 25) (.tmp 26) 30 rfl 2 (.int .i64 0) 8 Try.underlying30 int_infoG rfl (by omega) w.heap.size _ 0 0 (ints []) rfl ho.os (.int .i64 1) _ rfl (by simp) rfl (by omega) hw.size ?_; intro A2 c2 w2 ho2 hg2 hn2; have hw2 := below_own hw hg2 hw.size (fun b hb => (ho.os.lt hb).1); have hi2 := OI.snoc ho2 ho.all (z := 1) ⟨by omega, by omega⟩; clear ho2 hg2 hn2)
  go_ret
  exact ⟨_, _, _, rfl, by rw [HL.out]; exact hi2, hw2⟩

set_option maxRecDepth 100000 in
set_option maxHeartbeats 1000000 in
theorem spec_fails2 (v k l : Int) (w : World) (h : inRng v k l = true) (hr : okR v k l = true) (hb : okB v k l = false) (hL : fails v k l = [2]) :
    Calls Try.prog 37 #[.int .i64 v, .int .i64 k, .int .i64 l] w (RetI w 2 (fails v k l)) := by
  have HL := Lib.hid hL
  clear hL
  obtain ⟨v1, v2, k1, k2, l1, l2⟩ := inRng_true h
  go_enter Try.func37, Try.ntmps37
  go_wp2_with fail
  refine (l29Numbers_any v k l _ h).mono ?_
  rintro e w1 ⟨rfl, hb1⟩
  have ho := OI.lit w1 w.heap.size 2 [] hb1.size (by simp) All64.nil_
  have hw := hb1.alloc hb1.size (.cells #[] 2)
  go_wp2_with (at_builtin; refine wpList_app1' _ rfl (.tmp 30) (.tmp 31) 30 rfl 2 (.int .i64 0) 8 Try.underlying30 int_infoG rfl (by omega) w.heap.size _ 0 0 (ints []) rfl ho.os (.int .i64 2) _ rfl (by simp) rfl (by omega) hw.size ?_; intro A2 c2 w2 ho2 hg2 hn2; have hw2 := below_own hw hg2 hw.size (fun b hb => (ho.os.lt hb).1); have hi2 := OI.snoc ho2 ho.all (z := 2) ⟨by omega, by omega⟩; clear ho2 hg2 hn2)
  go_ret
  exact ⟨_, _, _, rfl, by rw [HL.out]; exact hi2, hw2⟩

set_option maxRecDepth 100000 in
set_option maxHeartbeats 1000000 in
theorem spec_fails12 (v k l : Int) (w : World) (h : inRng v k l = true) (hr : okR v k l = false) (hb : okB v k l = false) (hL : fails v k l = [1, 2]) :
    Calls Try.prog 37 #[.int .i64 v, .int .i64 k, .int .i64 l] w (RetI w 2 (fails v k l)) := by
  have HL := Lib.hid hL
  clear hL
  obtain ⟨v1, v2, k1, k2, l1, l2⟩ := inRng_true h
  go_enter Try.func37, Try.ntmps37
  go_wp2_with fail
  refine (l29Numbers_any v k l _ h).mono ?_
  rintro e w1 ⟨rfl, hb1⟩
  have ho := OI.lit w1 w.heap.size 2 [] hb1.size (by simp) All64.nil_
  have hw := hb1.alloc hb1.size (.cells #[] 2)
  go_wp2_with (first
    | (at_builtin; refine wpList_app1' _ rfl (.tmp 25) (.tmp 26) 30 rfl 2 (.int .i64 0) 8 Try.underlying30 int_infoG rfl (by omega) w.heap.size _ 0 0 (ints []) rfl ho.os (.int .i64 1) _ rfl (by simp) rfl (by omega) hw.size ?_; intro A2 c2 w2 ho2 hg2 hn2; have hw2 := below_own hw hg2 hw.size (fun b hb => (ho.os.lt hb).1); have hi2 := OI.snoc ho2 ho.all (z := 1) ⟨by omega, by omega⟩; clear ho2 hg2 hn2)
    | (at_builtin; refine wpList_app1' _ rfl (.tmp 30) (.tmp 31) 30 rfl 2 (.int .i64 0) 8 Try.underlying30 int_infoG rfl (by omega) w.heap.size A2 (0 + 1) c2 (ints ([] ++ [1])) rfl hi2.os (.int .i64 2) _ rfl (by simp) rfl (by omega) hw2.size ?_; intro A4 c4 w4 ho4 hg4 hn4; have hw4 := below_own hw2 hg4 hw2.size (fun b hb => (hi2.os.lt hb).1); have hi4 := OI.snoc ho4 hi2.all (z := 2) ⟨by omega, by omega⟩; clear ho4 hg4 hn4))
  go_ret
  exact ⟨_, _, _, rfl, by rw [HL.out]; exact hi4, hw4⟩

set_option maxRecDepth 100000 in
set_option maxHeartbeats 1000000 in
theorem spec_fails3 (v k l : Int) (w : World) (h : inRng v k l = true) (hr : okR v k l = true) (hb : okB v k l = true) (hv : nB v k l < v) (hL : fails v k l = [3]) :
    Calls Try.prog 37 #[.int .i64 v, .int .i64 k, .int .i64 l] w (RetI w 2 (fails v k l)) := by
  have HL := Lib.hid hL
  clear hL
  obtain ⟨v1, v2, k1, k2, l1, l2⟩ := inRng_true h
  go_enter Try.func37, Try.ntmps37
  go_wp2_with fail
  refine (l29Numbers_any v k l _ h).mono ?_
  rintro e w1 ⟨rfl, hb1⟩
  have ho := OI.lit w1 w.heap.size 2 [] hb1.size (by simp) All64.nil_
  have hw := hb1.alloc hb1.size (.cells #[] 2)
  have hne : (nB v k l == v) = false := by simp; omega
  go_wp2_with (at_builtin; refine wpList_app1' _ rfl (.tmp 40) (.tmp 41) 30 rfl 2 (.int .i64 0) 8 Try.underlying30 int_infoG rfl (by omega) w.heap.size _ 0 0 (ints []) rfl ho.os (.int .i64 3) _ rfl (by simp) rfl (by omega) hw.size ?_; intro A2 c2 w2 ho2 hg2 hn2; have hw2 := below_own hw hg2 hw.size (fun b hb => (ho.os.lt hb).1); have hi2 := OI.snoc ho2 ho.all (z := 3) ⟨by omega, by omega⟩; clear ho2 hg2 hn2)
  go_ret
  exact ⟨_, _, _, rfl, by rw [HL.out]; exact hi2, hw2⟩

set_option maxRecDepth 100000 in
set_option maxHeartbeats 1000000 in
theorem spec_fails0 (v k l : Int) (w : World) (h : inRng v k l = true) (hr : okR v k l = true) (hb : okB v k l = true) (hv : v < nB v k l) (hL : fails v k l = []) :
    Calls Try.prog 37 #[.int .i64 v, .int .i64 k, .int .i64 l] w (RetI w 2 (fails v k l)) := by
  have HL := Lib.hid hL
  clear hL
  obtain ⟨v1, v2, k1, k2, l1, l2⟩ := inRng_true h
  go_enter Try.func37, Try.ntmps37
  go_wp2_with fail
  refine (l29Numbers_any v k l _ h).mono ?_
  rintro e w1 ⟨rfl, hb1⟩
  have ho := OI.lit w1 w.heap.size 2 [] hb1.size (by simp) All64.nil_
  have hw := hb1.alloc hb1.size (.cells #[] 2)
  have hne : (nB v k l == v) = false := by simp; omega
  go_wp2_with fail
  go_ret
  exact ⟨_, _, _, rfl, by rw [HL.out]; exact ho, hw⟩

set_option maxRecDepth 100000 in
set_option maxHeartbeats 1000000 in
theorem spec_failsS (v k l : Int) (w : World) (h : inRng v k l = true) (hr : okR v k l = true) (hb : okB v k l = true) (hv : (nB v k l == v) = true) (h2 : (v % 2 == 0) = true) (hs : isSq (k - l) = true) (hL : fails v k l = []) :
    Calls Try.prog 37 #[.int .i64 v, .int .i64 k, .int .i64 l] w (RetI w 2 (fails v k l)) := by
  have HL := Lib.hid hL
  clear hL
  obtain ⟨v1, v2, k1, k2, l1, l2⟩ := inRng_true h
  go_enter Try.func37, Try.ntmps37
  go_wp2_with fail
  refine (l29Numbers_any v k l _ h).mono ?_
  rintro e w1 ⟨rfl, hb1⟩
  have ho := OI.lit w1 w.heap.size 2 [] hb1.size (by simp) All64.nil_
  have hw := hb1.alloc hb1.size (.cells #[] 2)
  have hle : v ≤ nB v k l := by simp at hv; omega
  have h2' : (v % 2 == 1) = false := by simp at h2 ⊢; omega
  go_wp2_with (first
    | (go_at_call 50; refine (l29Root_any (k - l) _ (by omega) (by omega)).mono ?_; rintro e w' ⟨rfl, rfl⟩)
    | (at_builtin; refine wpList_app1' _ rfl (.tmp 58) (.tmp 59) 30 rfl 2 (.int .i64 0) 8 Try.underlying30 int_infoG rfl (by omega) w.heap.size _ 0 0 (ints []) rfl ho.os (.int .i64 4) _ rfl (by simp) rfl (by omega) hw.size ?_; intro A2 c2 w2 ho2 hg2 hn2; have hw2 := below_own hw hg2 hw.size (fun b hb => (ho.os.lt hb).1); have hi2 := OI.snoc ho2 ho.all (z := 4) ⟨by omega, by omega⟩; clear ho2 hg2 hn2))
  go_ret
  exact ⟨_, _, _, rfl, by rw [HL.out]; exact ho, hw⟩

set_option maxRecDepth 100000 in
set_option maxHeartbeats 1000000 in
theorem spec_fails4 (v k l : Int) (w : World) (h : inRng v k l = true) (hr : okR v k l = true) (hb : okB v k l = true) (hv : (nB v k l == v) = true) (h2 : (v % 2 == 0) = true) (hs : isSq (k - l) = false) (hL : fails v k l = [4]) :
    Calls Try.prog 37 #[.int .i64 v, .int .i64 k, .int .i64 l] w (RetI w 2 (fails v k l)) := by
  have HL := Lib.hid hL
  clear hL
  obtain ⟨v1, v2, k1, k2, l1, l2⟩ := inRng_true h
  go_enter Try.func37, Try.ntmps37
  go_wp2_with fail
  refine (l29Numbers_any v k l _ h).mono ?_
  rintro e w1 ⟨rfl, hb1⟩
  have ho := OI.lit w1 w.heap.size 2 [] hb1.size (by simp) All64.nil_
  have hw := hb1.alloc hb1.size (.cells #[] 2)
  have hle : v ≤ nB v k l := by simp at hv; omega
  have h2' : (v % 2 == 1) = false := by simp at h2 ⊢; omega
  go_wp2_with (first
    | (go_at_call 50; refine (l29Root_any (k - l) _ (by omega) (by omega)).mono ?_; rintro e w' ⟨rfl, rfl⟩)
    | (at_builtin; refine wpList_app1' _ rfl (.tmp 58) (.tmp 59) 30 rfl 2 (.int .i64 0) 8 Try.underlying30 int_infoG rfl (by omega) w.heap.size _ 0 0 (ints []) rfl ho.os (.int .i64 4) _ rfl (by simp) rfl (by omega) hw.size ?_; intro A2 c2 w2 ho2 hg2 hn2; have hw2 := below_own hw hg2 hw.size (fun b hb => (ho.os.lt hb).1); have hi2 := OI.snoc ho2 ho.all (z := 4) ⟨by omega, by omega⟩; clear ho2 hg2 hn2))
  go_ret
  exact ⟨_, _, _, rfl, by rw [HL.out]; exact hi2, hw2⟩

set_option maxRecDepth 100000 in
set_option maxHeartbeats 1000000 in
theorem spec_failsT1 (v k l : Int) (w : World) (h : inRng v k l = true) (hr : okR v k l = true) (hb : okB v k l = true) (hv : (nB v k l == v) = true) (h4 : v % 4 = 1) (hs : solves (k - l) l = true) (hL : fails v k l = []) :
    Calls Try.prog 37 #[.int .i64 v, .int .i64 k, .int .i64 l] w (RetI w 2 (fails v k l)) := by
  have HL := Lib.hid hL
  clear hL
  obtain ⟨v1, v2, k1, k2, l1, l2⟩ := inRng_true h
  go_enter Try.func37, Try.ntmps37
  go_wp2_with fail
  refine (l29Numbers_any v k l _ h).mono ?_
  rintro e w1 ⟨rfl, hb1⟩
  have ho := OI.lit w1 w.heap.size 2 [] hb1.size (by simp) All64.nil_
  have hw := hb1.alloc hb1.size (.cells #[] 2)
  have hle : v ≤ nB v k l := by simp at hv; omega
  have h2 : (v % 2 == 0) = false := by simp; omega
  have h2' : (v % 2 == 1) = true := by simp; omega
  go_wp2_with fail
  refine (spec_SolvesTernary _ _ _).mono ?_
  rintro e w3 ⟨rfl, hb3⟩
  have ho3 := ho.below hb3
  have hw3 := hw.trans (hb3.mono hw.size)
  go_wp2_with fail
  go_ret
  exact ⟨_, _, _, rfl, by rw [HL.out]; exact ho3, hw3⟩

set_option maxRecDepth 100000 in
set_option maxHeartbeats 1000000 in
theorem spec_fails51 (v k l : Int) (w : World) (h : inRng v k l = true) (hr : okR v k l = true) (hb : okB v k l = true) (hv : (nB v k l == v) = true) (h4 : v % 4 = 1) (hs : solves (k - l) l = false) (hL : fails v k l = [5]) :
    Calls Try.prog 37 #[.int .i64 v, .int .i64 k, .int .i64 l] w (RetI w 2 (fails v k l)) := by
  have HL := Lib.hid hL
  clear hL
  obtain ⟨v1, v2, k1, k2, l1, l2⟩ := inRng_true h
  go_enter Try.func37, Try.ntmps37
  go_wp2_with fail
  refine (l29Numbers_any v k l _ h).mono ?_
  rintro e w1 ⟨rfl, hb1⟩
  have ho := OI.lit w1 w.heap.size 2 [] hb1.size (by simp) All64.nil_
  have hw := hb1.alloc hb1.size (.cells #[] 2)
  have hle : v ≤ nB v k l := by simp at hv; omega
  have h2 : (v % 2 == 0) = false := by simp; omega
  have h2' : (v % 2 == 1) = true := by simp; omega
  go_wp2_with fail
  refine (spec_SolvesTernary _ _ _).mono ?_
  rintro e w3 ⟨rfl, hb3⟩
  have ho3 := ho.below hb3
  have hw3 := hw.trans (hb3.mono hw.size)
  go_wp2_with (at_builtin; refine wpList_app1' _ rfl (.tmp 81) (.tmp 82) 30 rfl 2 (.int .i64 0) 8 Try.underlying30 int_infoG rfl (by omega) w.heap.size _ 0 0 (ints []) rfl ho3.os (.int .i64 5) _ rfl (by simp) rfl (by omega) hw3.size ?_; intro A2 c2 w2 ho2 hg2 hn2; have hw2 := below_own hw3 hg2 hw3.size (fun b hb => (ho3.os.lt hb).1); have hi2 := OI.snoc ho2 ho3.all (z := 5) ⟨by omega, by omega⟩; clear ho2 hg2 hn2)
  go_ret
  exact ⟨_, _, _, rfl, by rw [HL.out]; exact hi2, hw2⟩

set_option maxRecDepth 100000 in
set_option maxHeartbeats 1000000 in
theorem spec_failsT3 (v k l : Int) (w : World) (h : inRng v k l = true) (hr : okR v k l = true) (hb : okB v k l = true) (hv : (nB v k l == v) = true) (h4 : v % 4 = 3) (hs : solves (k - l) (-l) = true) (hL : fails v k l = []) :
    Calls Try.prog 37 #[.int .i64 v, .int .i64 k, .int .i64 l] w (RetI w 2 (fails v k l)) := by
  have HL := Lib.hid hL
  clear hL
  obtain ⟨v1, v2, k1, k2, l1, l2⟩ := inRng_true h
  go_enter Try.func37, Try.ntmps37
  go_wp2_with fail
  refine (l29Numbers_any v k l _ h).mono ?_
  rintro e w1 ⟨rfl, hb1⟩
  have ho := OI.lit w1 w.heap.size 2 [] hb1.size (by simp) All64.nil_
  have hw := hb1.alloc hb1.size (.cells #[] 2)
  have hle : v ≤ nB v k l := by simp at hv; omega
  have h2 : (v % 2 == 0) = false := by simp; omega
  have h2' : (v % 2 == 1) = true := by simp; omega
  go_wp2_with fail
  refine (spec_SolvesTernary _ _ _).mono ?_
  rintro e w3 ⟨rfl, hb3⟩
  have ho3 := ho.below hb3
  have hw3 := hw.trans (hb3.mono hw.size)
  go_wp2_with fail
  go_ret
  exact ⟨_, _, _, rfl, by rw [HL.out]; exact ho3, hw3⟩

set_option maxRecDepth 100000 in
set_option maxHeartbeats 1000000 in
theorem spec_fails53 (v k l : Int) (w : World) (h : inRng v k l = true) (hr : okR v k l = true) (hb : okB v k l = true) (hv : (nB v k l == v) = true) (h4 : v % 4 = 3) (hs : solves (k - l) (-l) = false) (hL : fails v k l = [5]) :
    Calls Try.prog 37 #[.int .i64 v, .int .i64 k, .int .i64 l] w (RetI w 2 (fails v k l)) := by
  have HL := Lib.hid hL
  clear hL
  obtain ⟨v1, v2, k1, k2, l1, l2⟩ := inRng_true h
  go_enter Try.func37, Try.ntmps37
  go_wp2_with fail
  refine (l29Numbers_any v k l _ h).mono ?_
  rintro e w1 ⟨rfl, hb1⟩
  have ho := OI.lit w1 w.heap.size 2 [] hb1.size (by simp) All64.nil_
  have hw := hb1.alloc hb1.size (.cells #[] 2)
  have hle : v ≤ nB v k l := by simp at hv; omega
  have h2 : (v % 2 == 0) = false := by simp; omega
  have h2' : (v % 2 == 1) = true := by simp; omega
  go_wp2_with fail
  refine (spec_SolvesTernary _ _ _).mono ?_
  rintro e w3 ⟨rfl, hb3⟩
  have ho3 := ho.below hb3
  have hw3 := hw.trans (hb3.mono hw.size)
  go_wp2_with (at_builtin; refine wpList_app1' _ rfl (.tmp 81) (.tmp 82) 30 rfl 2 (.int .i64 0) 8 Try.underlying30 int_infoG rfl (by omega) w.heap.size _ 0 0 (ints []) rfl ho3.os (.int .i64 5) _ rfl (by simp) rfl (by omega) hw3.size ?_; intro A2 c2 w2 ho2 hg2 hn2; have hw2 := below_own hw3 hg2 hw3.size (fun b hb => (ho3.os.lt hb).1); have hi2 := OI.snoc ho2 ho3.all (z := 5) ⟨by omega, by omega⟩; clear ho2 hg2 hn2)
  go_ret
  exact ⟨_, _, _, rfl, by rw [HL.out]; exact hi2, hw2⟩

theorem spec_fails (v k l : Int) (w : World) (h : inRng v k l = true) : Calls Try.prog 37 #[.int .i64 v, .int .i64 k, .int .i64 l] w (RetI w 2 (fails v k l)) := by
  cases hr : okR v k l <;> cases hb : okB v k l
  · exact spec_fails12 v k l w h hr hb (by simp [fails, hr, hb])
  · exact spec_fails1 v k l w h hr hb (by simp [fails, hr, hb])
  · exact spec_fails2 v k l w h hr hb (by simp [fails, hr, hb])
  · by_cases h1 : nB v k l < v
    · exact spec_fails3 v k l w h hr hb h1 (by simp [fails, hr, hb, h1])
    · by_cases h2 : nB v k l = v
      · have h2' : (nB v k l == v) = true := by simp [h2]
        by_cases h3 : v % 2 = 0
        · have h3' : (v % 2 == 0) = true := by simp [h3]
          cases hs : isSq (k - l)
          · exact spec_fails4 v k l w h hr hb h2' h3' hs (by simp [fails, hr, hb, h2, h3, hs])
          · exact spec_failsS v k l w h hr hb h2' h3' hs (by simp [fails, hr, hb, h2, h3, hs])
        · have h4 : v % 4 = 1 ∨ v % 4 = 3 := by omega
          rcases h4 with h4 | h4
          · cases hs : solves (k - l) l
            · exact spec_fails51 v k l w h hr hb h2' h4 hs (by simp [fails, hr, hb, h2, h3, h4, hs])
            · exact spec_failsT1 v k l w h hr hb h2' h4 hs (by simp [fails, hr, hb, h2, h3, h4, hs])
          · cases hs : solves (k - l) (-l)
            · exact spec_fails53 v k l w h hr hb h2' h4 hs (by simp [fails, hr, hb, h2, h3, h4, hs])
            · exact spec_failsT3 v k l w h hr hb h2' h4 hs (by simp [fails, hr, hb, h2, h3, h4, hs])
      · exact spec_fails0 v k l w h hr hb (by omega) (by simp [fails, hr, hb, h1, h2])
end Go.Proofs.Ytjhheemppoeecaa
