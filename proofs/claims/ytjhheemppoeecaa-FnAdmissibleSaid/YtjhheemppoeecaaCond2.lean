/- The conditions that fail for parameters in range: the program's side. No condition beyond those stated. -/
import Derived.Test.YtjhheemppoeecaaCond
namespace Go.Proofs.Ytjhheemppoeecaa
open Go.RowKit

set_option maxRecDepth 100000 in
set_option maxHeartbeats 1000000 in
theorem impl_fails1 (v k l : Int) (w : World) (h : inRng v k l = true) (hr : okR v k l = false) (hb : okB v k l = true) (hL : fails v k l = [1]) :
    Calls Try.prog 35 #[.int .i64 v, .int .i64 k, .int .i64 l] w (RetI w 2 (fails v k l)) := by
  have HL := Lib.hid hL
  clear hL
  obtain ⟨v1, v2, k1, k2, l1, l2⟩ := inRng_true h
  go_enter Try.func35, Try.ntmps35
  go_wp2_with fail
  refine (blockNumbers_any v k l _ h).mono ?_
  rintro e w1 ⟨rfl, hb1⟩
  have ho := OI.nil_ w1 w.heap.size 2
  have hw := hb1
  go_wp2_with (at_builtin; refine wpList_app1' _ rfl (.tmp 24) (.tmp 25) 30 rfl 2 (.int .i64 0) 8 Try.underlying30 int_infoG rfl (by omega) w.heap.size none 0 0 (ints []) rfl ho.os (.int .i64 1) _ rfl (by simp) rfl (by omega) hw.size ?_; intro A2 c2 w2 ho2 hg2 hn2; have hw2 := below_own hw hg2 hw.size (fun b hb => (ho.os.lt hb).1); have hi2 := OI.snoc ho2 ho.all (z := 1) ⟨by omega, by omega⟩; clear ho2 hg2 hn2)
  go_ret
  exact ⟨_, _, _, rfl, by rw [HL.out]; exact hi2, hw2⟩

set_option maxRecDepth 100000 in
set_option maxHeartbeats 1000000 in
theorem impl_fails2 (v k l : Int) (w : World) (h : inRng v k l = true) (hr : okR v k l = true) (hb : okB v k l = false) (hL : fails v k l = [2]) :
    Calls Try.prog 35 #[.int .i64 v, .int .i64 k, .int .i64 l] w (RetI w 2 (fails v k l)) := by
  have HL := Lib.hid hL
  clear hL
  obtain ⟨v1, v2, k1, k2, l1, l2⟩ := inRng_true h
  go_enter Try.func35, Try.ntmps35
  go_wp2_with fail
  refine (blockNumbers_any v k l _ h).mono ?_
  rintro e w1 ⟨rfl, hb1⟩
  have ho := OI.nil_ w1 w.heap.size 2
  have hw := hb1
  go_wp2_with (at_builtin; refine wpList_app1' _ rfl (.tmp 29) (.tmp 30) 30 rfl 2 (.int .i64 0) 8 Try.underlying30 int_infoG rfl (by omega) w.heap.size none 0 0 (ints []) rfl ho.os (.int .i64 2) _ rfl (by simp) rfl (by omega) hw.size ?_; intro A2 c2 w2 ho2 hg2 hn2; have hw2 := below_own hw hg2 hw.size (fun b hb => (ho.os.lt hb).1); have hi2 := OI.snoc ho2 ho.all (z := 2) ⟨by omega, by omega⟩; clear ho2 hg2 hn2)
  go_ret
  exact ⟨_, _, _, rfl, by rw [HL.out]; exact hi2, hw2⟩

set_option maxRecDepth 100000 in
set_option maxHeartbeats 1000000 in
theorem impl_fails12 (v k l : Int) (w : World) (h : inRng v k l = true) (hr : okR v k l = false) (hb : okB v k l = false) (hL : fails v k l = [1, 2]) :
    Calls Try.prog 35 #[.int .i64 v, .int .i64 k, .int .i64 l] w (RetI w 2 (fails v k l)) := by
  have HL := Lib.hid hL
  clear hL
  obtain ⟨v1, v2, k1, k2, l1, l2⟩ := inRng_true h
  go_enter Try.func35, Try.ntmps35
  go_wp2_with fail
  refine (blockNumbers_any v k l _ h).mono ?_
  rintro e w1 ⟨rfl, hb1⟩
  have ho := OI.nil_ w1 w.heap.size 2
  have hw := hb1
  go_wp2_with (first
    | (at_builtin; refine wpList_app1' _ rfl (.tmp 24) (.tmp 25) 30 rfl 2 (.int .i64 0) 8 Try.underlying30 int_infoG rfl (by omega) w.heap.size none 0 0 (ints []) rfl ho.os (.int .i64 1) _ rfl (by simp) rfl (by omega) hw.size ?_; intro A2 c2 w2 ho2 hg2 hn2; have hw2 := below_own hw hg2 hw.size (fun b hb => (ho.os.lt hb).1); have hi2 := OI.snoc ho2 ho.all (z := 1) ⟨by omega, by omega⟩; clear ho2 hg2 hn2)
    | (at_builtin; refine wpList_app1' _ rfl (.tmp 29) (.tmp 30) 30 rfl 2 (.int .i64 0) 8 Try.underlying30 int_infoG rfl (by omega) w.heap.size A2 (0 + 1) c2 (ints ([] ++ [1])) rfl hi2.os (.int .i64 2) _ rfl (by simp) rfl (by omega) hw2.size ?_; intro A4 c4 w4 ho4 hg4 hn4; have hw4 := below_own hw2 hg4 hw2.size (fun b hb => (hi2.os.lt hb).1); have hi4 := OI.snoc ho4 hi2.all (z := 2) ⟨by omega, by omega⟩; clear ho4 hg4 hn4))
  go_ret
  exact ⟨_, _, _, rfl, by rw [HL.out]; exact hi4, hw4⟩

set_option maxRecDepth 100000 in
set_option maxHeartbeats 1000000 in
theorem impl_fails3 (v k l : Int) (w : World) (h : inRng v k l = true) (hr : okR v k l = true) (hb : okB v k l = true) (hv : nB v k l < v) (hL : fails v k l = [3]) :
    Calls Try.prog 35 #[.int .i64 v, .int .i64 k, .int .i64 l] w (RetI w 2 (fails v k l)) := by
  have HL := Lib.hid hL
  clear hL
  obtain ⟨v1, v2, k1, k2, l1, l2⟩ := inRng_true h
  go_enter Try.func35, Try.ntmps35
  go_wp2_with fail
  refine (blockNumbers_any v k l _ h).mono ?_
  rintro e w1 ⟨rfl, hb1⟩
  have ho := OI.nil_ w1 w.heap.size 2
  have hw := hb1
  have hne : (nB v k l == v) = false := by simp; omega
  go_wp2_with (at_builtin; refine wpList_app1' _ rfl (.tmp 39) (.tmp 40) 30 rfl 2 (.int .i64 0) 8 Try.underlying30 int_infoG rfl (by omega) w.heap.size none 0 0 (ints []) rfl ho.os (.int .i64 3) _ rfl (by simp) rfl (by omega) hw.size ?_; intro A2 c2 w2 ho2 hg2 hn2; have hw2 := below_own hw hg2 hw.size (fun b hb => (ho.os.lt hb).1); have hi2 := OI.snoc ho2 ho.all (z := 3) ⟨by omega, by omega⟩; clear ho2 hg2 hn2)
  go_ret
  exact ⟨_, _, _, rfl, by rw [HL.out]; exact hi2, hw2⟩

set_option maxRecDepth 100000 in
set_option maxHeartbeats 1000000 in
theorem impl_fails0 (v k l : Int) (w : World) (h : inRng v k l = true) (hr : okR v k l = true) (hb : okB v k l = true) (hv : v < nB v k l) (hL : fails v k l = []) :
    Calls Try.prog 35 #[.int .i64 v, .int .i64 k, .int .i64 l] w (RetI w 2 (fails v k l)) := by
  have HL := Lib.hid hL
  clear hL
  obtain ⟨v1, v2, k1, k2, l1, l2⟩ := inRng_true h
  go_enter Try.func35, Try.ntmps35
  go_wp2_with fail
  refine (blockNumbers_any v k l _ h).mono ?_
  rintro e w1 ⟨rfl, hb1⟩
  have ho := OI.nil_ w1 w.heap.size 2
  have hw := hb1
  have hne : (nB v k l == v) = false := by simp; omega
  go_wp2_with fail
  go_ret
  exact ⟨_, _, _, rfl, by rw [HL.out]; exact ho, hw⟩

set_option maxRecDepth 100000 in
set_option maxHeartbeats 1000000 in
theorem impl_failsS (v k l : Int) (w : World) (h : inRng v k l = true) (hr : okR v k l = true) (hb : okB v k l = true) (hv : (nB v k l == v) = true) (h2 : (v % 2 == 0) = true) (hs : isSq (k - l) = true) (hL : fails v k l = []) :
    Calls Try.prog 35 #[.int .i64 v, .int .i64 k, .int .i64 l] w (RetI w 2 (fails v k l)) := by
  have HL := Lib.hid hL
  clear hL
  obtain ⟨v1, v2, k1, k2, l1, l2⟩ := inRng_true h
  go_enter Try.func35, Try.ntmps35
  go_wp2_with fail
  refine (blockNumbers_any v k l _ h).mono ?_
  rintro e w1 ⟨rfl, hb1⟩
  have ho := OI.nil_ w1 w.heap.size 2
  have hw := hb1
  have hle : v ≤ nB v k l := by simp at hv; omega
  have h2' : (v % 2 == 1) = false := by simp at h2 ⊢; omega
  go_wp2_with (first
    | (go_at_call 48; refine (isSquare_any (k - l) _ (by omega) (by omega)).mono ?_; rintro e w' ⟨rfl, rfl⟩)
    | (at_builtin; refine wpList_app1' _ rfl (.tmp 57) (.tmp 58) 30 rfl 2 (.int .i64 0) 8 Try.underlying30 int_infoG rfl (by omega) w.heap.size none 0 0 (ints []) rfl ho.os (.int .i64 4) _ rfl (by simp) rfl (by omega) hw.size ?_; intro A2 c2 w2 ho2 hg2 hn2; have hw2 := below_own hw hg2 hw.size (fun b hb => (ho.os.lt hb).1); have hi2 := OI.snoc ho2 ho.all (z := 4) ⟨by omega, by omega⟩; clear ho2 hg2 hn2))
  go_ret
  exact ⟨_, _, _, rfl, by rw [HL.out]; exact ho, hw⟩

set_option maxRecDepth 100000 in
set_option maxHeartbeats 1000000 in
theorem impl_fails4 (v k l : Int) (w : World) (h : inRng v k l = true) (hr : okR v k l = true) (hb : okB v k l = true) (hv : (nB v k l == v) = true) (h2 : (v % 2 == 0) = true) (hs : isSq (k - l) = false) (hL : fails v k l = [4]) :
    Calls Try.prog 35 #[.int .i64 v, .int .i64 k, .int .i64 l] w (RetI w 2 (fails v k l)) := by
  have HL := Lib.hid hL
  clear hL
  obtain ⟨v1, v2, k1, k2, l1, l2⟩ := inRng_true h
  go_enter Try.func35, Try.ntmps35
  go_wp2_with fail
  refine (blockNumbers_any v k l _ h).mono ?_
  rintro e w1 ⟨rfl, hb1⟩
  have ho := OI.nil_ w1 w.heap.size 2
  have hw := hb1
  have hle : v ≤ nB v k l := by simp at hv; omega
  have h2' : (v % 2 == 1) = false := by simp at h2 ⊢; omega
  go_wp2_with (first
    | (go_at_call 48; refine (isSquare_any (k - l) _ (by omega) (by omega)).mono ?_; rintro e w' ⟨rfl, rfl⟩)
    | (at_builtin; refine wpList_app1' _ rfl (.tmp 57) (.tmp 58) 30 rfl 2 (.int .i64 0) 8 Try.underlying30 int_infoG rfl (by omega) w.heap.size none 0 0 (ints []) rfl ho.os (.int .i64 4) _ rfl (by simp) rfl (by omega) hw.size ?_; intro A2 c2 w2 ho2 hg2 hn2; have hw2 := below_own hw hg2 hw.size (fun b hb => (ho.os.lt hb).1); have hi2 := OI.snoc ho2 ho.all (z := 4) ⟨by omega, by omega⟩; clear ho2 hg2 hn2))
  go_ret
  exact ⟨_, _, _, rfl, by rw [HL.out]; exact hi2, hw2⟩

set_option maxRecDepth 100000 in
set_option maxHeartbeats 1000000 in
theorem impl_failsT1 (v k l : Int) (w : World) (h : inRng v k l = true) (hr : okR v k l = true) (hb : okB v k l = true) (hv : (nB v k l == v) = true) (h4 : v % 4 = 1) (hs : solves (k - l) l = true) (hL : fails v k l = []) :
    Calls Try.prog 35 #[.int .i64 v, .int .i64 k, .int .i64 l] w (RetI w 2 (fails v k l)) := by
  have HL := Lib.hid hL
  clear hL
  obtain ⟨v1, v2, k1, k2, l1, l2⟩ := inRng_true h
  go_enter Try.func35, Try.ntmps35
  go_wp2_with fail
  refine (blockNumbers_any v k l _ h).mono ?_
  rintro e w1 ⟨rfl, hb1⟩
  have ho := OI.nil_ w1 w.heap.size 2
  have hw := hb1
  have hle : v ≤ nB v k l := by simp at hv; omega
  have h2 : (v % 2 == 0) = false := by simp; omega
  have h2' : (v % 2 == 1) = true := by simp; omega
  go_wp2_with fail
  refine (impl_SolvesTernary _ _ _).mono ?_
  rintro e w3 ⟨rfl, hb3⟩
  have ho3 := ho.below hb3
  have hw3 := hw.trans (hb3.mono hw.size)
  go_wp2_with fail
  go_ret
  exact ⟨_, _, _, rfl, by rw [HL.out]; exact ho3, hw3⟩

set_option maxRecDepth 100000 in
set_option maxHeartbeats 1000000 in
theorem impl_fails51 (v k l : Int) (w : World) (h : inRng v k l = true) (hr : okR v k l = true) (hb : okB v k l = true) (hv : (nB v k l == v) = true) (h4 : v % 4 = 1) (hs : solves (k - l) l = false) (hL : fails v k l = [5]) :
    Calls Try.prog 35 #[.int .i64 v, .int .i64 k, .int .i64 l] w (RetI w 2 (fails v k l)) := by
  have HL := Lib.hid hL
  clear hL
  obtain ⟨v1, v2, k1, k2, l1, l2⟩ := inRng_true h
  go_enter Try.func35, Try.ntmps35
  go_wp2_with fail
  refine (blockNumbers_any v k l _ h).mono ?_
  rintro e w1 ⟨rfl, hb1⟩
  have ho := OI.nil_ w1 w.heap.size 2
  have hw := hb1
  have hle : v ≤ nB v k l := by simp at hv; omega
  have h2 : (v % 2 == 0) = false := by simp; omega
  have h2' : (v % 2 == 1) = true := by simp; omega
  go_wp2_with fail
  refine (impl_SolvesTernary _ _ _).mono ?_
  rintro e w3 ⟨rfl, hb3⟩
  have ho3 := ho.below hb3
  have hw3 := hw.trans (hb3.mono hw.size)
  go_wp2_with (at_builtin; refine wpList_app1' _ rfl (.tmp 81) (.tmp 82) 30 rfl 2 (.int .i64 0) 8 Try.underlying30 int_infoG rfl (by omega) w.heap.size none 0 0 (ints []) rfl ho3.os (.int .i64 5) _ rfl (by simp) rfl (by omega) hw3.size ?_; intro A2 c2 w2 ho2 hg2 hn2; have hw2 := below_own hw3 hg2 hw3.size (fun b hb => (ho3.os.lt hb).1); have hi2 := OI.snoc ho2 ho3.all (z := 5) ⟨by omega, by omega⟩; clear ho2 hg2 hn2)
  go_ret
  exact ⟨_, _, _, rfl, by rw [HL.out]; exact hi2, hw2⟩

set_option maxRecDepth 100000 in
set_option maxHeartbeats 1000000 in
theorem impl_failsT3 (v k l : Int) (w : World) (h : inRng v k l = true) (hr : okR v k l = true) (hb : okB v k l = true) (hv : (nB v k l == v) = true) (h4 : v % 4 = 3) (hs : solves (k - l) (-l) = true) (hL : fails v k l = []) :
    Calls Try.prog 35 #[.int .i64 v, .int .i64 k, .int .i64 l] w (RetI w 2 (fails v k l)) := by
  have HL := Lib.hid hL
  clear hL
  obtain ⟨v1, v2, k1, k2, l1, l2⟩ := inRng_true h
  go_enter Try.func35, Try.ntmps35
  go_wp2_with fail
  refine (blockNumbers_any v k l _ h).mono ?_
  rintro e w1 ⟨rfl, hb1⟩
  have ho := OI.nil_ w1 w.heap.size 2
  have hw := hb1
  have hle : v ≤ nB v k l := by simp at hv; omega
  have h2 : (v % 2 == 0) = false := by simp; omega
  have h2' : (v % 2 == 1) = true := by simp; omega
  go_wp2_with fail
  refine (impl_SolvesTernary _ _ _).mono ?_
  rintro e w3 ⟨rfl, hb3⟩
  have ho3 := ho.below hb3
  have hw3 := hw.trans (hb3.mono hw.size)
  go_wp2_with fail
  go_ret
  exact ⟨_, _, _, rfl, by rw [HL.out]; exact ho3, hw3⟩

set_option maxRecDepth 100000 in
set_option maxHeartbeats 1000000 in
theorem impl_fails53 (v k l : Int) (w : World) (h : inRng v k l = true) (hr : okR v k l = true) (hb : okB v k l = true) (hv : (nB v k l == v) = true) (h4 : v % 4 = 3) (hs : solves (k - l) (-l) = false) (hL : fails v k l = [5]) :
    Calls Try.prog 35 #[.int .i64 v, .int .i64 k, .int .i64 l] w (RetI w 2 (fails v k l)) := by
  have HL := Lib.hid hL
  clear hL
  obtain ⟨v1, v2, k1, k2, l1, l2⟩ := inRng_true h
  go_enter Try.func35, Try.ntmps35
  go_wp2_with fail
  refine (blockNumbers_any v k l _ h).mono ?_
  rintro e w1 ⟨rfl, hb1⟩
  have ho := OI.nil_ w1 w.heap.size 2
  have hw := hb1
  have hle : v ≤ nB v k l := by simp at hv; omega
  have h2 : (v % 2 == 0) = false := by simp; omega
  have h2' : (v % 2 == 1) = true := by simp; omega
  go_wp2_with fail
  refine (impl_SolvesTernary _ _ _).mono ?_
  rintro e w3 ⟨rfl, hb3⟩
  have ho3 := ho.below hb3
  have hw3 := hw.trans (hb3.mono hw.size)
  go_wp2_with (at_builtin; refine wpList_app1' _ rfl (.tmp 81) (.tmp 82) 30 rfl 2 (.int .i64 0) 8 Try.underlying30 int_infoG rfl (by omega) w.heap.size none 0 0 (ints []) rfl ho3.os (.int .i64 5) _ rfl (by simp) rfl (by omega) hw3.size ?_; intro A2 c2 w2 ho2 hg2 hn2; have hw2 := below_own hw3 hg2 hw3.size (fun b hb => (ho3.os.lt hb).1); have hi2 := OI.snoc ho2 ho3.all (z := 5) ⟨by omega, by omega⟩; clear ho2 hg2 hn2)
  go_ret
  exact ⟨_, _, _, rfl, by rw [HL.out]; exact hi2, hw2⟩

theorem impl_fails (v k l : Int) (w : World) (h : inRng v k l = true) : Calls Try.prog 35 #[.int .i64 v, .int .i64 k, .int .i64 l] w (RetI w 2 (fails v k l)) := by
  cases hr : okR v k l <;> cases hb : okB v k l
  · exact impl_fails12 v k l w h hr hb (by simp [fails, hr, hb])
  · exact impl_fails1 v k l w h hr hb (by simp [fails, hr, hb])
  · exact impl_fails2 v k l w h hr hb (by simp [fails, hr, hb])
  · by_cases h1 : nB v k l < v
    · exact impl_fails3 v k l w h hr hb h1 (by simp [fails, hr, hb, h1])
    · by_cases h2 : nB v k l = v
      · have h2' : (nB v k l == v) = true := by simp [h2]
        by_cases h3 : v % 2 = 0
        · have h3' : (v % 2 == 0) = true := by simp [h3]
          cases hs : isSq (k - l)
          · exact impl_fails4 v k l w h hr hb h2' h3' hs (by simp [fails, hr, hb, h2, h3, hs])
          · exact impl_failsS v k l w h hr hb h2' h3' hs (by simp [fails, hr, hb, h2, h3, hs])
        · have h4 : v % 4 = 1 ∨ v % 4 = 3 := by omega
          rcases h4 with h4 | h4
          · cases hs : solves (k - l) l
            · exact impl_fails51 v k l w h hr hb h2' h4 hs (by simp [fails, hr, hb, h2, h3, h4, hs])
            · exact impl_failsT1 v k l w h hr hb h2' h4 hs (by simp [fails, hr, hb, h2, h3, h4, hs])
          · cases hs : solves (k - l) (-l)
            · exact impl_fails53 v k l w h hr hb h2' h4 hs (by simp [fails, hr, hb, h2, h3, h4, hs])
            · exact impl_failsT3 v k l w h hr hb h2' h4 hs (by simp [fails, hr, hb, h2, h3, h4, hs])
      · exact impl_fails0 v k l w h hr hb (by omega) (by simp [fails, hr, hb, h1, h2])
end Go.Proofs.Ytjhheemppoeecaa
