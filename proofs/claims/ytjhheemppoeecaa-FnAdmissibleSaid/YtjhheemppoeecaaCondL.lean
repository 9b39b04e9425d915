/- Whether parameters are possible, the conditions that fail, and the laws on them. No condition. -/
import Derived.Test.YtjhheemppoeecaaCond2
import Derived.Test.YtjhheemppoeecaaLaw
namespace Go.Proofs.Ytjhheemppoeecaa
open Go.RowKit

def poss (v k l : Int) : Bool := inRng v k l && ((fails v k l).length : Int) == 0
def condL (v k l : Int) : List Int := if inRng v k l then fails v k l else []
def condC (v k l : Int) : Int := if inRng v k l then 0 else 2
theorem dec_refl (l : List Int) : decide (l = l) = true := by simp
theorem fails_len (v k l : Int) : (fails v k l).length ≤ 2 := by
  unfold fails
  repeat' split
  all_goals simp

set_option maxHeartbeats 400000 in
theorem spec_IsPossible (v k l : Int) (w : World) :
    Calls Try.prog 19 #[.int .i64 v, .int .i64 k, .int .i64 l] w fun en w' => en = .returned (.bool (poss v k l)) ∧ Below w.heap.size w w' := by
  by_cases h : inRng v k l = true
  · have HP := Lib.hid (show poss v k l = (((fails v k l).length : Int) == 0) by simp [poss, h])
    go_enter Try.func19, Try.ntmps19
    go_wp2_with (go_at_call 36; refine (l29Range_any _ _ _ _).mono ?_; rintro e w' ⟨rfl, rfl⟩)
    refine (spec_fails v k l _ h).mono ?_
    rintro e w1 ⟨A, n, c, rfl, ho, hb⟩
    have hl := Lib.hid ho.len
    go_wp2
    go_ret
    refine ⟨?_, hb⟩
    rw [HP.out, hl.out]
    first | done | rfl
  · have h' := inRng_false h
    have HP := Lib.hid (show poss v k l = false by simp [poss, h'])
    clear h
    go_enter Try.func19, Try.ntmps19
    go_wp2_with (go_at_call 36; refine (l29Range_any _ _ _ _).mono ?_; rintro e w' ⟨rfl, rfl⟩)
    go_ret
    exact ⟨by rw [HP.out]; rfl, Below.refl _ _⟩

set_option maxHeartbeats 400000 in
theorem impl_IsPossible (v k l : Int) (w : World) :
    Calls Try.prog 17 #[.int .i64 v, .int .i64 k, .int .i64 l] w fun en w' => en = .returned (.bool (poss v k l)) ∧ Below w.heap.size w w' := by
  by_cases h : inRng v k l = true
  · have HP := Lib.hid (show poss v k l = (((fails v k l).length : Int) == 0) by simp [poss, h])
    go_enter Try.func17, Try.ntmps17
    go_wp2_with (go_at_call 34; refine (inRange_any _ _ _ _).mono ?_; rintro e w' ⟨rfl, rfl⟩)
    refine (impl_fails v k l _ h).mono ?_
    rintro e w1 ⟨A, n, c, rfl, ho, hb⟩
    have hl := Lib.hid ho.len
    go_wp2
    go_ret
    refine ⟨?_, hb⟩
    rw [HP.out, hl.out]
    first | done | rfl
  · have h' := inRng_false h
    have HP := Lib.hid (show poss v k l = false by simp [poss, h'])
    clear h
    go_enter Try.func17, Try.ntmps17
    go_wp2_with (go_at_call 34; refine (inRange_any _ _ _ _).mono ?_; rintro e w' ⟨rfl, rfl⟩)
    go_ret
    exact ⟨by rw [HP.out]; rfl, Below.refl _ _⟩




/-- the orders found among the first j behind k -/
def ordsTo (k l : Int) : Nat → List Int
  | 0 => []
  | j + 1 => ordsTo k l j ++ (if poss (k + 1 + j) k l then [k + 1 + j] else [])
def ords (k l m : Int) : List Int := ordsTo k l (m - k).toNat
theorem ordsTo_len (k l : Int) (j : Nat) : (ordsTo k l j).length ≤ j := by
  induction j with
  | zero => simp [ordsTo]
  | succ j ih => simp only [ordsTo, List.length_append]; split <;> simp <;> omega
def ordL (k l m : Int) : List Int := if inB k 2 1000 && inB l 1 1000 && inB m 1 1000 then ords k l m else []
def ordC (k l m : Int) : Int := if inB k 2 1000 && inB l 1 1000 && inB m 1 1000 then 0 else 2
theorem AdmissibleOrders_len (k l m : Int) : (ordL k l m).length ≤ 1000 := by
  unfold ordL
  split
  · rename_i h
    simp at h
    have h1 := inB_true h.1.1; have h3 := inB_true h.2
    have := ordsTo_len k l (m - k).toNat
    unfold ords
    omega
  · simp
theorem ConditionsOf_len (v k l : Int) : (condL v k l).length ≤ 2 := by
  unfold condL
  split
  · exact fails_len v k l
  · simp


set_option maxHeartbeats 1000000 in
theorem impl_AdmissibleOrders_ok (k l m : Int) (w : World) (h1 : inB k 2 1000 = true) (h2 : inB l 1 1000 = true) (h3 : inB m 1 1000 = true) :
    Calls Try.prog 16 #[.int .i64 k, .int .i64 l, .int .i64 m] w (RetIC w 2 (ords k l m) 0) := by
  obtain ⟨k1, k2⟩ := inB_true h1
  obtain ⟨m1, m2⟩ := inB_true h3
  go_enter Try.func16, Try.ntmps16
  go_wp2_with (go_at_call 33; refine (within_any _ _ _ _).mono ?_; rintro e w' ⟨rfl, rfl⟩)
  go_loopw [8, 9] (fun a i wr => ∃ (j : Nat) (A : Option Addr) (n c : Nat), i = .int .i64 (k + 1 + j) ∧ j ≤ 1000 ∧ (j : Int) ≤ (m - k).toNat ∧ a = .slice A n c ∧ OI wr w.heap.size 2 A n c (ordsTo k l j) ∧ Below w.heap.size w wr) (fun _ i _ => (1001 + m - intOf i).toNat)
  case atStart => exact ⟨0, _, _, _, by go_num, by omega, by omega, rfl, OI.nil_ _ _ _, Below.refl _ _⟩
  case round =>
    obtain ⟨j, A, n, c, rfl, hj, hjm, rfl, ho, hw⟩ := hrel
    have hn : n ≤ 1000 := by have e := ho.len; have := ordsTo_len k l j; omega
    by_cases hlt : k + 1 + j ≤ m
    · by_cases hp : poss (k + 1 + j) k l = true
      · have HS := Lib.hid (show ordsTo k l (j + 1) = ordsTo k l j ++ [k + 1 + j] by simp [ordsTo, hp])
        go_wp2_with fail
        refine (impl_IsPossible _ _ _ _).mono ?_
        rintro e w1 ⟨rfl, hb1⟩
        rw [hp]
        have ho1 := ho.below hb1
        have hw1 := hw.trans (hb1.mono hw.size)
        clear ho hw hb1
        go_wp2_with (at_builtin; refine wpList_app1 _ rfl (.tmp 34) (.tmp 36) 30 rfl 2 (.int .i64 0) 8 Try.underlying30 int_infoG rfl (by omega) w.heap.size A n c (ints (ordsTo k l j)) rfl ho1.os (.int .i64 (k + 1 + j)) rfl rfl (by omega) hw1.size ?_; intro A2 c2 w2 ho2 hg2 hn2)
        have hw2 := below_own hw1 hg2 hw1.size (fun b hb => (ho1.os.lt hb).1)
        have hi2 := OI.snoc ho2 ho1.all (z := k + 1 + j) ⟨by omega, by omega⟩
        clear ho2 hg2 hn2 ho1 hw1
        go_wp2
        go_roundw
        case rel => exact ⟨j + 1, A2, n + 1, c2, by go_num, by omega, by omega, rfl, by rw [HS.out]; exact hi2, hw2⟩
        case measure => simp [intOf]; omega
      · have hp' : poss (k + 1 + j) k l = false := by simpa using hp
        have HS := Lib.hid (show ordsTo k l (j + 1) = ordsTo k l j by simp [ordsTo, hp'])
        clear hp
        go_wp2_with fail
        refine (impl_IsPossible _ _ _ _).mono ?_
        rintro e w1 ⟨rfl, hb1⟩
        rw [hp']
        have ho1 := ho.below hb1
        have hw1 := hw.trans (hb1.mono hw.size)
        clear ho hw hb1
        go_wp2_with fail
        go_roundw
        case rel => exact ⟨j + 1, A, n, c, by go_num, by omega, by omega, rfl, by rw [HS.out]; exact ho1, hw1⟩
        case measure => simp [intOf]; omega
    · have HS := Lib.hid (show ordsTo k l j = ords k l m by unfold ords; congr 1; omega)
      go_wp2_with fail
      go_ret2
      exact ⟨A, n, c, rfl, by rw [← HS.out]; exact ho, hw⟩

set_option maxHeartbeats 400000 in
theorem impl_AdmissibleOrders (k l m : Int) (w : World) :
    Calls Try.prog 16 #[.int .i64 k, .int .i64 l, .int .i64 m] w (RetIC w 2 (ordL k l m) (ordC k l m)) := by
  by_cases h1 : inB k 2 1000 = true
  · by_cases h2 : inB l 1 1000 = true
    · by_cases h3 : inB m 1 1000 = true
      · have e : ordL k l m = ords k l m ∧ ordC k l m = 0 := by simp [ordL, ordC, h1, h2, h3]
        rw [e.1, e.2]
        exact impl_AdmissibleOrders_ok k l m w h1 h2 h3
      · have h3' := inB_false h3
        have HP := Lib.hid (show ordL k l m = [] ∧ ordC k l m = 2 by simp [ordL, ordC, h3'])
        clear h3
        go_enter Try.func16, Try.ntmps16
        go_wp2_with (go_at_call 33; refine (within_any _ _ _ _).mono ?_; rintro e w' ⟨rfl, rfl⟩)
        go_ret2
        exact ⟨none, 0, 0, by rw [HP.out.2]; rfl, by rw [HP.out.1]; exact OI.nil_ _ _ _, Below.refl _ _⟩
    · have h2' := inB_false h2
      have HP := Lib.hid (show ordL k l m = [] ∧ ordC k l m = 2 by simp [ordL, ordC, h2'])
      clear h2
      go_enter Try.func16, Try.ntmps16
      go_wp2_with (go_at_call 33; refine (within_any _ _ _ _).mono ?_; rintro e w' ⟨rfl, rfl⟩)
      go_ret2
      exact ⟨none, 0, 0, by rw [HP.out.2]; rfl, by rw [HP.out.1]; exact OI.nil_ _ _ _, Below.refl _ _⟩
  · have h1' := inB_false h1
    have HP := Lib.hid (show ordL k l m = [] ∧ ordC k l m = 2 by simp [ordL, ordC, h1'])
    clear h1
    go_enter Try.func16, Try.ntmps16
    go_wp2_with (go_at_call 33; refine (within_any _ _ _ _).mono ?_; rintro e w' ⟨rfl, rfl⟩)
    go_ret2
    exact ⟨none, 0, 0, by rw [HP.out.2]; rfl, by rw [HP.out.1]; exact OI.nil_ _ _ _, Below.refl _ _⟩


end Go.Proofs.Ytjhheemppoeecaa
