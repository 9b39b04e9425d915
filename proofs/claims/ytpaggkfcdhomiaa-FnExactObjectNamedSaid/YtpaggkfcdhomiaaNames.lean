/- The names of conditions, constructions and kinds of objects: what each function of them returns, for every number; the two sides agree. No condition. -/
import Derived.Test.YtpaggkfcdhomiaaProg
import Derived.Test.YtpaggkfcdhomiaaMem
namespace Go.Proofs.Ytpaggkfcdhomiaa
open Go.RowKit

set_option maxHeartbeats 400000 in
theorem l00In_any (a lo hi : Int) (w : World) :
    Calls Try.prog 18 #[.int .i64 a, .int .i64 lo, .int .i64 hi] w fun e w' => e = .returned (.bool (inB a lo hi)) ∧ w = w' := by
  go_enter Try.func18, Try.ntmps18
  go_wp2
  · go_ret
    have h : lo ≤ a := by assumption
    exact ⟨by simp [inB, h], rfl⟩
  · go_ret
    have h : a < lo := by assumption
    exact ⟨by simp [inB, show ¬ lo ≤ a by omega], rfl⟩

set_option maxHeartbeats 400000 in
theorem within_any (a lo hi : Int) (w : World) :
    Calls Try.prog 19 #[.int .i64 a, .int .i64 lo, .int .i64 hi] w fun e w' => e = .returned (.bool (inB a lo hi)) ∧ w = w' := by
  go_enter Try.func19, Try.ntmps19
  go_wp2
  · go_ret
    have h : lo ≤ a := by assumption
    exact ⟨by simp [inB, h], rfl⟩
  · go_ret
    have h : a < lo := by assumption
    exact ⟨by simp [inB, show ¬ lo ≤ a by omega], rfl⟩

def condName (c : Int) : ByteArray :=
  if c = 1 then ⟨#[112, 111, 105, 110, 116]⟩ else if c = 2 then ⟨#[98, 108, 111, 99, 107]⟩ else if c = 3 then ⟨#[102, 105, 115, 104, 101, 114]⟩
  else if c = 4 then ⟨#[115, 113, 117, 97, 114, 101]⟩ else if c = 5 then ⟨#[116, 101, 114, 110, 97, 114, 121]⟩ else ⟨#[]⟩
theorem condName_out {c : Int} (h : inB c 1 5 = false) : condName c = ⟨#[]⟩ := by
  have : ¬ (1 ≤ c ∧ c ≤ 5) := fun k => by rw [inB_mk k] at h; cases h
  unfold condName
  rw [if_neg (by omega), if_neg (by omega), if_neg (by omega), if_neg (by omega), if_neg (by omega)]

set_option maxHeartbeats 400000 in
theorem spec_ConditionName (c : Int) (w : World) :
    Calls Try.prog 8 #[.int .i64 c] w fun e w' => e = .returned (.string (condName c)) ∧ Below w.heap.size w w' := by
  by_cases h : inB c 1 5 = true
  · have hc : c = 1 ∨ c = 2 ∨ c = 3 ∨ c = 4 ∨ c = 5 := by have := inB_true h; omega
    rcases hc with rfl | rfl | rfl | rfl | rfl
    all_goals
      go_enter Try.func8, Try.ntmps8
      go_wp2_with (go_at_call 18; refine (l00In_any _ _ _ _).mono ?_; rintro e w' ⟨rfl, rfl⟩)
      go_ret
      exact ⟨rfl, below_alloc _ _⟩
  · have h' := inB_false h
    have H := Lib.hid (condName_out h'); clear h
    go_enter Try.func8, Try.ntmps8
    go_wp2_with (go_at_call 18; refine (l00In_any _ _ _ _).mono ?_; rintro e w' ⟨rfl, rfl⟩)
    go_ret
    exact ⟨by rw [H.out]; rfl, below_alloc _ _⟩

set_option maxHeartbeats 400000 in
theorem impl_ConditionName (c : Int) (w : World) :
    Calls Try.prog 9 #[.int .i64 c] w fun e w' => e = .returned (.string (condName c)) ∧ Below w.heap.size w w' := by
  by_cases h : inB c 1 5 = true
  · have hc : c = 1 ∨ c = 2 ∨ c = 3 ∨ c = 4 ∨ c = 5 := by have := inB_true h; omega
    rcases hc with rfl | rfl | rfl | rfl | rfl
    all_goals
      go_enter Try.func9, Try.ntmps9
      go_wp2_with (go_at_call 19; refine (within_any _ _ _ _).mono ?_; rintro e w' ⟨rfl, rfl⟩)
      go_ret
      exact ⟨rfl, below_alloc _ _⟩
  · have h' := inB_false h
    have H := Lib.hid (condName_out h'); clear h
    go_enter Try.func9, Try.ntmps9
    go_wp2_with (go_at_call 19; refine (within_any _ _ _ _).mono ?_; rintro e w' ⟨rfl, rfl⟩)
    go_ret
    exact ⟨by rw [H.out]; rfl, Below.refl _ _⟩

set_option maxHeartbeats 400000 in
theorem law_ConditionName (c : Int) (w : World) (_h : I64 c) :
    Calls Try.prog 3 #[.int .i64 c] w fun e w' => e = .returned (.bool true) ∧ Below w.heap.size w w' := by
  go_enter Try.func3, Try.ntmps3
  go_wp2_with (first
    | (go_at_call 8; refine (spec_ConditionName _ _).mono ?_; rintro e w1 ⟨rfl, hb1⟩)
    | (go_at_call 9; refine (impl_ConditionName _ _).mono ?_; rintro e w2 ⟨rfl, hb2⟩))
  go_ret
  exact ⟨rfl, below_then hb1 hb2⟩

def consName (c : Int) : ByteArray :=
  if c = 1 then ⟨#[99, 111, 109, 112, 108, 101, 116, 101]⟩ else if c = 2 then ⟨#[116, 114, 105, 112, 108, 101, 115]⟩ else if c = 3 then ⟨#[97, 102, 102, 105, 110, 101]⟩
  else if c = 4 then ⟨#[112, 114, 111, 106, 101, 99, 116, 105, 118, 101]⟩ else if c = 5 then ⟨#[100, 105, 102, 102, 101, 114, 101, 110, 99, 101]⟩
  else if c = 6 then ⟨#[104, 97, 100, 97, 109, 97, 114, 100]⟩ else if c = 7 then ⟨#[99, 111, 109, 112, 108, 101, 109, 101, 110, 116]⟩
  else if c = 8 then ⟨#[109, 117, 108, 116, 105, 112, 108, 101]⟩ else ⟨#[]⟩
theorem consName_out {c : Int} (h : inB c 1 8 = false) : consName c = ⟨#[]⟩ := by
  have : ¬ (1 ≤ c ∧ c ≤ 8) := fun k => by rw [inB_mk k] at h; cases h
  unfold consName
  rw [if_neg (by omega), if_neg (by omega), if_neg (by omega), if_neg (by omega), if_neg (by omega), if_neg (by omega), if_neg (by omega), if_neg (by omega)]

set_option maxHeartbeats 1000000 in
theorem spec_ConstructionName (c : Int) (w : World) :
    Calls Try.prog 10 #[.int .i64 c] w fun e w' => e = .returned (.string (consName c)) ∧ Below w.heap.size w w' := by
  by_cases h : inB c 1 8 = true
  · have hc : c = 1 ∨ c = 2 ∨ c = 3 ∨ c = 4 ∨ c = 5 ∨ c = 6 ∨ c = 7 ∨ c = 8 := by have := inB_true h; omega
    rcases hc with rfl | rfl | rfl | rfl | rfl | rfl | rfl | rfl
    all_goals
      go_enter Try.func10, Try.ntmps10
      go_wp2_with (go_at_call 18; refine (l00In_any _ _ _ _).mono ?_; rintro e w' ⟨rfl, rfl⟩)
      go_ret
      exact ⟨rfl, below_alloc _ _⟩
  · have h' := inB_false h
    have H := Lib.hid (consName_out h'); clear h
    go_enter Try.func10, Try.ntmps10
    go_wp2_with (go_at_call 18; refine (l00In_any _ _ _ _).mono ?_; rintro e w' ⟨rfl, rfl⟩)
    go_ret
    exact ⟨by rw [H.out]; rfl, below_alloc _ _⟩

set_option maxHeartbeats 1000000 in
theorem impl_ConstructionName (c : Int) (w : World) :
    Calls Try.prog 11 #[.int .i64 c] w fun e w' => e = .returned (.string (consName c)) ∧ Below w.heap.size w w' := by
  by_cases h : inB c 1 8 = true
  · have hc : c = 1 ∨ c = 2 ∨ c = 3 ∨ c = 4 ∨ c = 5 ∨ c = 6 ∨ c = 7 ∨ c = 8 := by have := inB_true h; omega
    rcases hc with rfl | rfl | rfl | rfl | rfl | rfl | rfl | rfl
    all_goals
      go_enter Try.func11, Try.ntmps11
      go_wp2_with (go_at_call 19; refine (within_any _ _ _ _).mono ?_; rintro e w' ⟨rfl, rfl⟩)
      go_ret
      exact ⟨rfl, below_alloc _ _⟩
  · have h' := inB_false h
    have H := Lib.hid (consName_out h'); clear h
    go_enter Try.func11, Try.ntmps11
    go_wp2_with (go_at_call 19; refine (within_any _ _ _ _).mono ?_; rintro e w' ⟨rfl, rfl⟩)
    go_ret
    exact ⟨by rw [H.out]; rfl, Below.refl _ _⟩

set_option maxHeartbeats 400000 in
theorem law_ConstructionName (c : Int) (w : World) (_h : I64 c) :
    Calls Try.prog 4 #[.int .i64 c] w fun e w' => e = .returned (.bool true) ∧ Below w.heap.size w w' := by
  go_enter Try.func4, Try.ntmps4
  go_wp2_with (first
    | (go_at_call 10; refine (spec_ConstructionName _ _).mono ?_; rintro e w1 ⟨rfl, hb1⟩)
    | (go_at_call 11; refine (impl_ConstructionName _ _).mono ?_; rintro e w2 ⟨rfl, hb2⟩))
  go_ret
  exact ⟨rfl, below_then hb1 hb2⟩

end Go.Proofs.Ytpaggkfcdhomiaa
