/- Prime numbers on both sides, Hilbert symbols, and the law on them. No condition. -/
import Derived.Test.YtjhheemppoeecaaHil4
namespace Go.Proofs.Ytjhheemppoeecaa
open Go.RowKit

def isP (n : Int) : Bool := inB n 2 1000000 && noDiv 2 n
theorem isP_facs (n : Int) : (((facsOf n).length : Int) == 1) = isP n := by
  have e : (((facsOf n).length : Int) == 1) = ((facsOf n).length == 1) := by rw [Bool.eq_iff_iff]; simp; omega
  rw [e]
  unfold facsOf isP
  by_cases h : inB n 1 1000000 = true
  · obtain ⟨h1, h2⟩ := inB_true h
    rw [if_pos h]
    by_cases h3 : n = 1
    · subst h3
      decide
    · rw [inB_mk (show 2 ≤ n ∧ n ≤ 1000000 by omega), noDiv_facs (by omega) (by omega)]
      rw [Bool.eq_iff_iff]
      simp
  · rw [if_neg h, inB_not (fun h1 => h (inB_mk (by omega)))]
    rfl
theorem isP_prime {n : Int} (h : isP n = true) : Prime n ∧ n ≤ 1000000 := by
  simp [isP] at h
  have := inB_true h.1
  exact ⟨prime_of_noDiv (by omega) h.2, this.2⟩

set_option maxHeartbeats 400000 in
theorem impl_IsPrime (n : Int) (w : World) :
    Calls Try.prog 45 #[.int .i64 n] w fun en w' => en = .returned (.bool (isP n)) ∧ Below w.heap.size w w' := by
  have HP := Lib.hid (isP_facs n)
  go_enter Try.func45, Try.ntmps45
  go_wp2_with fail
  refine (impl_FactorsOf n _).mono ?_
  rintro e w1 ⟨A, k, c, rfl, ho, hb⟩
  have hl := Lib.hid ho.len
  go_wp2
  go_ret
  refine ⟨?_, hb⟩
  rw [← HP.out, hl.out]
  first | done | rfl

def entB (a : Int) : Bool := a != 0 && inB a (-1000000) 1000000
theorem entB_mil {a : Int} (h : entB a = true) : Mil a := by
  simp [entB] at h
  have := inB_true h.2
  exact ⟨h.1, this.1, this.2⟩

set_option maxHeartbeats 400000 in
theorem l29Number_any (a : Int) (w : World) : Calls Try.prog 52 #[.int .i64 a] w fun en w' => en = .returned (.bool (entB a)) ∧ w = w' := by
  by_cases h : (a != 0) = true
  · have HE := Lib.hid (show entB a = inB a (-1000000) 1000000 by simp [entB, h])
    go_enter Try.func52, Try.ntmps52
    go_wp2_with (go_at_call 44; refine (l00In_any _ _ _ _).mono ?_; rintro e w' ⟨rfl, rfl⟩)
    go_ret
    exact ⟨by rw [HE.out]; rfl, rfl⟩
  · have h' : (a != 0) = false := by simpa using h
    have HE := Lib.hid (show entB a = false by simp [entB, h'])
    clear h
    go_enter Try.func52, Try.ntmps52
    go_wp2
    go_ret
    exact ⟨by rw [HE.out]; rfl, rfl⟩

set_option maxHeartbeats 400000 in
theorem isEntry_any (a : Int) (w : World) : Calls Try.prog 22 #[.int .i64 a] w fun en w' => en = .returned (.bool (entB a)) ∧ w = w' := by
  by_cases h : (a != 0) = true
  · have HE := Lib.hid (show entB a = inB a (-1000000) 1000000 by simp [entB, h])
    go_enter Try.func22, Try.ntmps22
    go_wp2_with (go_at_call 33; refine (within_any _ _ _ _).mono ?_; rintro e w' ⟨rfl, rfl⟩)
    go_ret
    exact ⟨by rw [HE.out]; rfl, rfl⟩
  · have h' : (a != 0) = false := by simpa using h
    have HE := Lib.hid (show entB a = false by simp [entB, h'])
    clear h
    go_enter Try.func22, Try.ntmps22
    go_wp2
    go_ret
    exact ⟨by rw [HE.out]; rfl, rfl⟩

theorem spec_hilbert (a b p : Int) (w : World) (ha : Mil a) (hb : Mil b) (hp : p = 0 ∨ Prime p) (hp' : p ≤ 1000000) :
    Calls Try.prog 54 #[.int .i64 a, .int .i64 b, .int .i64 p] w fun en w' => en = .returned (.int .i64 (sgn (hv a b p))) ∧ w = w' := by
  rcases hp with rfl | hp
  · exact spec_hilbert0 a b w
  · rcases hp.odd with rfl | ⟨h3, ho⟩
    · exact spec_hilbert2 a b w ha hb
    · exact spec_hilbertOdd a b p w ha hb h3 hp' ho

theorem sgn_tests (h : Int) : ((h.tmod 2 == 0) = true → sgn h = 1) ∧ ((h.tmod 2 == 0) = false → sgn h = -1) := by
  have h1 := Int.mul_tdiv_add_tmod h 2
  have h2 := tmod_bd (a := h) (m := 2) (by omega)
  refine ⟨fun h0 => ?_, fun h0 => ?_⟩
  · simp at h0
    unfold sgn
    rw [if_pos (by omega)]
  · simp at h0
    unfold sgn
    rw [if_neg (by omega)]
def symOk (a b p : Int) : Bool := entB a && entB b && (p == 0 || isP p)
def symV (a b p : Int) : Int := if symOk a b p then sgn (hv a b p) else 0
def symC (a b p : Int) : Int := if symOk a b p then 0 else 2

set_option maxHeartbeats 1000000 in
theorem impl_HilbertSymbol_ok (a b p : Int) (w : World) (h1 : entB a = true) (h2 : entB b = true) (h3 : p = 0 ∨ isP p = true) :
    Calls Try.prog 30 #[.int .i64 a, .int .i64 b, .int .i64 p] w fun en w' => en = .returned (.tuple #[.int .i64 (symV a b p), .int .i64 (symC a b p)]) ∧ Below w.heap.size w w' := by
  have HV := Lib.hid (show symV a b p = sgn (hv a b p) ∧ symC a b p = 0 by rcases h3 with h3 | h3 <;> simp [symV, symC, symOk, h1, h2, h3])
  have HP := Lib.hid (show (p = 0 ∨ Prime p) ∧ (p = 0 ∨ 2 ≤ p) ∧ p ≤ 1000000 by
    rcases h3 with h3 | h3
    · exact ⟨.inl h3, .inl h3, by omega⟩
    · exact ⟨.inr (isP_prime h3).1, .inr (isP_prime h3).1.1, (isP_prime h3).2⟩)
  rcases h3 with rfl | h4
  · skip
    have HS := Lib.hid (sgn_tests (hv a b 0))
    go_enter Try.func30, Try.ntmps30
    go_wp2_with (first
      | (go_at_call 22; refine (isEntry_any _ _).mono ?_; rintro e w' ⟨rfl, rfl⟩)
      | (go_at_call 26; refine (impl_hilbert a b 0 _ (entB_mil h1) (entB_mil h2) (.inl rfl) (by omega)).mono ?_; rintro e w' ⟨rfl, rfl⟩))
    all_goals
      go_ret2
      refine ⟨?_, Below.refl _ _⟩
      rw [HV.out.1, HV.out.2]
      first
        | (rw [HS.out.1 (by assumption)]; rfl)
        | (rw [HS.out.2 (by assumption)]; rfl)
  · have h3' : (p != 0) = true := by rw [bne_iff_ne]; rintro rfl; revert h4; decide
    have HS := Lib.hid (sgn_tests (hv a b p))
    go_enter Try.func30, Try.ntmps30
    go_wp2_with (first
      | (go_at_call 22; refine (isEntry_any _ _).mono ?_; rintro e w' ⟨rfl, rfl⟩)
      | (go_at_call 45; refine (impl_IsPrime _ _).mono ?_; rintro e w1 ⟨rfl, hbp⟩)
      | (go_at_call 26; refine (impl_hilbert a b p _ (entB_mil h1) (entB_mil h2) HP.out.2.1 HP.out.2.2).mono ?_; rintro e w' ⟨rfl, rfl⟩))
    all_goals
      go_ret2
      refine ⟨?_, hbp⟩
      rw [HV.out.1, HV.out.2]
      first
        | (rw [HS.out.1 (by assumption)]; rfl)
        | (rw [HS.out.2 (by assumption)]; rfl)

set_option maxHeartbeats 1000000 in
theorem impl_HilbertSymbol (a b p : Int) (w : World) :
    Calls Try.prog 30 #[.int .i64 a, .int .i64 b, .int .i64 p] w fun en w' => en = .returned (.tuple #[.int .i64 (symV a b p), .int .i64 (symC a b p)]) ∧ Below w.heap.size w w' := by
  by_cases h1 : entB a = true
  · by_cases h2 : entB b = true
    · by_cases h3 : p = 0
      · exact impl_HilbertSymbol_ok a b p w h1 h2 (.inl h3)
      · by_cases h4 : isP p = true
        · exact impl_HilbertSymbol_ok a b p w h1 h2 (.inr h4)
        · have h3' : (p != 0) = true := by simpa using h3
          have h4' : isP p = false := by simpa using h4
          have HV := Lib.hid (show symV a b p = 0 ∧ symC a b p = 2 by simp [symV, symC, symOk, h4', h3])
          clear h3 h4
          go_enter Try.func30, Try.ntmps30
          go_wp2_with (first
            | (go_at_call 22; refine (isEntry_any _ _).mono ?_; rintro e w' ⟨rfl, rfl⟩)
            | (go_at_call 45; refine (impl_IsPrime _ _).mono ?_; rintro e w1 ⟨rfl, hbp⟩))
          go_ret2
          exact ⟨by rw [HV.out.1, HV.out.2]; rfl, hbp⟩
    · have h2' : entB b = false := by simpa using h2
      clear h2
      have HV := Lib.hid (show symV a b p = 0 ∧ symC a b p = 2 by simp [symV, symC, symOk, h2'])
      go_enter Try.func30, Try.ntmps30
      go_wp2_with (go_at_call 22; refine (isEntry_any _ _).mono ?_; rintro e w' ⟨rfl, rfl⟩)
      go_ret2
      exact ⟨by rw [HV.out.1, HV.out.2]; rfl, Below.refl _ _⟩
  · have h1' : entB a = false := by simpa using h1
    clear h1
    have HV := Lib.hid (show symV a b p = 0 ∧ symC a b p = 2 by simp [symV, symC, symOk, h1'])
    go_enter Try.func30, Try.ntmps30
    go_wp2_with (go_at_call 22; refine (isEntry_any _ _).mono ?_; rintro e w' ⟨rfl, rfl⟩)
    go_ret2
    exact ⟨by rw [HV.out.1, HV.out.2]; rfl, Below.refl _ _⟩

end Go.Proofs.Ytjhheemppoeecaa
