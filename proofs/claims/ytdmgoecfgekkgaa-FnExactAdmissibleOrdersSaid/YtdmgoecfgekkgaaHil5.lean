/- Prime numbers on both sides, Hilbert symbols, and the law on them. No condition. -/
import Derived.Test.YtdmgoecfgekkgaaHil4
namespace Go.Proofs.Ytdmgoecfgekkgaa
open Go.RowKit

def isP (n : Int) : Bool := inB n 2 1000000 && noDiv 2 n
theorem isP_facs (n : Int) : (((facsOf n).length : Int) == 1) = isP n := by
  have e : (((facsOf n).length : Int) == 1) = ((facsOf n).length == 1) := by rw [Bool.eq_iff_iff]; simp; omega
  rw [e]
  unfold facsOf isP
  by_cases h : inB n 1 1000000 = true
  · obtain ⟨h1, h2⟩ := inB_true h
    rw [if_pos h]
    by_cases h3 : n = 1
    · subst h3
      decide
    · rw [inB_mk (show 2 ≤ n ∧ n ≤ 1000000 by omega), noDiv_facs (by omega) (by omega)]
      rw [Bool.eq_iff_iff]
      simp
  · rw [if_neg h, inB_not (fun h1 => h (inB_mk (by omega)))]
    rfl
theorem isP_prime {n : Int} (h : isP n = true) : Prime n ∧ n ≤ 1000000 := by
  simp [isP] at h
  have := inB_true h.1
  exact ⟨prime_of_noDiv (by omega) h.2, this.2⟩

def entB (a : Int) : Bool := a != 0 && inB a (-1000000) 1000000
theorem entB_mil {a : Int} (h : entB a = true) : Mil a := by
  simp [entB] at h
  have := inB_true h.2
  exact ⟨h.1, this.1, this.2⟩

set_option maxHeartbeats 400000 in
theorem l29Number_any (a : Int) (w : World) : Calls Try.prog 36 #[.int .i64 a] w fun en w' => en = .returned (.bool (entB a)) ∧ w = w' := by
  by_cases h : (a != 0) = true
  · have HE := Lib.hid (show entB a = inB a (-1000000) 1000000 by simp [entB, h])
    go_enter Try.func36, Try.ntmps36
    go_wp2_with (go_at_call 24; refine (l00In_any _ _ _ _).mono ?_; rintro e w' ⟨rfl, rfl⟩)
    go_ret
    exact ⟨by rw [HE.out]; rfl, rfl⟩
  · have h' : (a != 0) = false := by simpa using h
    have HE := Lib.hid (show entB a = false by simp [entB, h'])
    clear h
    go_enter Try.func36, Try.ntmps36
    go_wp2
    go_ret
    exact ⟨by rw [HE.out]; rfl, rfl⟩

set_option maxHeartbeats 400000 in
theorem isEntry_any (a : Int) (w : World) : Calls Try.prog 38 #[.int .i64 a] w fun en w' => en = .returned (.bool (entB a)) ∧ w = w' := by
  by_cases h : (a != 0) = true
  · have HE := Lib.hid (show entB a = inB a (-1000000) 1000000 by simp [entB, h])
    go_enter Try.func38, Try.ntmps38
    go_wp2_with (go_at_call 25; refine (within_any _ _ _ _).mono ?_; rintro e w' ⟨rfl, rfl⟩)
    go_ret
    exact ⟨by rw [HE.out]; rfl, rfl⟩
  · have h' : (a != 0) = false := by simpa using h
    have HE := Lib.hid (show entB a = false by simp [entB, h'])
    clear h
    go_enter Try.func38, Try.ntmps38
    go_wp2
    go_ret
    exact ⟨by rw [HE.out]; rfl, rfl⟩

theorem spec_hilbert (a b p : Int) (w : World) (ha : Mil a) (hb : Mil b) (hp : p = 0 ∨ Prime p) (hp' : p ≤ 1000000) :
    Calls Try.prog 43 #[.int .i64 a, .int .i64 b, .int .i64 p] w fun en w' => en = .returned (.int .i64 (sgn (hv a b p))) ∧ w = w' := by
  rcases hp with rfl | hp
  · exact spec_hilbert0 a b w
  · rcases hp.odd with rfl | ⟨h3, ho⟩
    · exact spec_hilbert2 a b w ha hb
    · exact spec_hilbertOdd a b p w ha hb h3 hp' ho

theorem sgn_tests (h : Int) : ((h.tmod 2 == 0) = true → sgn h = 1) ∧ ((h.tmod 2 == 0) = false → sgn h = -1) := by
  have h1 := Int.mul_tdiv_add_tmod h 2
  have h2 := tmod_bd (a := h) (m := 2) (by omega)
  refine ⟨fun h0 => ?_, fun h0 => ?_⟩
  · simp at h0
    unfold sgn
    rw [if_pos (by omega)]
  · simp at h0
    unfold sgn
    rw [if_neg (by omega)]
def symOk (a b p : Int) : Bool := entB a && entB b && (p == 0 || isP p)
def symV (a b p : Int) : Int := if symOk a b p then sgn (hv a b p) else 0
def symC (a b p : Int) : Int := if symOk a b p then 0 else 2

end Go.Proofs.Ytdmgoecfgekkgaa
