/- The factors of a number, prime numbers. No condition. -/
import Derived.Test.YtcnjlkabdfcjdaaZAQ
import Derived.Test.YtcnjlkabdfcjdaaZAD
import Derived.Test.YtcnjlkabdfcjdaaZAA
import Derived.Deep.QuietTactic
import Derived.BigQuiet
import Derived.Test.YtcnjlkabdfcjdaaZAP
set_option linter.unusedVariables false
set_option linter.unusedSimpArgs false
namespace Go.Proofs.Ytcnjlkabdfcjdaa
open Go.RowKit

theorem int_info' : (Try.prog.info? 2).map (fun i => (i.zero, i.size, i.bytes)) = some (some (.int .i64 0), 1, 8) := by kernel_rfl
/-- a number that is not 0, of at most six digits and a bit -/
def Mil (a : Int) : Prop := a ≠ 0 ∧ -1000000 ≤ a ∧ a ≤ 1000000
theorem Mil.div {a p : Int} (h : Mil a) (hp : 2 ≤ p) (hd : a.tmod p = 0) : Mil (a.tdiv p) := by
  obtain ⟨h1, h2, _⟩ := tdiv_lt h.1 hp hd
  obtain ⟨h3, h4, h5⟩ := h
  exact ⟨h2, by omega, by omega⟩
theorem Mil.cof {a p : Int} (h : Mil a) (hp : 2 ≤ p) : Mil (cof a p) := by
  have h1 := (expo_le h.1 hp).2
  have h2 := (expo_spec h.1 hp).2.2
  obtain ⟨h3, h4, h5⟩ := h
  exact ⟨h2, by omega, by omega⟩
theorem Mil.expo {a p : Int} (h : Mil a) (hp : 2 ≤ p) : expo a p ≤ 19 := expo_20 h.1 hp (by obtain ⟨h3, h4, h5⟩ := h; omega)

theorem mul_bd' {a b A B : Int} (ha : 0 ≤ a) (hA : a ≤ A) (hb : 0 ≤ b) (hB : b ≤ B) : 0 ≤ a * b ∧ a * b ≤ A * B :=
  ⟨Int.mul_nonneg ha hb, Int.mul_le_mul hA hB hb (by omega)⟩


/-- the factors that a call returns for n: none out of range -/
def facsOf (n : Int) : List Int := if inB n 1 1000000 then facs 2 n else []

def isP (n : Int) : Bool := inB n 2 1000000 && noDiv 2 n
theorem isP_facs (n : Int) : (((facsOf n).length : Int) == 1) = isP n := by
  have e : (((facsOf n).length : Int) == 1) = ((facsOf n).length == 1) := by rw [Bool.eq_iff_iff]; simp; omega
  rw [e]
  unfold facsOf isP
  by_cases h : inB n 1 1000000 = true
  · obtain ⟨h1, h2⟩ := inB_true h
    rw [if_pos h]
    by_cases h3 : n = 1
    · subst h3
      decide
    · rw [inB_mk (show 2 ≤ n ∧ n ≤ 1000000 by omega), noDiv_facs (by omega) (by omega)]
      rw [Bool.eq_iff_iff]
      simp
  · rw [if_neg h, inB_not (fun h1 => h (inB_mk (by omega)))]
    rfl
end Go.Proofs.Ytcnjlkabdfcjdaa
/- Whether a field is valid, on both sides. No condition beyond those stated. -/
namespace Go.Proofs.Ytcnjlkabdfcjdaa
open Go.RowKit

/-- a valid field -/
def FldZ (P D : Int) (f : List Int) : Prop := 1 ≤ D ∧ FldOk P D.toNat f
theorem PR_isP : (PR.all fun p => isP p) = true := by decide +kernel
theorem isP_PR : ((List.range 65).all fun p => !isP (p : Int) || PR.contains (p : Int)) = true := by decide +kernel
theorem isP_low {P : Int} (h : isP P = true) : 2 ≤ P ∧ P ≤ 1000000 := by
  unfold isP at h
  rw [Bool.and_eq_true] at h
  exact inB_true h.1
theorem isP_mem {P : Int} (h : isP P = true) (h2 : P ≤ 64) : P ∈ PR := by
  have h0 := (isP_low h).1
  have := List.all_eq_true.1 isP_PR P.toNat (List.mem_range.2 (by omega))
  rw [Int.toNat_of_nonneg (by omega), h] at this
  simpa using this
theorem mem_isP {P : Int} (h : P ∈ PR) : isP P = true := List.all_eq_true.1 PR_isP P h
theorem fldZ_pr {P D : Int} {f : List Int} (h : FldZ P D f) : isP P = true := mem_isP h.2.pr
theorem pow_le64 {P : Int} {k : Nat} (hP : 2 ≤ P) (hk : 1 ≤ k) (h : P ^ k ≤ 64) : P ≤ 64 ∧ k ≤ 6 := by
  constructor
  · have := pow_mono (p := P) (by omega) hk
    rw [Int.pow_succ, Int.pow_zero, Int.one_mul] at this
    omega
  · refine Classical.byContradiction fun hn => ?_
    have h7 := pow_mono (p := P) (by omega) (show 7 ≤ k by omega)
    have h2 : ∀ n : Nat, (2 : Int) ^ n ≤ P ^ n := fun n => by
      induction n with
      | zero => simp
      | succ n ih =>
        rw [Int.pow_succ, Int.pow_succ]
        exact Int.mul_le_mul ih hP (by omega) (Int.le_of_lt (Int.pow_pos (by omega)))
    have := h2 7
    have e : (2 : Int) ^ 7 = 128 := by decide
    omega
def dgTo (p : Int) (f : List Int) (j : Nat) : Prop := ∀ t, t < j → 0 ≤ nth f t ∧ nth f t < p
/-- what is left when prime number, degree, size, length and the last coefficient are right -/
theorem fldZ_iff {P : Int} {k : Nat} {f : List Int} (hP : P ∈ PR) (hk : 1 ≤ k) (hq : P ^ k ≤ 64) (hl : f.length = k + 1) (hm : nth f k = 1) : FldZ P (k : Int) f ↔ Dg P f ∧ IrrC P k f := by
  unfold FldZ
  rw [Int.toNat_natCast]
  exact ⟨fun h => ⟨h.2.dg, h.2.irr⟩, fun h => ⟨by omega, hP, hk, hq, hl, hm, h.1, h.2⟩⟩
end Go.Proofs.Ytcnjlkabdfcjdaa
