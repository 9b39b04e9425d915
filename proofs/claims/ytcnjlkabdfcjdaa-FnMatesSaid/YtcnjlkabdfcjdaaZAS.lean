/- Prime powers below 65: spec.l03Split, impl.PrimePower. No condition beyond those stated. -/
import Derived.Test.YtcnjlkabdfcjdaaZAR
set_option linter.unusedVariables false
set_option linter.unusedSimpArgs false
namespace Go.Proofs.Ytcnjlkabdfcjdaa
open Go.RowKit

/-- prime numbers and exponents of the prime powers up to 64 -/
def PKL : List (Int × Nat) := (PR.map fun p => (p, 1)) ++ [(2, 2), (2, 3), (2, 4), (2, 5), (2, 6), (3, 2), (3, 3), (5, 2), (7, 2)]
def splF (q : Int) : Int × Int := match PKL.find? (fun pk => pk.1 ^ pk.2 == q) with
  | some pk => (pk.1, (pk.2 : Int))
  | none => (0, 0)
theorem PKL_one : (PKL.all fun a => PKL.all fun b => !(a.1 ^ a.2 == b.1 ^ b.2) || (a.1 == b.1 && a.2 == b.2)) = true := by decide +kernel
theorem PKL_PR : (PKL.all fun a => PR.contains a.1 && decide (1 ≤ a.2 ∧ a.2 ≤ 6 ∧ 2 ≤ a.1 ^ a.2 ∧ a.1 ^ a.2 ≤ 64)) = true := by decide +kernel
theorem PKL_all : (PR.all fun p => (List.range 7).all fun k => k == 0 || decide (64 < p ^ k) || PKL.contains (p, k)) = true := by decide +kernel
theorem PKL_mem {p : Int} {k : Nat} (hp : p ∈ PR) (hk : 1 ≤ k) (hk6 : k ≤ 6) (h : p ^ k ≤ 64) : (p, k) ∈ PKL := by
  have := List.all_eq_true.1 (List.all_eq_true.1 PKL_all p hp) k (List.mem_range.2 (by omega))
  rw [Bool.or_eq_true, Bool.or_eq_true] at this
  rcases this with (h1 | h1) | h1
  · have : k = 0 := by simpa using h1
    omega
  · have := of_decide_eq_true h1; omega
  · simpa using h1
theorem splF_of {p : Int} {k : Nat} (h : (p, k) ∈ PKL) {q : Int} (hq : p ^ k = q) : splF q = (p, (k : Int)) := by
  subst hq
  unfold splF
  cases hf : PKL.find? (fun pk => pk.1 ^ pk.2 == p ^ k) with
  | none =>
    have := List.find?_eq_none.1 hf (p, k) h
    simp at this
  | some pk =>
    have h1 := List.find?_some hf
    have h2 := List.mem_of_find?_eq_some hf
    have h3 := List.all_eq_true.1 (List.all_eq_true.1 PKL_one pk h2) (p, k) h
    have h4 : (pk.1 ^ pk.2 == p ^ k) = true := h1
    rw [h4] at h3
    simp at h3
    simp [h3.1, h3.2]
theorem splF_none {q : Int} (h : ∀ p k, (p, k) ∈ PKL → p ^ k ≠ q) : splF q = (0, 0) := by
  unfold splF
  have : PKL.find? (fun pk => pk.1 ^ pk.2 == q) = none := List.find?_eq_none.2 fun pk hpk => by
    have := h pk.1 pk.2 hpk
    simpa using this
  rw [this]
theorem splF_cases (q : Int) : (∃ p k, (p, k) ∈ PKL ∧ p ^ k = q ∧ splF q = (p, (k : Int))) ∨ ((∀ p k, (p, k) ∈ PKL → p ^ k ≠ q) ∧ splF q = (0, 0)) := by
  by_cases h : ∃ p k, (p, k) ∈ PKL ∧ p ^ k = q
  · obtain ⟨p, k, h1, h2⟩ := h
    exact .inl ⟨p, k, h1, h2, splF_of h1 h2⟩
  · have h' : ∀ p k, (p, k) ∈ PKL → p ^ k ≠ q := fun p k h1 h2 => h ⟨p, k, h1, h2⟩
    exact .inr ⟨h', splF_none h'⟩
theorem PKL_ok {p : Int} {k : Nat} (h : (p, k) ∈ PKL) : p ∈ PR ∧ 1 ≤ k ∧ k ≤ 6 ∧ 2 ≤ p ^ k ∧ p ^ k ≤ 64 := by
  have := List.all_eq_true.1 PKL_PR (p, k) h
  rw [Bool.and_eq_true] at this
  obtain ⟨h1, h2⟩ := this
  exact ⟨by simpa using h1, of_decide_eq_true h2⟩
/-- who is a least divisor -/
def ldB (q p : Nat) : Bool := q % p == 0 && (List.range p).all fun d => decide (d < 2) || q % d != 0
theorem ld_table : ((List.range 65).all fun q => (List.range 65).all fun p => decide (q < 2) || decide (p < 2) || !ldB q p || (PR.contains (p : Int) && PKL.all fun pk => !(pk.1 ^ pk.2 == (q : Int)) || pk.1 == (p : Int))) = true := by decide +kernel
theorem rest_table : (PKL.all fun pk => (List.range 65).all fun n => (List.range 7).all fun k => decide (n < 2) || !((n : Int) * pk.1 ^ k == pk.1 ^ pk.2) || (n : Int) % pk.1 == 0) = true := by decide +kernel
theorem ld_ok {q p : Nat} (hq : 2 ≤ q) (hq2 : q ≤ 64) (hp : 2 ≤ p) (hp2 : p ≤ q) (hd : q % p = 0) (hl : ∀ d, 2 ≤ d → d < p → q % d ≠ 0) : (p : Int) ∈ PR ∧ ∀ p' k', (p', k') ∈ PKL → p' ^ k' = (q : Int) → p' = (p : Int) := by
  have h := List.all_eq_true.1 (List.all_eq_true.1 ld_table q (List.mem_range.2 (by omega))) p (List.mem_range.2 (by omega))
  have hb : ldB q p = true := by
    unfold ldB
    rw [Bool.and_eq_true]
    refine ⟨by simp [hd], List.all_eq_true.2 fun d hd2 => ?_⟩
    have := List.mem_range.1 hd2
    by_cases h2 : d < 2
    · simp [h2]
    · have := hl d (by omega) (by omega)
      simp [this]
  rw [hb] at h
  have e1 : decide (q < 2) = false := by simp; omega
  have e2 : decide (p < 2) = false := by simp; omega
  rw [e1, e2] at h
  simp only [Bool.not_true, Bool.false_or, Bool.and_eq_true] at h
  refine ⟨by simpa using h.1, fun p' k' hm he => ?_⟩
  have h3 := List.all_eq_true.1 h.2 (p', k') hm
  have h4 : (p' ^ k' == (q : Int)) = true := by simp [he]
  rw [h4] at h3
  simpa using h3
theorem rest_ok {p : Int} {k' : Nat} (h : (p, k') ∈ PKL) {n k : Nat} (hn : 2 ≤ n) (hn2 : n ≤ 64) (hk : k ≤ 6) (he : (n : Int) * p ^ k = p ^ k') : (n : Int) % p = 0 := by
  have h1 := List.all_eq_true.1 (List.all_eq_true.1 (List.all_eq_true.1 rest_table (p, k') h) n (List.mem_range.2 (by omega))) k (List.mem_range.2 (by omega))
  have e1 : decide (n < 2) = false := by simp; omega
  have e2 : ((n : Int) * p ^ k == p ^ k') = true := by simp [he]
  rw [e1, e2] at h1
  simpa using h1
set_option maxHeartbeats 800000 in
theorem l03Split_any (q : Int) (w : World) (hq : 2 ≤ q) (hq2 : q ≤ 64) :
    Calls Try.prog 121 #[.int .i64 q] w fun e w' => e = .returned (.tuple #[.int .i64 (splF q).1, .int .i64 (splF q).2]) ∧ w = w' := by
  have hin := l00In_any q 2 64 w
  rw [inB_mk ⟨hq, hq2⟩] at hin
  go_enter Try.func121, Try.ntmps121
  go_wp2_with fail
  refine hin.mono ?_
  rintro e w' ⟨rfl, rfl⟩
  clear hin
  obtain ⟨Q, rfl⟩ : ∃ Q : Nat, q = (Q : Int) := ⟨q.toNat, by omega⟩
  go_wp2
  go_loop [4] (fun i => ∃ p : Nat, 2 ≤ p ∧ p ≤ Q ∧ i = .int .i64 p ∧ ∀ d, 2 ≤ d → d < p → Q % d ≠ 0) (fun i => Q - (intOf i).toNat)
  case atStart => exact ⟨2, by omega, by omega, rfl, fun d h1 h2 => by omega⟩
  case round =>
    obtain ⟨p, hp2, hpQ, rfl, hno⟩ := hrel
    by_cases hd : Q % p = 0
    · have HL := Lib.hid (ld_ok (q := Q) (p := p) (by omega) (by omega) hp2 hpQ hd hno)
      have hd' : (((Q : Int) % (p : Int)) != 0) = false := by
        have : (Q : Int) % (p : Int) = 0 := by omega
        simp [this]
      clear hno
      have hp0 : (p : Int) ≠ 0 := by omega
      have hpI : 2 ≤ (p : Int) := by omega
      have hpI2 : (p : Int) ≤ 64 := by omega
      clear hd
      go_wp2
      go_loop [5, 6] (fun i x => ∃ k n : Nat, k ≤ 6 ∧ 1 ≤ n ∧ n ≤ Q ∧ i = .int .i64 k ∧ x = .int .i64 n ∧ (n : Int) * (p : Int) ^ k = (Q : Int)) (fun _ x => (intOf x).toNat)
      case atStart => exact ⟨0, Q, by omega, by omega, by omega, rfl, rfl, by rw [Int.pow_zero, Int.mul_one]⟩
      case round =>
        obtain ⟨k, n, hk6, hn1, hnQ, rfl, rfl, he⟩ := hrel
        have HE := Lib.hid he
        clear he
        by_cases hgt : 1 < n
        · by_cases hnd : n % p = 0
          · have hnd' : (((n : Int) % (p : Int)) != 0) = false := by
              have : (n : Int) % (p : Int) = 0 := by omega
              simp [this]
            have hdv : (n : Int) / (p : Int) = ((n / p : Nat) : Int) := by simp
            have hnp : n / p * p = n := Nat.div_mul_cancel (Nat.dvd_of_mod_eq_zero hnd)
            have hnp1 : 1 ≤ n / p := by
              rcases Nat.eq_zero_or_pos (n / p) with e | e
              · rw [e] at hnp; omega
              · exact e
            have hnp2 : n / p < n := Nat.div_lt_self (by omega) (by omega)
            have HNX := Lib.hid (show (((n / p : Nat) : Int)) * (p : Int) ^ (k + 1) = (Q : Int) from by
              rw [pow_succ_int, ← Int.mul_assoc, ← HE.out]
              congr 1
              exact_mod_cast hnp)
            have HK := Lib.hid (show k + 1 ≤ 6 from by
              have h1 : (p : Int) ^ (k + 1) ≤ 64 := by
                have h2 := HNX.out
                have h3 : 0 ≤ (p : Int) ^ (k + 1) := Int.le_of_lt (Int.pow_pos (by omega))
                have h4 : 1 * (p : Int) ^ (k + 1) ≤ ((n / p : Nat) : Int) * (p : Int) ^ (k + 1) := Int.mul_le_mul_of_nonneg_right (by omega) h3
                omega
              exact (pow_le64 hpI (by omega) h1).2)
            have HB := Lib.hid (show 1 ≤ n / p ∧ n / p ≤ Q ∧ n / p < n from ⟨hnp1, by omega, hnp2⟩)
            have HDV := Lib.hid hdv
            have hdv0 : 0 ≤ (n : Int) / (p : Int) := by omega
            have hdv1 : (n : Int) / (p : Int) ≤ 64 := by omega
            clear hnd hnp hnp1 hnp2 hdv
            go_wp2
            go_round
            case rel => exact ⟨k + 1, n / p, HK.out, HB.out.1, HB.out.2.1, by go_num, by rw [HDV.out], HNX.out⟩
            case measure => simp [intOf]; have := HB.out.2.2; omega
          · have hnd' : (((n : Int) % (p : Int)) != 0) = true := by
              have : ¬ (n : Int) % (p : Int) = 0 := by omega
              simp [this]
            have HS := Lib.hid (show splF (Q : Int) = (0, 0) from splF_none fun p' k' hm he => by
              have e1 := HL.out.2 p' k' hm he
              subst e1
              have h1 := rest_ok hm (n := n) (k := k) (by omega) (by omega) hk6 (by rw [HE.out, he])
              omega)
            clear hnd
            go_wp2
            go_ret2
            exact ⟨by rw [HS.out]; rfl, rfl⟩
        · obtain rfl : n = 1 := by omega
          have HS := Lib.hid (show splF (Q : Int) = ((p : Int), (k : Int)) from by
            have h1 := HE.out
            rw [show ((1 : Nat) : Int) = 1 from rfl, Int.one_mul] at h1
            have hk1 : 1 ≤ k := by
              rcases Nat.eq_zero_or_pos k with e | e
              · subst e; rw [Int.pow_zero] at h1; omega
              · exact e
            exact splF_of (PKL_mem HL.out.1 hk1 hk6 (by rw [h1]; omega)) h1)
          go_wp2
          go_ret2
          exact ⟨by rw [HS.out]; rfl, rfl⟩
    · have hd' : (((Q : Int) % (p : Int)) != 0) = true := by
        have : ¬ (Q : Int) % (p : Int) = 0 := by omega
        simp [this]
      have hlt : p < Q := by
        rcases Nat.lt_or_ge p Q with h | h
        · exact h
        · have : p = Q := by omega
          subst this
          simp at hd
      have HN := Lib.hid (show ∀ d, 2 ≤ d → d < p + 1 → Q % d ≠ 0 from fun d h1 h2 => by
        by_cases e : d = p
        · subst e; exact hd
        · exact hno d h1 (by omega))
      clear hno hd
      go_wp2
      go_round
      case rel => exact ⟨p + 1, by omega, by omega, by go_num, HN.out⟩
      case measure => simp [intOf]; omega
set_option maxHeartbeats 400000 in
theorem l03Split_out (q : Int) (w : World) (hq : ¬ (2 ≤ q ∧ q ≤ 64)) :
    Calls Try.prog 121 #[.int .i64 q] w fun e w' => e = .returned (.tuple #[.int .i64 0, .int .i64 0]) ∧ w = w' := by
  have hin := l00In_any q 2 64 w
  rw [inB_not hq] at hin
  go_enter Try.func121, Try.ntmps121
  go_wp2_with fail
  refine hin.mono ?_
  rintro e w' ⟨rfl, rfl⟩
  go_wp2
  go_ret2
  exact ⟨rfl, rfl⟩
end Go.Proofs.Ytcnjlkabdfcjdaa
