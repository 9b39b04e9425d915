/- Whether a ternary equation has a solution, by the symbols: both sides, and the law. No condition. -/
import Derived.Test.YtnmcmologlgccaaGreatZBA
import Derived.Test.YtnmcmologlgccaaGreatZAS
set_option linter.unusedVariables false
set_option linter.unusedSimpArgs false
namespace Go.Proofs.YtnmcmologlgccaaGreat
open Go.RowKit

def ab (a : Int) : Int := if a < 0 then -a else a
theorem Mil.ab {a : Int} (h : Mil a) : 1 ≤ ab a ∧ ab a ≤ 1000000 := by
  obtain ⟨h1, h2, h3⟩ := h
  unfold Go.Proofs.YtnmcmologlgccaaGreat.ab
  split <;> omega

set_option maxHeartbeats 400000 in
theorem abs_any (a : Int) (w : World) (ha : Mil a) : Calls Tryz.prog 71 #[.int .i64 a] w fun en w' => en = .returned (.int .i64 (ab a)) ∧ w = w' := by
  obtain ⟨_, h2, h3⟩ := ha
  by_cases h : a < 0
  · have H := Lib.hid (show ab a = -a by simp [ab, h])
    go_enter Tryz.func71, Tryz.ntmps71
    go_wp2
    go_ret
    exact ⟨by rw [H.out]; rfl, rfl⟩
  · have H := Lib.hid (show ab a = a by simp [ab, h])
    go_enter Tryz.func71, Tryz.ntmps71
    go_wp2
    go_ret
    exact ⟨by rw [H.out]; rfl, rfl⟩
/-- the places that matter, and whether the symbol is 1 at one of them -/
def good (a b p : Int) : Bool := hv a b p % 2 == 0
def facs2 (a b : Int) : List Int := facsOf (ab a) ++ facsOf (ab b)
def solves (a b : Int) : Bool := entB a && entB b && (good a b 0 && good a b 2 && (facs2 a b).all (good a b))
theorem facsOf_mem {n q : Int} (h : q ∈ facsOf n) : Prime q ∧ q ≤ 1000000 := by
  unfold facsOf at h
  split at h
  · rename_i hn
    have := inB_true hn
    exact ⟨facs_prime (by omega) h, by have := (facs_ge (by omega) h).2; omega⟩
  · simp at h
theorem facs2_mem {a b q : Int} (h : q ∈ facs2 a b) : Prime q ∧ q ≤ 1000000 := (List.mem_append.1 h).elim facsOf_mem facsOf_mem
theorem facsOf_len (n : Int) : (facsOf n).length ≤ 19 := by
  unfold facsOf
  split
  · rename_i hn
    have := inB_true hn
    exact facs_len (by omega) this.2
  · simp
theorem nth_memT {l : List Int} {k : Nat} (h : k < l.length) : nth l k ∈ l := by rw [nth_get h]; exact List.getElem_mem h
/-- all of the first k places are good -/
def goodTo (a b : Int) (l : List Int) (k : Nat) : Prop := ∀ j, j < k → good a b (nth l j) = true
theorem goodTo_all {a b : Int} {l : List Int} (h : goodTo a b l l.length) : l.all (good a b) = true := by
  rw [List.all_eq_true]
  intro x hx
  obtain ⟨i, hi, rfl⟩ := List.mem_iff_getElem.1 hx
  have := h i hi
  rwa [nth_get hi] at this
theorem goodTo_not {a b : Int} {l : List Int} {k : Nat} (hk : k < l.length) (h : good a b (nth l k) = false) : l.all (good a b) = false := by
  rw [List.all_eq_false]
  exact ⟨nth l k, nth_memT hk, by simp [h]⟩
theorem goodTo_step {a b : Int} {l : List Int} {k : Nat} (h : goodTo a b l k) (hk : good a b (nth l k) = true) : goodTo a b l (k + 1) := fun j hj => by
  rcases Nat.lt_succ_iff_lt_or_eq.1 hj with h1 | h1
  · exact h j h1
  · rw [h1]; exact hk
theorem good_yes {a b p : Int} (h : good a b p = true) : sgn (hv a b p) = 1 ∧ (hv a b p).tmod 2 = 0 := by
  simp [good] at h
  exact ⟨by simp [sgn, h], Int.tmod_eq_zero_of_dvd (Int.dvd_of_emod_eq_zero h)⟩
theorem good_no {a b p : Int} (h : good a b p = false) : sgn (hv a b p) = -1 ∧ (hv a b p).tmod 2 ≠ 0 := by
  simp [good] at h
  exact ⟨by simp [sgn, h], fun e => by have := Int.emod_eq_zero_of_dvd (Int.dvd_of_tmod_eq_zero e); omega⟩

theorem places_mem {a b q : Int} (h : q ∈ [0, 2] ++ facsOf (ab a) ++ facsOf (ab b)) : (q = 0 ∨ 2 ≤ q) ∧ q ≤ 1000000 := by
  rcases List.mem_append.1 h with h | h
  · rcases List.mem_append.1 h with h | h
    · simp at h; omega
    · have := facsOf_mem h; exact ⟨.inr this.1.1, this.2⟩
  · have := facsOf_mem h; exact ⟨.inr this.1.1, this.2⟩
theorem solves_places {a b : Int} : (good a b 0 && good a b 2 && (facs2 a b).all (good a b)) = ([0, 2] ++ facsOf (ab a) ++ facsOf (ab b)).all (good a b) := by
  simp [facs2, Bool.and_assoc]

set_option maxHeartbeats 1000000 in
theorem impl_SolvesTernary (a b : Int) (w : World) :
    Calls Tryz.prog 50 #[.int .i64 a, .int .i64 b] w fun en w' => en = .returned (.bool (solves a b)) ∧ Below w.heap.size w w' := by
  by_cases h1 : entB a = true
  · by_cases h2 : entB b = true
    · have HR := Lib.hid (show solves a b = ([0, 2] ++ facsOf (ab a) ++ facsOf (ab b)).all (good a b) by rw [← solves_places]; simp [solves, h1, h2])
      have ha := entB_mil h1
      have hb := entB_mil h2
      go_enter Tryz.func50, Tryz.ntmps50
      go_wp2_with (go_at_call 68; refine (isEntry_any _ _).mono ?_; rintro e w' ⟨rfl, rfl⟩)
      refine (abs_any a _ ha).mono ?_
      rintro e w' ⟨rfl, rfl⟩
      have hL := OI.lit w w.heap.size 2 [0, 2] (Nat.le_refl _) (by simp) (fun z hz => by simp at hz; rcases hz with rfl | rfl <;> exact ⟨by omega, by omega⟩)
      have hb0 := below_alloc w (.cells #[.int .i64 0, .int .i64 2] 2)
      go_wp2_with fail
      refine (impl_FactorsOf (ab a) _).mono ?_
      rintro e w1 ⟨A1, n1, c1, rfl, ho1, hb1⟩
      have hL1 := hL.reads.keep hb1
      have hw1 := below_then hb0 hb1
      go_wp2_with fail
      refine (abs_any b _ hb).mono ?_
      rintro e w' ⟨rfl, rfl⟩
      go_wp2_with fail
      refine (impl_FactorsOf (ab b) _).mono ?_
      rintro e w2 ⟨A2, n2, c2, rfl, ho2, hb2⟩
      have hL2 := hL1.keep hb2
      have r1 := ho1.reads.keep hb2
      have r2 := ho2.reads
      have hw2 := below_then hw1 hb2
      have hn1 : n1 ≤ 19 := by have := ho1.len; have := facsOf_len (ab a); omega
      have hn2 : n2 ≤ 19 := by have := ho2.len; have := facsOf_len (ab b); omega
      clear hL hb0 hb1 hL1 hw1 ho1 ho2 hb2
      go_wp2_with fail
      have hb3 := below_alloc w2 (.cells #[.slice (some ⟨w.heap.size, 0, none⟩) 2 2, .slice A1 n1 c1, .slice A2 n2 c2] 36)
      refine (concat3 _ A1 A2 2 n1 n2 2 c1 c2 [0, 2] (facsOf (ab a)) (facsOf (ab b)) w2.heap.size _ (Blk.new w2 _ _) (hL2.keep hb3) (r1.keep hb3) (r2.keep hb3) (by omega) (by omega) (by omega)).mono ?_
      rintro e w3 ⟨A3, n3, c3, rfl, ho3, hb4⟩
      have hw3 := below_then (below_then hw2 hb3) hb4
      have hr := ho3.reads
      have hlen := Lib.hid hr.len
      have hn3 : n3 ≤ 40 := by have e := hr.len; have e1 := r1.len; have e2 := r2.len; simp at e; omega
      obtain ⟨L, hLd⟩ : ∃ L, L = [0, 2] ++ facsOf (ab a) ++ facsOf (ab b) := ⟨_, rfl⟩
      rw [← hLd] at hr
      have hq : ∀ k, k < n3 → (nth L k = 0 ∨ 2 ≤ nth L k) ∧ nth L k ≤ 1000000 := fun k hk => places_mem (a := a) (b := b) (by rw [← hLd]; exact nth_memT (by rw [hr.len]; exact hk))
      have HQ := Lib.hid hq
      have HL := Lib.hid hLd
      have hll := Lib.hid hr.len
      clear hq hLd hlen ho3 hb3 hb4 hw2 hL2 r1 r2
      go_wp2_with fail
      go_loop [6, 25] (fun _ i => ∃ k : Nat, k ≤ n3 ∧ i = .int .i64 k ∧ goodTo a b L k) (fun _ i => n3 - (intOf i).toNat)
      case atStart => exact ⟨0, Nat.zero_le _, rfl, fun j h => absurd h (by omega)⟩
      case round =>
        obtain ⟨k, hk, rfl, hg⟩ := hrel
        by_cases hlt : k < n3
        · obtain ⟨ad, rfl, hc, hi⟩ := hr.get hlt
          obtain ⟨hp1, hp2⟩ := HQ.out k hlt
          have HP := Lib.hid hp1
          clear hi hp1
          by_cases hgd : good a b (nth L k) = true
          · have sp : ((hv a b (nth L k)).tmod 2 != 0) = false := by simp [(good_yes hgd).2]
            have HG := Lib.hid (goodTo_step hg hgd)
            clear hg hgd
            go_wp2_with (go_at_call 72; refine (impl_hilbert a b _ _ ha hb HP.out hp2).mono ?_; rintro e w' ⟨rfl, rfl⟩)
            go_round
            case rel => exact ⟨k + 1, by omega, by go_num, HG.out⟩
            case measure => simp [intOf]; omega
          · have hgd' : good a b (nth L k) = false := by simpa using hgd
            have sp : ((hv a b (nth L k)).tmod 2 != 0) = true := by simpa using (good_no hgd').2
            have HG := Lib.hid (goodTo_not (l := L) (k := k) (by rw [hll.out]; exact hlt) hgd')
            clear hg hgd hgd'
            go_wp2_with (go_at_call 72; refine (impl_hilbert a b _ _ ha hb HP.out hp2).mono ?_; rintro e w' ⟨rfl, rfl⟩)
            go_ret
            exact ⟨by rw [HR.out, ← HL.out, HG.out]; rfl, hw3⟩
        · have HG := Lib.hid (goodTo_all (a := a) (b := b) (l := L) (fun j hj => hg j (by rw [hll.out] at hj; omega)))
          clear hg
          go_wp2_with fail
          go_ret
          exact ⟨by rw [HR.out, ← HL.out, HG.out]; rfl, hw3⟩
    · have h2' : entB b = false := by simpa using h2
      have HR := Lib.hid (show solves a b = false by simp [solves, h2'])
      clear h2
      go_enter Tryz.func50, Tryz.ntmps50
      go_wp2_with (go_at_call 68; refine (isEntry_any _ _).mono ?_; rintro e w' ⟨rfl, rfl⟩)
      go_ret
      exact ⟨by rw [HR.out]; rfl, Below.refl _ _⟩
  · have h1' : entB a = false := by simpa using h1
    have HR := Lib.hid (show solves a b = false by simp [solves, h1'])
    clear h1
    go_enter Tryz.func50, Tryz.ntmps50
    go_wp2_with (go_at_call 68; refine (isEntry_any _ _).mono ?_; rintro e w' ⟨rfl, rfl⟩)
    go_ret
    exact ⟨by rw [HR.out]; rfl, Below.refl _ _⟩
end Go.Proofs.YtnmcmologlgccaaGreat
/- The conditions that fail for parameters in range: both sides. No condition beyond those stated. -/
namespace Go.Proofs.YtnmcmologlgccaaGreat
open Go.RowKit

/-- whether a number is the square of one up to 1000 -/
def isSq (n : Int) : Bool := (List.range 1001).any fun x => ((x : Int) * x == n)
theorem isSq_yes {n : Int} {x : Nat} (hx : x ≤ 1000) (h : (x : Int) * x = n) : isSq n = true := by
  unfold isSq
  rw [List.any_eq_true]
  exact ⟨x, List.mem_range.2 (by omega), by simp [h]⟩
theorem isSq_no {n : Int} {x : Nat} (h : ∀ j : Nat, j < x → (j : Int) * j ≠ n) (hx : n < (x : Int) * x) : isSq n = false := by
  unfold isSq
  rw [List.any_eq_false]
  intro j _
  simp only [beq_iff_eq]
  rcases Nat.lt_or_ge j x with h1 | h1
  · exact h j h1
  · have : (x : Int) * x ≤ (j : Int) * j := Int.mul_le_mul (by omega) (by omega) (by omega) (by omega)
    omega

set_option maxHeartbeats 400000 in
theorem isSquare_any (n : Int) (w : World) (h1 : -1000 ≤ n) (h2 : n ≤ 1000) :
    Calls Tryz.prog 49 #[.int .i64 n] w fun en w' => en = .returned (.bool (isSq n)) ∧ w = w' := by
  go_enter Tryz.func49, Tryz.ntmps49
  go_wp2
  go_loop [3] (fun i => ∃ x : Nat, i = .int .i64 x ∧ x ≤ 1000 ∧ ∀ j : Nat, j < x → (j : Int) * j ≠ n) (fun i => 1001 - (intOf i).toNat)
  case atStart => exact ⟨0, rfl, by omega, fun j h => absurd h (by omega)⟩
  case round =>
    obtain ⟨x, rfl, hx, hn⟩ := hrel
    have hm := mul_bd' (a := (x : Int)) (b := (x : Int)) (A := 1000) (B := 1000) (by omega) (by omega) (by omega) (by omega)
    have m1 := hm.1
    have m2 := hm.2
    clear hm
    by_cases hle : (x : Int) * x < n
    · have hx2 : x ≤ 999 := by
        rcases Nat.lt_or_ge x 1000 with h | h
        · omega
        · have : (1000 : Int) * 1000 ≤ (x : Int) * x := Int.mul_le_mul (by omega) (by omega) (by omega) (by omega)
          omega
      have HN := Lib.hid (show ∀ j : Nat, j < x + 1 → (j : Int) * j ≠ n from fun j hj => by
        rcases Nat.lt_succ_iff_lt_or_eq.1 hj with h | h
        · exact hn j h
        · rw [h]; omega)
      clear hn
      go_wp2
      go_round
      case rel => exact ⟨x + 1, by go_num, by omega, HN.out⟩
      case measure => simp [intOf]; omega
    · by_cases he : (x : Int) * x = n
      · have HE := Lib.hid (isSq_yes hx he)
        have he' : ((x : Int) * x == n) = true := by simp [he]
        have hge : n ≤ (x : Int) * x := by omega
        clear he hn
        go_wp2
        go_ret
        exact ⟨by rw [HE.out]; rfl, rfl⟩
      · have he' : ((x : Int) * x == n) = false := by simp [he]
        have HE := Lib.hid (isSq_no hn (by omega))
        clear he hn
        go_wp2
        go_ret
        exact ⟨by rw [HE.out]; rfl, rfl⟩
/-- the conditions that fail -/
def fails (v k l : Int) : List Int :=
  if okR v k l && okB v k l then
    if nB v k l < v then [3]
    else if nB v k l = v then
      (if v % 2 = 0 then (if isSq (k - l) then [] else [4])
       else if solves (k - l) (if v % 4 = 3 then -l else l) then [] else [5])
    else []
  else (if okR v k l then [] else [1]) ++ (if okB v k l then [] else [2])

end Go.Proofs.YtnmcmologlgccaaGreat
