/- Whether a field is valid, on both sides. No condition beyond those stated. -/
import Derived.Test.YtdkbcjdimhgmnaaGreatSJL
import Derived.Test.YtdkbcjdimhgmnaaGreatSGI
set_option linter.unusedVariables false
set_option linter.unusedSimpArgs false
namespace Go.Proofs.YtdkbcjdimhgmnaaGreat
open Go.RowKit
def FldZ (P D : Int) (f : List Int) : Prop := 1 ≤ D ∧ FldOk P D.toNat f
theorem PR_isP : (PR.all fun p => isP p) = true := by decide +kernel
theorem isP_PR : ((List.range 65).all fun p => !isP (p : Int) || PR.contains (p : Int)) = true := by decide +kernel
theorem isP_low {P : Int} (h : isP P = true) : 2 ≤ P ∧ P ≤ 1000000 := by
  unfold isP at h
  rw [Bool.and_eq_true] at h
  exact inB_true h.1
theorem isP_mem {P : Int} (h : isP P = true) (h2 : P ≤ 64) : P ∈ PR := by
  have h0 := (isP_low h).1
  have := List.all_eq_true.1 isP_PR P.toNat (List.mem_range.2 (by omega))
  rw [Int.toNat_of_nonneg (by omega), h] at this
  simpa using this
theorem mem_isP {P : Int} (h : P ∈ PR) : isP P = true := List.all_eq_true.1 PR_isP P h
theorem fldZ_pr {P D : Int} {f : List Int} (h : FldZ P D f) : isP P = true := mem_isP h.2.pr
theorem pow_le64 {P : Int} {k : Nat} (hP : 2 ≤ P) (hk : 1 ≤ k) (h : P ^ k ≤ 64) : P ≤ 64 ∧ k ≤ 6 := by
  constructor
  · have := pow_mono (p := P) (by omega) hk
    rw [Int.pow_succ, Int.pow_zero, Int.one_mul] at this
    omega
  · refine Classical.byContradiction fun hn => ?_
    have h7 := pow_mono (p := P) (by omega) (show 7 ≤ k by omega)
    have h2 : ∀ n : Nat, (2 : Int) ^ n ≤ P ^ n := fun n => by
      induction n with
      | zero => simp
      | succ n ih =>
        rw [Int.pow_succ, Int.pow_succ]
        exact Int.mul_le_mul ih hP (by omega) (Int.le_of_lt (Int.pow_pos (by omega)))
    have := h2 7
    have e : (2 : Int) ^ 7 = 128 := by decide
    omega
def dgTo (p : Int) (f : List Int) (j : Nat) : Prop := ∀ t, t < j → 0 ≤ nth f t ∧ nth f t < p
theorem fldZ_iff {P : Int} {k : Nat} {f : List Int} (hP : P ∈ PR) (hk : 1 ≤ k) (hq : P ^ k ≤ 64) (hl : f.length = k + 1) (hm : nth f k = 1) : FldZ P (k : Int) f ↔ Dg P f ∧ IrrC P k f := by
  unfold FldZ
  rw [Int.toNat_natCast]
  exact ⟨fun h => ⟨h.2.dg, h.2.irr⟩, fun h => ⟨by omega, hP, hk, hq, hl, hm, h.1, h.2⟩⟩
set_option maxRecDepth 100000 in
set_option maxHeartbeats 800000 in
theorem validField_any (P D : Int) (A : Option Addr) (n c : Nat) (f : List Int) (w : World) (ha : RI w A n f) (hP : I64 P) (hD : I64 D) (hn : n ≤ 9223372036854775807) :
    Calls Tryz.prog 152 #[.agg #[.int .i64 P, .int .i64 D, .slice A n c]] w (RetB w (tB (FldZ P D f))) := by
  have hla := Lib.hid ha.len
  have hb0 := below_alloc w (.cells #[.int .i64 P, .int .i64 D, .slice A n c] 31)
  have X := Blk.new w 31 #[.int .i64 P, .int .i64 D, .slice A n c]
  have hP1 := hP.1
  have hP2 := hP.2
  have hD1 := hD.1
  have hD2 := hD.2
  have hpr := impl_IsPrime P (w.alloc (.cells #[.int .i64 P, .int .i64 D, .slice A n c] 31))
  cases hip : isP P with
  | false =>
    have HF := Lib.hid (show tB (FldZ P D f) = false from tB_no fun h => by rw [fldZ_pr h] at hip; cases hip)
    rw [hip] at hpr
    go_enter Tryz.func152, Tryz.ntmps152
    go_wp2_with fail
    refine hpr.mono ?_
    rintro e w1 ⟨rfl, hb1⟩
    go_wp2
    go_ret
    exact ⟨by rw [HF.out]; rfl, hb0.trans (hb1.mono hb0.size)⟩
  | true =>
    rw [hip] at hpr
    obtain ⟨p2, p6⟩ := isP_low hip
    go_enter Tryz.func152, Tryz.ntmps152
    go_wp2_with fail
    refine hpr.mono ?_
    rintro e w1 ⟨rfl, hb1⟩
    have X1 := X.after hb1
    have hw1 := hb0.trans (hb1.mono hb0.size)
    obtain ⟨x0, x1, x2⟩ := X1.cells3
    clear hpr hb0 hb1 X
    by_cases hd : D < 1
    · have HF := Lib.hid (show tB (FldZ P D f) = false from tB_no fun h => by have := h.1; omega)
      go_wp2
      go_ret
      exact ⟨by rw [HF.out]; rfl, hw1⟩
    · obtain ⟨k, rfl⟩ : ∃ k : Nat, D = (k : Int) := ⟨D.toNat, by omega⟩
      have hk1 : 1 ≤ k := by omega
      go_wp2_with fail
      refine (powerUpTo_any P k 64 w1 p2 p6 (by omega) hD2 (by omega) (by omega)).mono ?_
      rintro e w' ⟨r, rfl, hcap, rfl⟩
      rw [Int.toNat_natCast] at hcap
      by_cases hr : r ≤ 64
      · have hq := hcap.iff.1 hr
        obtain ⟨p64, k6⟩ := pow_le64 p2 hk1 hq
        have hmem := isP_mem hip p64
        clear hcap hip
        have HQ := Lib.hid hq
        have HM := Lib.hid hmem
        clear hq hmem
        by_cases hnk : n = k + 1
        · have HNK := Lib.hid hnk
          have hkn : k < n := by omega
          have hn7 : n ≤ 7 := by omega
          have hnI : (n : Int) = (k : Int) + 1 := by omega
          have hn1 : n - 1 = k := by omega
          have HNI := Lib.hid hnI
          clear hnk hnI hn1
          obtain ⟨ad, rfl, hck, ik1, ik2⟩ := ha.get (k := k) (by omega)
          have hck1 := below_cell hw1 hck
          have hnk' : ((n : Int) != (k : Int) + 1) = false := by simp [HNI.out]
          have ew : IntKind.i64.wrap ((k : Int) + 1) = (k : Int) + 1 := IntWalk.i64_in _ (by omega)
          have kk0 : 0 ≤ (k : Int) := by omega
          have kk1 : (k : Int) < (n : Int) := by omega
          have hsz : ∀ q, Calls Tryz.prog 70 #[.slice (some ad) n c] (w1.drewN q) fun e w'' => e = .returned (.int .i64 (n : Int)) ∧ ∃ m, w'' = w1.drewN m := fun q => Quiet.call ((sizeI_any (some ad) n c _ hn).mono fun _ _ h => Quiet.of_same h)
          by_cases hone : nth f k = 1
          · rw [hone] at hck1
            have HIFF := Lib.hid (fldZ_iff (f := f) HM.out hk1 HQ.out (hla.out.trans HNK.out) hone)
            have hq64 : P ^ k ≤ 64 := HQ.out
            have HQ6 := Lib.hid hq64
            clear hq64
            go_wp2
            go_quiet ((go_at_call 70; exact hsz _))
            generalize hwx : w1.drewN _ = wx
            have hbx : Below w1.heap.size w1 wx := hwx ▸ below_drewn' _ _ _
            clear hwx hsz x0 x1 x2 hck1
            have X2 := X1.after hbx
            have hwx := hw1.trans (hbx.mono hw1.size)
            clear hbx hck ik1 ik2
            obtain ⟨x0, x1, x2⟩ := X2.cells3
            have hri := ha.keep hwx
            go_wp2
            go_loop [4, 41] (fun _ i => ∃ j : Nat, j ≤ n ∧ i = .int .i64 j ∧ dgTo P f j) (fun _ i => n - (intOf i).toNat)
            case atStart => exact ⟨0, Nat.zero_le _, rfl, fun t h => by omega⟩
            case round =>
              obtain ⟨j, hj, rfl, hdg⟩ := hrel
              have HDG := Lib.hid hdg
              clear hdg
              by_cases hlt : j < n
              · obtain ⟨ad', hA, hcj, ij1, ij2⟩ := hri.get hlt
                cases hA
                by_cases hin : 0 ≤ nth f j ∧ nth f j ≤ P - 1
                · have HN := Lib.hid (show dgTo P f (j + 1) from fun t ht => by
                    by_cases e : t = j
                    · subst e; omega
                    · exact HDG.out t (by omega))
                  have hwi := within_any (nth f j) 0 (P - 1) wx
                  rw [inB_mk hin] at hwi
                  clear hin
                  generalize nth f j = z at *
                  go_wp2_with fail
                  refine hwi.mono ?_
                  rintro e w' ⟨rfl, rfl⟩
                  go_wp2
                  go_round
                  case rel => exact ⟨j + 1, by omega, by go_num, HN.out⟩
                  case measure => simp [intOf]; omega
                · have HF := Lib.hid (show tB (FldZ P (k : Int) f) = false from tB_no fun h => by
                    have := (HIFF.out.1 h).1 j
                    omega)
                  have hwi := within_any (nth f j) 0 (P - 1) wx
                  rw [inB_not hin] at hwi
                  clear hin
                  generalize nth f j = z at *
                  go_wp2_with fail
                  refine hwi.mono ?_
                  rintro e w' ⟨rfl, rfl⟩
                  go_wp2
                  go_ret
                  exact ⟨by rw [HF.out]; rfl, hwx⟩
              · obtain rfl : n = j := by omega
                have hDg : Dg P f := Dg.of (by omega) fun t ht => HDG.out t (by rw [hla.out] at ht; exact ht)
                have hir := irreducible_any (some ad) n c f P k wx hri HNK.out hDg p2 p64 HQ6.out k6
                have HT := Lib.hid (show tB (IrrC P k f) = tB (FldZ P (k : Int) f) from by
                  by_cases hi : IrrC P k f
                  · rw [tB_yes hi, tB_yes (HIFF.out.2 ⟨hDg, hi⟩)]
                  · rw [tB_no hi, tB_no fun h => hi (HIFF.out.1 h).2])
                clear hDg
                go_wp2_with fail
                refine hir.mono ?_
                rintro e w3 ⟨rfl, hb3⟩
                go_wp2
                go_ret
                exact ⟨by rw [HT.out]; rfl, hwx.trans (hb3.mono hwx.size)⟩
          · have HF := Lib.hid (show tB (FldZ P (k : Int) f) = false from tB_no fun h => by have := h.2.mon; rw [Int.toNat_natCast] at this; exact hone this)
            have hone' : (nth f k != 1) = true := by simp [hone]
            clear hone
            generalize nth f k = z at *
            go_wp2
            go_quiet ((go_at_call 70; exact hsz _))
            go_wp2
            go_ret
            exact ⟨by rw [HF.out]; rfl, hw1.trans (below_drewn' _ _ _)⟩
        · have HF := Lib.hid (show tB (FldZ P (k : Int) f) = false from tB_no fun h => by have := h.2.len; rw [Int.toNat_natCast, hla.out] at this; exact hnk this)
          have hnk' : ((n : Int) != (k : Int) + 1) = true := by simp; omega
          have ew : IntKind.i64.wrap ((k : Int) + 1) = (k : Int) + 1 := IntWalk.i64_in _ (by omega)
          go_wp2
          go_quiet ((go_at_call 70; exact Quiet.call ((sizeI_any A n c _ hn).mono fun _ _ h => Quiet.of_same h)))
          go_wp2
          go_ret
          exact ⟨by rw [HF.out]; rfl, hw1.trans (below_drewn' _ _ _)⟩
      · have HF := Lib.hid (show tB (FldZ P (k : Int) f) = false from tB_no fun h => hr (hcap.iff.2 (by have := h.2.q64; rwa [Int.toNat_natCast] at this)))
        clear hcap
        go_wp2
        go_ret
        exact ⟨by rw [HF.out]; rfl, hw1⟩
def PKL : List (Int × Nat) := (PR.map fun p => (p, 1)) ++ [(2, 2), (2, 3), (2, 4), (2, 5), (2, 6), (3, 2), (3, 3), (5, 2), (7, 2)]
def splF (q : Int) : Int × Int := match PKL.find? (fun pk => pk.1 ^ pk.2 == q) with
  | some pk => (pk.1, (pk.2 : Int))
  | none => (0, 0)
theorem PKL_one : (PKL.all fun a => PKL.all fun b => !(a.1 ^ a.2 == b.1 ^ b.2) || (a.1 == b.1 && a.2 == b.2)) = true := by decide +kernel
theorem PKL_PR : (PKL.all fun a => PR.contains a.1 && decide (1 ≤ a.2 ∧ a.2 ≤ 6 ∧ 2 ≤ a.1 ^ a.2 ∧ a.1 ^ a.2 ≤ 64)) = true := by decide +kernel
theorem PKL_all : (PR.all fun p => (List.range 7).all fun k => k == 0 || decide (64 < p ^ k) || PKL.contains (p, k)) = true := by decide +kernel
theorem PKL_mem {p : Int} {k : Nat} (hp : p ∈ PR) (hk : 1 ≤ k) (hk6 : k ≤ 6) (h : p ^ k ≤ 64) : (p, k) ∈ PKL := by
  have := List.all_eq_true.1 (List.all_eq_true.1 PKL_all p hp) k (List.mem_range.2 (by omega))
  rw [Bool.or_eq_true, Bool.or_eq_true] at this
  rcases this with (h1 | h1) | h1
  · have : k = 0 := by simpa using h1
    omega
  · have := of_decide_eq_true h1; omega
  · simpa using h1
theorem splF_of {p : Int} {k : Nat} (h : (p, k) ∈ PKL) {q : Int} (hq : p ^ k = q) : splF q = (p, (k : Int)) := by
  subst hq
  unfold splF
  cases hf : PKL.find? (fun pk => pk.1 ^ pk.2 == p ^ k) with
  | none =>
    have := List.find?_eq_none.1 hf (p, k) h
    simp at this
  | some pk =>
    have h1 := List.find?_some hf
    have h2 := List.mem_of_find?_eq_some hf
    have h3 := List.all_eq_true.1 (List.all_eq_true.1 PKL_one pk h2) (p, k) h
    have h4 : (pk.1 ^ pk.2 == p ^ k) = true := h1
    rw [h4] at h3
    simp at h3
    simp [h3.1, h3.2]
theorem splF_none {q : Int} (h : ∀ p k, (p, k) ∈ PKL → p ^ k ≠ q) : splF q = (0, 0) := by
  unfold splF
  have : PKL.find? (fun pk => pk.1 ^ pk.2 == q) = none := List.find?_eq_none.2 fun pk hpk => by
    have := h pk.1 pk.2 hpk
    simpa using this
  rw [this]
theorem splF_cases (q : Int) : (∃ p k, (p, k) ∈ PKL ∧ p ^ k = q ∧ splF q = (p, (k : Int))) ∨ ((∀ p k, (p, k) ∈ PKL → p ^ k ≠ q) ∧ splF q = (0, 0)) := by
  by_cases h : ∃ p k, (p, k) ∈ PKL ∧ p ^ k = q
  · obtain ⟨p, k, h1, h2⟩ := h
    exact .inl ⟨p, k, h1, h2, splF_of h1 h2⟩
  · have h' : ∀ p k, (p, k) ∈ PKL → p ^ k ≠ q := fun p k h1 h2 => h ⟨p, k, h1, h2⟩
    exact .inr ⟨h', splF_none h'⟩
theorem PKL_ok {p : Int} {k : Nat} (h : (p, k) ∈ PKL) : p ∈ PR ∧ 1 ≤ k ∧ k ≤ 6 ∧ 2 ≤ p ^ k ∧ p ^ k ≤ 64 := by
  have := List.all_eq_true.1 PKL_PR (p, k) h
  rw [Bool.and_eq_true] at this
  obtain ⟨h1, h2⟩ := this
  exact ⟨by simpa using h1, of_decide_eq_true h2⟩
def ldB (q p : Nat) : Bool := q % p == 0 && (List.range p).all fun d => decide (d < 2) || q % d != 0
theorem ld_table : ((List.range 65).all fun q => (List.range 65).all fun p => decide (q < 2) || decide (p < 2) || !ldB q p || (PR.contains (p : Int) && PKL.all fun pk => !(pk.1 ^ pk.2 == (q : Int)) || pk.1 == (p : Int))) = true := by decide +kernel
theorem rest_table : (PKL.all fun pk => (List.range 65).all fun n => (List.range 7).all fun k => decide (n < 2) || !((n : Int) * pk.1 ^ k == pk.1 ^ pk.2) || (n : Int) % pk.1 == 0) = true := by decide +kernel
theorem ld_ok {q p : Nat} (hq : 2 ≤ q) (hq2 : q ≤ 64) (hp : 2 ≤ p) (hp2 : p ≤ q) (hd : q % p = 0) (hl : ∀ d, 2 ≤ d → d < p → q % d ≠ 0) : (p : Int) ∈ PR ∧ ∀ p' k', (p', k') ∈ PKL → p' ^ k' = (q : Int) → p' = (p : Int) := by
  have h := List.all_eq_true.1 (List.all_eq_true.1 ld_table q (List.mem_range.2 (by omega))) p (List.mem_range.2 (by omega))
  have hb : ldB q p = true := by
    unfold ldB
    rw [Bool.and_eq_true]
    refine ⟨by simp [hd], List.all_eq_true.2 fun d hd2 => ?_⟩
    have := List.mem_range.1 hd2
    by_cases h2 : d < 2
    · simp [h2]
    · have := hl d (by omega) (by omega)
      simp [this]
  rw [hb] at h
  have e1 : decide (q < 2) = false := by simp; omega
  have e2 : decide (p < 2) = false := by simp; omega
  rw [e1, e2] at h
  simp only [Bool.not_true, Bool.false_or, Bool.and_eq_true] at h
  refine ⟨by simpa using h.1, fun p' k' hm he => ?_⟩
  have h3 := List.all_eq_true.1 h.2 (p', k') hm
  have h4 : (p' ^ k' == (q : Int)) = true := by simp [he]
  rw [h4] at h3
  simpa using h3
theorem rest_ok {p : Int} {k' : Nat} (h : (p, k') ∈ PKL) {n k : Nat} (hn : 2 ≤ n) (hn2 : n ≤ 64) (hk : k ≤ 6) (he : (n : Int) * p ^ k = p ^ k') : (n : Int) % p = 0 := by
  have h1 := List.all_eq_true.1 (List.all_eq_true.1 (List.all_eq_true.1 rest_table (p, k') h) n (List.mem_range.2 (by omega))) k (List.mem_range.2 (by omega))
  have e1 : decide (n < 2) = false := by simp; omega
  have e2 : ((n : Int) * p ^ k == p ^ k') = true := by simp [he]
  rw [e1, e2] at h1
  simpa using h1
set_option maxHeartbeats 800000 in
theorem l03Split_any (q : Int) (w : World) (hq : 2 ≤ q) (hq2 : q ≤ 64) :
    Calls Tryz.prog 107 #[.int .i64 q] w fun e w' => e = .returned (.tuple #[.int .i64 (splF q).1, .int .i64 (splF q).2]) ∧ w = w' := by
  have hin := l00In_any q 2 64 w
  rw [inB_mk ⟨hq, hq2⟩] at hin
  go_enter Tryz.func107, Tryz.ntmps107
  go_wp2_with fail
  refine hin.mono ?_
  rintro e w' ⟨rfl, rfl⟩
  clear hin
  obtain ⟨Q, rfl⟩ : ∃ Q : Nat, q = (Q : Int) := ⟨q.toNat, by omega⟩
  go_wp2
  go_loop [4] (fun i => ∃ p : Nat, 2 ≤ p ∧ p ≤ Q ∧ i = .int .i64 p ∧ ∀ d, 2 ≤ d → d < p → Q % d ≠ 0) (fun i => Q - (intOf i).toNat)
  case atStart => exact ⟨2, by omega, by omega, rfl, fun d h1 h2 => by omega⟩
  case round =>
    obtain ⟨p, hp2, hpQ, rfl, hno⟩ := hrel
    by_cases hd : Q % p = 0
    · have HL := Lib.hid (ld_ok (q := Q) (p := p) (by omega) (by omega) hp2 hpQ hd hno)
      have hd' : (((Q : Int) % (p : Int)) != 0) = false := by
        have : (Q : Int) % (p : Int) = 0 := by omega
        simp [this]
      clear hno
      have hp0 : (p : Int) ≠ 0 := by omega
      have hpI : 2 ≤ (p : Int) := by omega
      have hpI2 : (p : Int) ≤ 64 := by omega
      clear hd
      go_wp2
      go_loop [5, 6] (fun i x => ∃ k n : Nat, k ≤ 6 ∧ 1 ≤ n ∧ n ≤ Q ∧ i = .int .i64 k ∧ x = .int .i64 n ∧ (n : Int) * (p : Int) ^ k = (Q : Int)) (fun _ x => (intOf x).toNat)
      case atStart => exact ⟨0, Q, by omega, by omega, by omega, rfl, rfl, by rw [Int.pow_zero, Int.mul_one]⟩
      case round =>
        obtain ⟨k, n, hk6, hn1, hnQ, rfl, rfl, he⟩ := hrel
        have HE := Lib.hid he
        clear he
        by_cases hgt : 1 < n
        · by_cases hnd : n % p = 0
          · have hnd' : (((n : Int) % (p : Int)) != 0) = false := by
              have : (n : Int) % (p : Int) = 0 := by omega
              simp [this]
            have hdv : (n : Int) / (p : Int) = ((n / p : Nat) : Int) := by simp
            have hnp : n / p * p = n := Nat.div_mul_cancel (Nat.dvd_of_mod_eq_zero hnd)
            have hnp1 : 1 ≤ n / p := by
              rcases Nat.eq_zero_or_pos (n / p) with e | e
              · rw [e] at hnp; omega
              · exact e
            have hnp2 : n / p < n := Nat.div_lt_self (by omega) (by omega)
            have HNX := Lib.hid (show (((n / p : Nat) : Int)) * (p : Int) ^ (k + 1) = (Q : Int) from by
              rw [pow_succ_int, ← Int.mul_assoc, ← HE.out]
              congr 1
              exact_mod_cast hnp)
            have HK := Lib.hid (show k + 1 ≤ 6 from by
              have h1 : (p : Int) ^ (k + 1) ≤ 64 := by
                have h2 := HNX.out
                have h3 : 0 ≤ (p : Int) ^ (k + 1) := Int.le_of_lt (Int.pow_pos (by omega))
                have h4 : 1 * (p : Int) ^ (k + 1) ≤ ((n / p : Nat) : Int) * (p : Int) ^ (k + 1) := Int.mul_le_mul_of_nonneg_right (by omega) h3
                omega
              exact (pow_le64 hpI (by omega) h1).2)
            have HB := Lib.hid (show 1 ≤ n / p ∧ n / p ≤ Q ∧ n / p < n from ⟨hnp1, by omega, hnp2⟩)
            have HDV := Lib.hid hdv
            have hdv0 : 0 ≤ (n : Int) / (p : Int) := by omega
            have hdv1 : (n : Int) / (p : Int) ≤ 64 := by omega
            clear hnd hnp hnp1 hnp2 hdv
            go_wp2
            go_round
            case rel => exact ⟨k + 1, n / p, HK.out, HB.out.1, HB.out.2.1, by go_num, by rw [HDV.out], HNX.out⟩
            case measure => simp [intOf]; have := HB.out.2.2; omega
          · have hnd' : (((n : Int) % (p : Int)) != 0) = true := by
              have : ¬ (n : Int) % (p : Int) = 0 := by omega
              simp [this]
            have HS := Lib.hid (show splF (Q : Int) = (0, 0) from splF_none fun p' k' hm he => by
              have e1 := HL.out.2 p' k' hm he
              subst e1
              have h1 := rest_ok hm (n := n) (k := k) (by omega) (by omega) hk6 (by rw [HE.out, he])
              omega)
            clear hnd
            go_wp2
            go_ret2
            exact ⟨by rw [HS.out]; rfl, rfl⟩
        · obtain rfl : n = 1 := by omega
          have HS := Lib.hid (show splF (Q : Int) = ((p : Int), (k : Int)) from by
            have h1 := HE.out
            rw [show ((1 : Nat) : Int) = 1 from rfl, Int.one_mul] at h1
            have hk1 : 1 ≤ k := by
              rcases Nat.eq_zero_or_pos k with e | e
              · subst e; rw [Int.pow_zero] at h1; omega
              · exact e
            exact splF_of (PKL_mem HL.out.1 hk1 hk6 (by rw [h1]; omega)) h1)
          go_wp2
          go_ret2
          exact ⟨by rw [HS.out]; rfl, rfl⟩
    · have hd' : (((Q : Int) % (p : Int)) != 0) = true := by
        have : ¬ (Q : Int) % (p : Int) = 0 := by omega
        simp [this]
      have hlt : p < Q := by
        rcases Nat.lt_or_ge p Q with h | h
        · exact h
        · have : p = Q := by omega
          subst this
          simp at hd
      have HN := Lib.hid (show ∀ d, 2 ≤ d → d < p + 1 → Q % d ≠ 0 from fun d h1 h2 => by
        by_cases e : d = p
        · subst e; exact hd
        · exact hno d h1 (by omega))
      clear hno hd
      go_wp2
      go_round
      case rel => exact ⟨p + 1, by omega, by omega, by go_num, HN.out⟩
      case measure => simp [intOf]; omega
set_option maxHeartbeats 400000 in
theorem l03Split_out (q : Int) (w : World) (hq : ¬ (2 ≤ q ∧ q ≤ 64)) :
    Calls Tryz.prog 107 #[.int .i64 q] w fun e w' => e = .returned (.tuple #[.int .i64 0, .int .i64 0]) ∧ w = w' := by
  have hin := l00In_any q 2 64 w
  rw [inB_not hq] at hin
  go_enter Tryz.func107, Tryz.ntmps107
  go_wp2_with fail
  refine hin.mono ?_
  rintro e w' ⟨rfl, rfl⟩
  go_wp2
  go_ret2
  exact ⟨rfl, rfl⟩
def irrB (p : Int) (k : Nat) (f : List Int) : Bool := (List.range (k + 1)).all fun d => decide (d < 1) || decide (k < 2 * d) || (List.range (p ^ d).toNat).all fun n => (remP p (digsP (n : Int) p d ++ [1]) f).any fun x => x != 0
theorem irrB_ok {p : Int} {k : Nat} {f : List Int} (h : irrB p k f = true) : IrrC p k f := fun d h1 h2 n h3 h4 => by
  have a := List.all_eq_true.1 h d (List.mem_range.2 (by omega))
  have e1 : decide (d < 1) = false := by simp; omega
  have e2 : decide (k < 2 * d) = false := by simp; omega
  rw [e1, e2, Bool.false_or, Bool.false_or] at a
  have b := List.all_eq_true.1 a n.toNat (List.mem_range.2 (by omega))
  rw [Int.toNat_of_nonneg h3] at b
  obtain ⟨x, hx, hne⟩ := List.any_eq_true.1 b
  obtain ⟨t, ht, rfl⟩ := List.mem_iff_getElem.1 hx
  exact ⟨t, by rw [nth_get ht]; simpa using hne⟩
def witN (p : Int) (k : Nat) : Nat := if k = 1 then 0 else if p = 2 then (if k = 5 then 5 else 3) else if p = 3 then (if k = 2 then 1 else 7) else if p = 5 then 2 else 1
theorem wit_table : (PKL.all fun a => irrB a.1 a.2 (digsP (witN a.1 a.2 : Nat) a.1 a.2 ++ [1])) = true := by decide +kernel
theorem wit_ok {p : Int} {k : Nat} (h : (p, k) ∈ PKL) : IrrC p k (digsP (witN p k : Nat) p k ++ [1]) := irrB_ok (List.all_eq_true.1 wit_table (p, k) h)
theorem wit_le (p : Int) (k : Nat) : witN p k ≤ 7 := by unfold witN; repeat (first | omega | split)
theorem mk_least {p : Int} {k : Nat} (h : (p, k) ∈ PKL) : ∃ n : Nat, n ≤ witN p k ∧ IrrC p k (digsP (n : Int) p k ++ [1]) ∧ ∀ m : Nat, m < n → ¬ IrrC p k (digsP (m : Int) p k ++ [1]) :=
  least_ (P := fun n : Nat => IrrC p k (digsP (n : Int) p k ++ [1])) (wit_ok h)
noncomputable def mkP (p : Int) (k : Nat) : List Int := open Classical in if h : (p, k) ∈ PKL then digsP ((mk_least h).choose : Int) p k ++ [1] else []
theorem mkP_eq {p : Int} {k : Nat} (h : (p, k) ∈ PKL) {n : Nat} (h1 : IrrC p k (digsP (n : Int) p k ++ [1])) (h2 : ∀ m : Nat, m < n → ¬ IrrC p k (digsP (m : Int) p k ++ [1])) : mkP p k = digsP (n : Int) p k ++ [1] := by
  unfold mkP
  rw [dif_pos h]
  have hs := (mk_least h).choose_spec
  rcases Nat.lt_trichotomy (mk_least h).choose n with e | e | e
  · exact absurd hs.2.1 (h2 _ e)
  · rw [e]
  · exact absurd h1 (hs.2.2 _ e)
theorem mkP_ok {p : Int} {k : Nat} (h : (p, k) ∈ PKL) : FldZ p (k : Int) (mkP p k) ∧ (mkP p k).length = k + 1 := by
  obtain ⟨a, b, c, d, e⟩ := PKL_ok h
  obtain ⟨n, -, h1, h2⟩ := mk_least h
  have h2p := (PR_bd a).1
  have hD : Dg p (digsP (n : Int) p k ++ [1]) := dg_snoc h2p (digs_dg (by omega) _ _)
  have hl : (digsP (n : Int) p k ++ [1]).length = k + 1 := by simp [digs_len]
  have hm : nth (digsP (n : Int) p k ++ [1]) k = 1 := by
    have := nth_snoc (l := digsP (n : Int) p k) (x := 1)
    rwa [digs_len] at this
  rw [mkP_eq h h1 h2]
  exact ⟨(fldZ_iff a b e hl hm).2 ⟨hD, h1⟩, hl⟩
def RetF (w : World) (p k : Int) (f : List Int) (e : Ending) (w' : World) : Prop := ∃ A n c, e = .returned (.agg #[.int .i64 p, .int .i64 k, .slice A n c]) ∧ OI w' w.heap.size 2 A n c f ∧ Below w.heap.size w w'
set_option maxRecDepth 100000 in
set_option maxHeartbeats 800000 in
theorem l03Make_any {p : Int} {k : Nat} (hm : (p, k) ∈ PKL) (q : Int) (w : World) (hq : p ^ k = q) :
    Calls Tryz.prog 162 #[.int .i64 q] w (RetF w p k (mkP p k)) := by
  obtain ⟨m1, m2, m3, m4, m5⟩ := PKL_ok hm
  obtain ⟨p2, p61⟩ := PR_bd m1
  have hpp := l03Split_any q (w.alloc (.cells #[.int .i64 0, .int .i64 0, .slice none 0 0] 31)) (by omega) (by omega)
  rw [splF_of hm hq] at hpp
  have hb0 := below_alloc w (.cells #[.int .i64 0, .int .i64 0, .slice none 0 0] 31)
  have X := Blk.new w 31 #[.int .i64 0, .int .i64 0, .slice none 0 0]
  have HM := Lib.hid hm
  have HMI := Lib.hid m1
  have hq64 : q ≤ 64 := by omega
  have HQ := Lib.hid hq
  have HW := Lib.hid (wit_ok hm)
  have hwl := wit_le p k
  have hp0 : (p == 0) = false := by simp; omega
  clear hm m1 m4 m5 hq
  generalize hN : witN p k = N at *
  clear hN
  go_enter Tryz.func162, Tryz.ntmps162
  go_wp2_with fail
  refine hpp.mono ?_
  rintro e w1 ⟨rfl, rfl⟩
  clear hpp
  go_wp2
  go_loopw [5, 6] (fun i _ wr => ∃ n : Nat, n ≤ N ∧ i = .int .i64 n ∧ Below w.heap.size w wr ∧ Blk wr w.heap.size 31 #[.int .i64 0, .int .i64 0, .slice none 0 0] ∧ ∀ m : Nat, m < n → ¬ IrrC p k (digsP (m : Int) p k ++ [1])) (fun i _ _ => N - (intOf i).toNat)
  case atStart => exact ⟨0, Nat.zero_le _, rfl, hb0, X, fun m h => by omega⟩
  case round =>
    clear hb0 X
    obtain ⟨n, hn, rfl, hw, X, hno⟩ := hrel
    have HNO := Lib.hid hno
    clear hno
    have hdg := fun W : World => l03Digits_any (n : Int) p k W (by omega) (by omega) p2 (by omega) (by omega)
    go_wp2_with fail
    refine (hdg wr).mono ?_
    rintro e w2 ⟨A2, n2, c2, rfl, ho2, hb2⟩
    obtain rfl : n2 = k := by rw [← ho2.len, digs_len]
    have hw2 := hw.trans (hb2.mono hw.size)
    have X2 := X.after hb2
    have ho2 := ho2.more hw.size
    clear hb2 X
    have hws := hw2.size
    go_wp2_with (at_builtin; refine app_int _ rfl (.tmp 17) (.tmp 18) rfl w.heap.size A2 n2 c2 _ rfl ho2 1 w2.heap.size rfl rfl ⟨by omega, by omega⟩ (by omega) hws ?_; intro A4 c4 w4 ho4 hg4 hf4; have hb4 := below_own hw2 hg4 hws (fun q hq => (ho2.os.lt hq).1); have X4 := X2.grown hg4 (OS.typed' ho2.os X2 (by decide)))
    have hir := l03Irreducible_any A4 (n2 + 1) c4 _ p n2 w4 ho4.reads rfl (dg_snoc p2 (digs_dg (by omega) _ _)) p2 (by omega) (by rw [HQ.out]; exact hq64) m3
    clear ho2 hg4 hf4 hw2 hws X2
    by_cases hI : IrrC p n2 (digsP (n : Int) p n2 ++ [1])
    · rw [tB_yes hI] at hir
      have HP := Lib.hid (mkP_eq HM.out hI HNO.out)
      clear hI
      go_wp2_with fail
      refine hir.mono ?_
      rintro e w5 ⟨rfl, hb5⟩
      have hb8 := hb4.trans (hb5.mono hb4.size)
      have X8 := X4.after hb5
      have ho8 := ho4.below hb5
      clear hir hb4 hb5 X4 ho4
      obtain ⟨x0, x1, x2⟩ := X8.cells3
      have f0 := X8.frozen 0
      have f1 := X8.frozen 1
      have f2 := X8.frozen 2
      go_wp2
      have e1 : some w.heap.size ≠ blk A4 := OS.typed' ho8.os X8 (by decide)
      have X9 := ((X8.set_ 0 (.int .i64 p)).set_ 1 (.int .i64 n2)).set_ 2 (.slice A4 (n2 + 1) c4)
      have hw9 := ((hb8.setCell (p := ⟨w.heap.size, 0, none⟩) (Nat.le_refl _) (.int .i64 p)).setCell (p := ⟨w.heap.size, 1, none⟩) (Nat.le_refl _) (.int .i64 n2)).setCell (p := ⟨w.heap.size, 2, none⟩) (Nat.le_refl _) (.slice A4 (n2 + 1) c4)
      have ho9 := ((ho8.kept (grown_set (g := w.heap.size) (p := 0) (u := .int .i64 p)) (.inr fun e => e1 e.symm)).kept (grown_set (g := w.heap.size) (p := 1) (u := .int .i64 n2)) (.inr fun e => e1 e.symm)).kept (grown_set (g := w.heap.size) (p := 2) (u := .slice A4 (n2 + 1) c4)) (.inr fun e => e1 e.symm)
      clear x0 x1 x2
      obtain ⟨x0, x1, x2⟩ := X9.cells3
      exact bodyPost_ret (v := .agg #[.int .i64 p, .int .i64 n2, .slice A4 (n2 + 1) c4]) (by simp [results, Tryz.results162, go_sem, x0, x1, x2]) rfl ⟨A4, n2 + 1, c4, rfl, by rw [HP.out]; exact ho9, hw9⟩
    · rw [tB_no hI] at hir
      have hlt : n < N := by
        rcases Nat.lt_or_ge n N with h | h
        · exact h
        · obtain rfl : n = N := by omega
          exact absurd HW.out hI
      have HNX := Lib.hid (show ∀ m : Nat, m < n + 1 → ¬ IrrC p n2 (digsP (m : Int) p n2 ++ [1]) from fun m hm => by
        by_cases e : m = n
        · subst e; exact hI
        · exact HNO.out m (by omega))
      clear hI
      go_wp2_with fail
      refine hir.mono ?_
      rintro e w5 ⟨rfl, hb5⟩
      have hw5 := hb4.trans (hb5.mono hb4.size)
      have X5 := X4.after hb5
      clear hir hb4 hb5 X4
      go_wp2
      go_roundw
      case rel => exact ⟨n + 1, by omega, by go_num, hw5, X5, HNX.out⟩
      case measure => simp [intOf]; omega
end Go.Proofs.YtdkbcjdimhgmnaaGreat
