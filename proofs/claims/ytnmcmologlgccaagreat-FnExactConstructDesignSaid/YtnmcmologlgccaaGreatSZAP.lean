/- The factors of a number, prime numbers. No condition. -/
import Derived.Test.YtnmcmologlgccaaGreatSZAO
set_option linter.unusedVariables false
set_option linter.unusedSimpArgs false
namespace Go.Proofs.YtnmcmologlgccaaGreat
open Go.RowKit
theorem int_info' : (Tryz.prog.info? 2).map (fun i => (i.zero, i.size, i.bytes)) = some (some (.int .i64 0), 1, 8) := by kernel_rfl
theorem mul_bd' {a b A B : Int} (ha : 0 ≤ a) (hA : a ≤ A) (hb : 0 ≤ b) (hB : b ≤ B) : 0 ≤ a * b ∧ a * b ≤ A * B :=
  ⟨Int.mul_nonneg ha hb, Int.mul_le_mul hA hB hb (by omega)⟩
def facsOf (n : Int) : List Int := if inB n 1 1000000 then facs 2 n else []
set_option maxHeartbeats 1000000 in
theorem impl_FactorsOf (n : Int) (w : World) :
    Calls Tryz.prog 70 #[.int .i64 n] w (RetI w 2 (facsOf n)) := by
  by_cases h : inB n 1 1000000 = true
  · obtain ⟨n1, n2⟩ := inB_true h
    have hfl := facs_len (n := n) (by omega) n2
    have HF := Lib.hid (show facsOf n = facs 2 n by simp [facsOf, h])
    have hall : ∀ q ∈ facs 2 n, 2 ≤ q ∧ q ≤ n := fun q hq => facs_ge (by omega) hq
    have HA := Lib.hid hall; clear hall
    go_enter Tryz.func70, Tryz.ntmps70
    go_wp2_with (go_at_call 30; refine (within_any _ _ _ _).mono ?_; rintro e w' ⟨rfl, rfl⟩)
    go_loopw [0, 3, 4] (fun x v d wr => ∃ (m p : Int) (fs : List Int) (A : Option Addr) (k c : Nat), x = .int .i64 m ∧ d = .int .i64 p ∧ v = .slice A k c ∧ 1 ≤ m ∧ m ≤ 1000000 ∧ 2 ≤ p ∧ p ≤ 1001 ∧ fs ++ facs p m = facs 2 n ∧ OI wr w.heap.size 2 A k c fs ∧ Below w.heap.size w wr) (fun _ _ d _ => (1002 - intOf d).toNat)
    case atStart => exact ⟨n, 2, [], _, _, _, rfl, rfl, rfl, n1, n2, by omega, by omega, rfl, OI.nil_ _ _ _, Below.refl _ _⟩
    case round =>
      obtain ⟨m, p, fs, A, k, c, rfl, rfl, rfl, hm1, hm2, hp1, hp2, he, ho, hw⟩ := hrel
      have hmul := mul_bd' (a := p) (b := p) (A := 1001) (B := 1001) (by omega) hp2 (by omega) hp2
      have hmul1 := hmul.1
      have hmul2 := hmul.2
      clear hmul
      by_cases hsq : p * p ≤ m
      · have hp3 := sq_bd (by omega) hsq hm2
        have HE := Lib.hid (show fs ++ (List.replicate (expo m p) p ++ facs (p + 1) (cof m p)) = facs 2 n by rw [← he, facs_eq hp1 (by omega), if_pos hsq])
        clear he
        obtain ⟨wo, hwo⟩ : ∃ wo : World, wo = wr := ⟨_, rfl⟩
        subst hwo
        go_wp2
        go_loopw [0, 3] (fun x v wi => ∃ (b : Int) (gs : List Int) (A' : Option Addr) (k' c' : Nat), x = .int .i64 b ∧ v = .slice A' k' c' ∧ 1 ≤ b ∧ b ≤ 1000000 ∧ gs ++ (List.replicate (expo b p) p ++ facs (p + 1) (cof b p)) = facs 2 n ∧ OI wi w.heap.size 2 A' k' c' gs ∧ Below w.heap.size w wi) (fun x _ _ => (intOf x).natAbs)
        case atStart => exact ⟨m, fs, A, k, c, rfl, rfl, hm1, hm2, HE.out, ho, hw⟩
        case round =>
          clear hsq HE ho hw hmul1 hmul2 hm1 hm2
          rename_i wi _
          obtain ⟨b, gs, A', k', c', rfl, rfl, hb1, hb2, he', ho', hw'⟩ := hrel
          have hkl : k' ≤ 19 := by
            have h1 := ho'.len
            have h2 := congrArg List.length he'
            rw [List.length_append] at h2
            omega
          by_cases hd : b.tmod p = 0
          · have hy := expo_yes (a := b) (by omega) hp1 hd
            obtain ⟨hlt, hne, hprod⟩ := tdiv_lt (a := b) (by omega) hp1 hd
            have hq0 : 0 ≤ b.tdiv p := Int.tdiv_nonneg (by omega) (by omega)
            have hediv : b.tdiv p = b / p := Int.tdiv_eq_ediv_of_nonneg (by omega)
            have hdd : (b % p == 0) = true := by rw [← tmod_emod (by omega), hd]; rfl
            have HQ := Lib.hid (show (gs ++ [p]) ++ (List.replicate (expo (b / p) p) p ++ facs (p + 1) (cof (b / p) p)) = facs 2 n by
              rw [← he', ← hediv, hy.1, hy.2, List.replicate_succ]; simp)
            have hq1 : 1 ≤ b / p := by rw [← hediv]; omega
            have hq2 : b / p ≤ 1000000 := by rw [← hediv]; omega
            have hq3 : (b / p).natAbs < b.natAbs := by rw [← hediv]; exact hlt
            clear hy hlt hne hprod hq0 hediv hd he'
            go_wp2_with (at_builtin; refine wpList_app1 _ rfl (.tmp 19) (.tmp 21) 36 rfl 2 (.int .i64 0) 8 Tryz.underlying36 int_info' rfl (by omega) w.heap.size A' k' c' (ints gs) rfl ho'.os (.int .i64 p) rfl rfl (by omega) hw'.size ?_; intro A2 c2 w2 ho2 hg2 hn2)
            have hw2 := below_own hw' hg2 hw'.size (fun b hb => (ho'.os.lt hb).1)
            have ho3 := OI.snoc ho2 ho'.all (z := p) ⟨by omega, by omega⟩
            clear ho2 hg2 hn2 ho' hw'
            go_wp2
            go_roundw
            case rel => exact ⟨b / p, gs ++ [p], A2, k' + 1, c2, rfl, rfl, hq1, hq2, HQ.out, ho3, hw2⟩
            case measure => simpa [intOf] using hq3
          · have hdd : (b % p == 0) = false := by rw [← tmod_emod (by omega)]; simpa using hd
            have hy := expo_no hd
            have HQ := Lib.hid (show gs ++ facs (p + 1) b = facs 2 n by rw [← he', hy.1, hy.2]; simp)
            clear hy hd he'
            go_wp2
            go_roundw
            case rel => exact ⟨b, p + 1, gs, A', k', c', rfl, rfl, rfl, hb1, hb2, by omega, by omega, HQ.out, ho', hw'⟩
            case measure => simp [intOf]; omega
      · have hkl : k ≤ 19 := by
          have h1 := ho.len
          have h2 := congrArg List.length he
          rw [List.length_append] at h2
          omega
        by_cases hm : 1 < m
        · have HE := Lib.hid (show fs ++ [m] = facsOf n by rw [HF.out, ← he, facs_eq hp1 (by omega), if_neg hsq, if_pos hm])
          clear he
          go_wp2_with (at_builtin; refine wpList_app1 _ rfl (.tmp 28) (.tmp 30) 36 rfl 2 (.int .i64 0) 8 Tryz.underlying36 int_info' rfl (by omega) w.heap.size A k c (ints fs) rfl ho.os (.int .i64 m) rfl rfl (by omega) hw.size ?_; intro A2 c2 w2 ho2 hg2 hn2)
          have hw2 := below_own hw hg2 hw.size (fun b hb => (ho.os.lt hb).1)
          have ho3 := OI.snoc ho2 ho.all (z := m) ⟨by omega, by omega⟩
          go_wp2
          go_ret
          exact ⟨A2, k + 1, c2, rfl, by rw [← HE.out]; exact ho3, hw2⟩
        · have HE := Lib.hid (show fs = facsOf n by rw [HF.out, ← he, facs_eq hp1 (by omega), if_neg hsq, if_neg hm]; simp)
          clear he
          go_wp2
          go_ret
          exact ⟨A, k, c, rfl, by rw [← HE.out]; exact ho, hw⟩
  · have h' := inB_false h
    have HF := Lib.hid (show facsOf n = [] by simp [facsOf, h'])
    clear h
    go_enter Tryz.func70, Tryz.ntmps70
    go_wp2_with (go_at_call 30; refine (within_any _ _ _ _).mono ?_; rintro e w' ⟨rfl, rfl⟩)
    go_ret
    exact ⟨none, 0, 0, rfl, by rw [HF.out]; exact OI.nil_ _ _ _, Below.refl _ _⟩
def isP (n : Int) : Bool := inB n 2 1000000 && noDiv 2 n
theorem isP_facs (n : Int) : (((facsOf n).length : Int) == 1) = isP n := by
  have e : (((facsOf n).length : Int) == 1) = ((facsOf n).length == 1) := by rw [Bool.eq_iff_iff]; simp; omega
  rw [e]
  unfold facsOf isP
  by_cases h : inB n 1 1000000 = true
  · obtain ⟨h1, h2⟩ := inB_true h
    rw [if_pos h]
    by_cases h3 : n = 1
    · subst h3
      decide
    · rw [inB_mk (show 2 ≤ n ∧ n ≤ 1000000 by omega), noDiv_facs (by omega) (by omega)]
      rw [Bool.eq_iff_iff]
      simp
  · rw [if_neg h, inB_not (fun h1 => h (inB_mk (by omega)))]
    rfl
set_option maxHeartbeats 400000 in
theorem spec_IsPrime (n : Int) (w : World) :
    Calls Tryz.prog 125 #[.int .i64 n] w fun en w' => en = .returned (.bool (isP n)) ∧ w = w' := by
  by_cases h : inB n 2 1000000 = true
  · obtain ⟨n1, n2⟩ := inB_true h
    have HP := Lib.hid (show isP n = noDiv 2 n by simp [isP, h])
    go_enter Tryz.func125, Tryz.ntmps125
    go_wp2_with (go_at_call 38; refine (l00In_any _ _ _ _).mono ?_; rintro e w' ⟨rfl, rfl⟩)
    go_loop [3] (fun d => ∃ p : Int, d = .int .i64 p ∧ 2 ≤ p ∧ p ≤ 1001 ∧ noDiv p n = noDiv 2 n) (fun d => (1002 - intOf d).toNat)
    case atStart => exact ⟨2, rfl, by omega, by omega, rfl⟩
    case round =>
      obtain ⟨p, rfl, hp1, hp2, he⟩ := hrel
      have hmul := mul_bd' (a := p) (b := p) (A := 1001) (B := 1001) (by omega) hp2 (by omega) hp2
      have hmul1 := hmul.1
      have hmul2 := hmul.2
      clear hmul
      by_cases hsq : p * p ≤ n
      · have hp3 := sq_bd (by omega) hsq n2
        by_cases hd : n % p = 0
        · have HE := Lib.hid (show isP n = false by rw [HP.out, ← he, noDiv_eq hp1, if_pos hsq, if_pos hd])
          have hdd : (n % p == 0) = true := by simp [hd]
          clear he hd
          go_wp2
          go_ret
          exact ⟨by rw [HE.out]; rfl, rfl⟩
        · have HE := Lib.hid (show noDiv (p + 1) n = noDiv 2 n by rw [← he, noDiv_eq hp1, if_pos hsq, if_neg hd])
          have hdd : (n % p == 0) = false := by simp [hd]
          clear he hd
          go_wp2
          go_round
          case rel => exact ⟨p + 1, rfl, by omega, by omega, HE.out⟩
          case measure => simp [intOf]; omega
      · have HE := Lib.hid (show isP n = true by rw [HP.out, ← he, noDiv_eq hp1, if_neg hsq])
        clear he
        go_wp2
        go_ret
        exact ⟨by rw [HE.out]; rfl, rfl⟩
  · have h' := inB_false h
    have HP := Lib.hid (show isP n = false by simp [isP, h'])
    clear h
    go_enter Tryz.func125, Tryz.ntmps125
    go_wp2_with (go_at_call 38; refine (l00In_any _ _ _ _).mono ?_; rintro e w' ⟨rfl, rfl⟩)
    go_ret
    exact ⟨by rw [HP.out]; rfl, rfl⟩
set_option maxHeartbeats 400000 in
theorem impl_IsPrime (n : Int) (w : World) :
    Calls Tryz.prog 148 #[.int .i64 n] w fun en w' => en = .returned (.bool (isP n)) ∧ Below w.heap.size w w' := by
  have HP := Lib.hid (isP_facs n)
  go_enter Tryz.func148, Tryz.ntmps148
  go_wp2_with fail
  refine (impl_FactorsOf n _).mono ?_
  rintro e w1 ⟨A, k, c, rfl, ho, hb⟩
  have hl := Lib.hid ho.len
  go_wp2
  go_ret
  refine ⟨?_, hb⟩
  rw [← HP.out, hl.out]
  first | done | rfl
def FldZ (P D : Int) (f : List Int) : Prop := 1 ≤ D ∧ FldOk P D.toNat f
theorem PR_isP : (PR.all fun p => isP p) = true := by decide +kernel
theorem isP_PR : ((List.range 65).all fun p => !isP (p : Int) || PR.contains (p : Int)) = true := by decide +kernel
theorem isP_low {P : Int} (h : isP P = true) : 2 ≤ P ∧ P ≤ 1000000 := by
  unfold isP at h
  rw [Bool.and_eq_true] at h
  exact inB_true h.1
theorem isP_mem {P : Int} (h : isP P = true) (h2 : P ≤ 64) : P ∈ PR := by
  have h0 := (isP_low h).1
  have := List.all_eq_true.1 isP_PR P.toNat (List.mem_range.2 (by omega))
  rw [Int.toNat_of_nonneg (by omega), h] at this
  simpa using this
theorem mem_isP {P : Int} (h : P ∈ PR) : isP P = true := List.all_eq_true.1 PR_isP P h
theorem fldZ_pr {P D : Int} {f : List Int} (h : FldZ P D f) : isP P = true := mem_isP h.2.pr
theorem pow_le64 {P : Int} {k : Nat} (hP : 2 ≤ P) (hk : 1 ≤ k) (h : P ^ k ≤ 64) : P ≤ 64 ∧ k ≤ 6 := by
  constructor
  · have := pow_mono (p := P) (by omega) hk
    rw [Int.pow_succ, Int.pow_zero, Int.one_mul] at this
    omega
  · refine Classical.byContradiction fun hn => ?_
    have h7 := pow_mono (p := P) (by omega) (show 7 ≤ k by omega)
    have h2 : ∀ n : Nat, (2 : Int) ^ n ≤ P ^ n := fun n => by
      induction n with
      | zero => simp
      | succ n ih =>
        rw [Int.pow_succ, Int.pow_succ]
        exact Int.mul_le_mul ih hP (by omega) (Int.le_of_lt (Int.pow_pos (by omega)))
    have := h2 7
    have e : (2 : Int) ^ 7 = 128 := by decide
    omega
def dgTo (p : Int) (f : List Int) (j : Nat) : Prop := ∀ t, t < j → 0 ≤ nth f t ∧ nth f t < p
theorem fldZ_iff {P : Int} {k : Nat} {f : List Int} (hP : P ∈ PR) (hk : 1 ≤ k) (hq : P ^ k ≤ 64) (hl : f.length = k + 1) (hm : nth f k = 1) : FldZ P (k : Int) f ↔ Dg P f ∧ IrrC P k f := by
  unfold FldZ
  rw [Int.toNat_natCast]
  exact ⟨fun h => ⟨h.2.dg, h.2.irr⟩, fun h => ⟨by omega, hP, hk, hq, hl, hm, h.1, h.2⟩⟩
set_option maxRecDepth 100000 in
set_option maxHeartbeats 800000 in
theorem validField_any (P D : Int) (A : Option Addr) (n c : Nat) (f : List Int) (w : World) (ha : RI w A n f) (hP : I64 P) (hD : I64 D) (hn : n ≤ 9223372036854775807) :
    Calls Tryz.prog 202 #[.agg #[.int .i64 P, .int .i64 D, .slice A n c]] w (RetB w (tB (FldZ P D f))) := by
  have hla := Lib.hid ha.len
  have hb0 := below_alloc w (.cells #[.int .i64 P, .int .i64 D, .slice A n c] 135)
  have X := Blk.new w 135 #[.int .i64 P, .int .i64 D, .slice A n c]
  have hP1 := hP.1
  have hP2 := hP.2
  have hD1 := hD.1
  have hD2 := hD.2
  have hpr := impl_IsPrime P (w.alloc (.cells #[.int .i64 P, .int .i64 D, .slice A n c] 135))
  cases hip : isP P with
  | false =>
    have HF := Lib.hid (show tB (FldZ P D f) = false from tB_no fun h => by rw [fldZ_pr h] at hip; cases hip)
    rw [hip] at hpr
    go_enter Tryz.func202, Tryz.ntmps202
    go_wp2_with fail
    refine hpr.mono ?_
    rintro e w1 ⟨rfl, hb1⟩
    go_wp2
    go_ret
    exact ⟨by rw [HF.out]; rfl, hb0.trans (hb1.mono hb0.size)⟩
  | true =>
    rw [hip] at hpr
    obtain ⟨p2, p6⟩ := isP_low hip
    go_enter Tryz.func202, Tryz.ntmps202
    go_wp2_with fail
    refine hpr.mono ?_
    rintro e w1 ⟨rfl, hb1⟩
    have X1 := X.after hb1
    have hw1 := hb0.trans (hb1.mono hb0.size)
    obtain ⟨x0, x1, x2⟩ := X1.cells3
    clear hpr hb0 hb1 X
    by_cases hd : D < 1
    · have HF := Lib.hid (show tB (FldZ P D f) = false from tB_no fun h => by have := h.1; omega)
      go_wp2
      go_ret
      exact ⟨by rw [HF.out]; rfl, hw1⟩
    · obtain ⟨k, rfl⟩ : ∃ k : Nat, D = (k : Int) := ⟨D.toNat, by omega⟩
      have hk1 : 1 ≤ k := by omega
      go_wp2_with fail
      refine (powerUpTo_any P k 64 w1 p2 p6 (by omega) hD2 (by omega) (by omega)).mono ?_
      rintro e w' ⟨r, rfl, hcap, rfl⟩
      rw [Int.toNat_natCast] at hcap
      by_cases hr : r ≤ 64
      · have hq := hcap.iff.1 hr
        obtain ⟨p64, k6⟩ := pow_le64 p2 hk1 hq
        have hmem := isP_mem hip p64
        clear hcap hip
        have HQ := Lib.hid hq
        have HM := Lib.hid hmem
        clear hq hmem
        by_cases hnk : n = k + 1
        · have HNK := Lib.hid hnk
          have hkn : k < n := by omega
          have hn7 : n ≤ 7 := by omega
          have hnI : (n : Int) = (k : Int) + 1 := by omega
          have hn1 : n - 1 = k := by omega
          have HNI := Lib.hid hnI
          clear hnk hnI hn1
          obtain ⟨ad, rfl, hck, ik1, ik2⟩ := ha.get (k := k) (by omega)
          have hck1 := below_cell hw1 hck
          have hnk' : ((n : Int) != (k : Int) + 1) = false := by simp [HNI.out]
          have ew : IntKind.i64.wrap ((k : Int) + 1) = (k : Int) + 1 := IntWalk.i64_in _ (by omega)
          have kk0 : 0 ≤ (k : Int) := by omega
          have kk1 : (k : Int) < (n : Int) := by omega
          have hsz : ∀ q, Calls Tryz.prog 48 #[.slice (some ad) n c] (w1.drewN q) fun e w'' => e = .returned (.int .i64 (n : Int)) ∧ ∃ m, w'' = w1.drewN m := fun q => Quiet.call ((sizeI_any (some ad) n c _ hn).mono fun _ _ h => Quiet.of_same h)
          by_cases hone : nth f k = 1
          · rw [hone] at hck1
            have HIFF := Lib.hid (fldZ_iff (f := f) HM.out hk1 HQ.out (hla.out.trans HNK.out) hone)
            have hq64 : P ^ k ≤ 64 := HQ.out
            have HQ6 := Lib.hid hq64
            clear hq64
            go_wp2
            go_quiet ((go_at_call 48; exact hsz _))
            generalize hwx : w1.drewN _ = wx
            have hbx : Below w1.heap.size w1 wx := hwx ▸ below_drewn' _ _ _
            clear hwx hsz x0 x1 x2 hck1
            have X2 := X1.after hbx
            have hwx := hw1.trans (hbx.mono hw1.size)
            clear hbx hck ik1 ik2
            obtain ⟨x0, x1, x2⟩ := X2.cells3
            have hri := ha.keep hwx
            go_wp2
            go_loop [4, 41] (fun _ i => ∃ j : Nat, j ≤ n ∧ i = .int .i64 j ∧ dgTo P f j) (fun _ i => n - (intOf i).toNat)
            case atStart => exact ⟨0, Nat.zero_le _, rfl, fun t h => by omega⟩
            case round =>
              obtain ⟨j, hj, rfl, hdg⟩ := hrel
              have HDG := Lib.hid hdg
              clear hdg
              by_cases hlt : j < n
              · obtain ⟨ad', hA, hcj, ij1, ij2⟩ := hri.get hlt
                cases hA
                by_cases hin : 0 ≤ nth f j ∧ nth f j ≤ P - 1
                · have HN := Lib.hid (show dgTo P f (j + 1) from fun t ht => by
                    by_cases e : t = j
                    · subst e; omega
                    · exact HDG.out t (by omega))
                  have hwi := within_any (nth f j) 0 (P - 1) wx
                  rw [inB_mk hin] at hwi
                  clear hin
                  generalize nth f j = z at *
                  go_wp2_with fail
                  refine hwi.mono ?_
                  rintro e w' ⟨rfl, rfl⟩
                  go_wp2
                  go_round
                  case rel => exact ⟨j + 1, by omega, by go_num, HN.out⟩
                  case measure => simp [intOf]; omega
                · have HF := Lib.hid (show tB (FldZ P (k : Int) f) = false from tB_no fun h => by
                    have := (HIFF.out.1 h).1 j
                    omega)
                  have hwi := within_any (nth f j) 0 (P - 1) wx
                  rw [inB_not hin] at hwi
                  clear hin
                  generalize nth f j = z at *
                  go_wp2_with fail
                  refine hwi.mono ?_
                  rintro e w' ⟨rfl, rfl⟩
                  go_wp2
                  go_ret
                  exact ⟨by rw [HF.out]; rfl, hwx⟩
              · obtain rfl : n = j := by omega
                have hDg : Dg P f := Dg.of (by omega) fun t ht => HDG.out t (by rw [hla.out] at ht; exact ht)
                have hir := irreducible_any (some ad) n c f P k wx hri HNK.out hDg p2 p64 HQ6.out k6
                have HT := Lib.hid (show tB (IrrC P k f) = tB (FldZ P (k : Int) f) from by
                  by_cases hi : IrrC P k f
                  · rw [tB_yes hi, tB_yes (HIFF.out.2 ⟨hDg, hi⟩)]
                  · rw [tB_no hi, tB_no fun h => hi (HIFF.out.1 h).2])
                clear hDg
                go_wp2_with fail
                refine hir.mono ?_
                rintro e w3 ⟨rfl, hb3⟩
                go_wp2
                go_ret
                exact ⟨by rw [HT.out]; rfl, hwx.trans (hb3.mono hwx.size)⟩
          · have HF := Lib.hid (show tB (FldZ P (k : Int) f) = false from tB_no fun h => by have := h.2.mon; rw [Int.toNat_natCast] at this; exact hone this)
            have hone' : (nth f k != 1) = true := by simp [hone]
            clear hone
            generalize nth f k = z at *
            go_wp2
            go_quiet ((go_at_call 48; exact hsz _))
            go_wp2
            go_ret
            exact ⟨by rw [HF.out]; rfl, hw1.trans (below_drewn' _ _ _)⟩
        · have HF := Lib.hid (show tB (FldZ P (k : Int) f) = false from tB_no fun h => by have := h.2.len; rw [Int.toNat_natCast, hla.out] at this; exact hnk this)
          have hnk' : ((n : Int) != (k : Int) + 1) = true := by simp; omega
          have ew : IntKind.i64.wrap ((k : Int) + 1) = (k : Int) + 1 := IntWalk.i64_in _ (by omega)
          go_wp2
          go_quiet ((go_at_call 48; exact Quiet.call ((sizeI_any A n c _ hn).mono fun _ _ h => Quiet.of_same h)))
          go_wp2
          go_ret
          exact ⟨by rw [HF.out]; rfl, hw1.trans (below_drewn' _ _ _)⟩
      · have HF := Lib.hid (show tB (FldZ P (k : Int) f) = false from tB_no fun h => hr (hcap.iff.2 (by have := h.2.q64; rwa [Int.toNat_natCast] at this)))
        clear hcap
        go_wp2
        go_ret
        exact ⟨by rw [HF.out]; rfl, hw1⟩
def PKL : List (Int × Nat) := (PR.map fun p => (p, 1)) ++ [(2, 2), (2, 3), (2, 4), (2, 5), (2, 6), (3, 2), (3, 3), (5, 2), (7, 2)]
def splF (q : Int) : Int × Int := match PKL.find? (fun pk => pk.1 ^ pk.2 == q) with
  | some pk => (pk.1, (pk.2 : Int))
  | none => (0, 0)
theorem PKL_one : (PKL.all fun a => PKL.all fun b => !(a.1 ^ a.2 == b.1 ^ b.2) || (a.1 == b.1 && a.2 == b.2)) = true := by decide +kernel
theorem PKL_PR : (PKL.all fun a => PR.contains a.1 && decide (1 ≤ a.2 ∧ a.2 ≤ 6 ∧ 2 ≤ a.1 ^ a.2 ∧ a.1 ^ a.2 ≤ 64)) = true := by decide +kernel
theorem PKL_all : (PR.all fun p => (List.range 7).all fun k => k == 0 || decide (64 < p ^ k) || PKL.contains (p, k)) = true := by decide +kernel
theorem PKL_mem {p : Int} {k : Nat} (hp : p ∈ PR) (hk : 1 ≤ k) (hk6 : k ≤ 6) (h : p ^ k ≤ 64) : (p, k) ∈ PKL := by
  have := List.all_eq_true.1 (List.all_eq_true.1 PKL_all p hp) k (List.mem_range.2 (by omega))
  rw [Bool.or_eq_true, Bool.or_eq_true] at this
  rcases this with (h1 | h1) | h1
  · have : k = 0 := by simpa using h1
    omega
  · have := of_decide_eq_true h1; omega
  · simpa using h1
theorem splF_of {p : Int} {k : Nat} (h : (p, k) ∈ PKL) {q : Int} (hq : p ^ k = q) : splF q = (p, (k : Int)) := by
  subst hq
  unfold splF
  cases hf : PKL.find? (fun pk => pk.1 ^ pk.2 == p ^ k) with
  | none =>
    have := List.find?_eq_none.1 hf (p, k) h
    simp at this
  | some pk =>
    have h1 := List.find?_some hf
    have h2 := List.mem_of_find?_eq_some hf
    have h3 := List.all_eq_true.1 (List.all_eq_true.1 PKL_one pk h2) (p, k) h
    have h4 : (pk.1 ^ pk.2 == p ^ k) = true := h1
    rw [h4] at h3
    simp at h3
    simp [h3.1, h3.2]
theorem splF_none {q : Int} (h : ∀ p k, (p, k) ∈ PKL → p ^ k ≠ q) : splF q = (0, 0) := by
  unfold splF
  have : PKL.find? (fun pk => pk.1 ^ pk.2 == q) = none := List.find?_eq_none.2 fun pk hpk => by
    have := h pk.1 pk.2 hpk
    simpa using this
  rw [this]
theorem PKL_ok {p : Int} {k : Nat} (h : (p, k) ∈ PKL) : p ∈ PR ∧ 1 ≤ k ∧ k ≤ 6 ∧ 2 ≤ p ^ k ∧ p ^ k ≤ 64 := by
  have := List.all_eq_true.1 PKL_PR (p, k) h
  rw [Bool.and_eq_true] at this
  obtain ⟨h1, h2⟩ := this
  exact ⟨by simpa using h1, of_decide_eq_true h2⟩
def ldB (q p : Nat) : Bool := q % p == 0 && (List.range p).all fun d => decide (d < 2) || q % d != 0
theorem ld_table : ((List.range 65).all fun q => (List.range 65).all fun p => decide (q < 2) || decide (p < 2) || !ldB q p || (PR.contains (p : Int) && PKL.all fun pk => !(pk.1 ^ pk.2 == (q : Int)) || pk.1 == (p : Int))) = true := by decide +kernel
theorem rest_table : (PKL.all fun pk => (List.range 65).all fun n => (List.range 7).all fun k => decide (n < 2) || !((n : Int) * pk.1 ^ k == pk.1 ^ pk.2) || (n : Int) % pk.1 == 0) = true := by decide +kernel
theorem ld_ok {q p : Nat} (hq : 2 ≤ q) (hq2 : q ≤ 64) (hp : 2 ≤ p) (hp2 : p ≤ q) (hd : q % p = 0) (hl : ∀ d, 2 ≤ d → d < p → q % d ≠ 0) : (p : Int) ∈ PR ∧ ∀ p' k', (p', k') ∈ PKL → p' ^ k' = (q : Int) → p' = (p : Int) := by
  have h := List.all_eq_true.1 (List.all_eq_true.1 ld_table q (List.mem_range.2 (by omega))) p (List.mem_range.2 (by omega))
  have hb : ldB q p = true := by
    unfold ldB
    rw [Bool.and_eq_true]
    refine ⟨by simp [hd], List.all_eq_true.2 fun d hd2 => ?_⟩
    have := List.mem_range.1 hd2
    by_cases h2 : d < 2
    · simp [h2]
    · have := hl d (by omega) (by omega)
      simp [this]
  rw [hb] at h
  have e1 : decide (q < 2) = false := by simp; omega
  have e2 : decide (p < 2) = false := by simp; omega
  rw [e1, e2] at h
  simp only [Bool.not_true, Bool.false_or, Bool.and_eq_true] at h
  refine ⟨by simpa using h.1, fun p' k' hm he => ?_⟩
  have h3 := List.all_eq_true.1 h.2 (p', k') hm
  have h4 : (p' ^ k' == (q : Int)) = true := by simp [he]
  rw [h4] at h3
  simpa using h3
theorem rest_ok {p : Int} {k' : Nat} (h : (p, k') ∈ PKL) {n k : Nat} (hn : 2 ≤ n) (hn2 : n ≤ 64) (hk : k ≤ 6) (he : (n : Int) * p ^ k = p ^ k') : (n : Int) % p = 0 := by
  have h1 := List.all_eq_true.1 (List.all_eq_true.1 (List.all_eq_true.1 rest_table (p, k') h) n (List.mem_range.2 (by omega))) k (List.mem_range.2 (by omega))
  have e1 : decide (n < 2) = false := by simp; omega
  have e2 : ((n : Int) * p ^ k == p ^ k') = true := by simp [he]
  rw [e1, e2] at h1
  simpa using h1
set_option maxHeartbeats 800000 in
theorem l03Split_any (q : Int) (w : World) (hq : 2 ≤ q) (hq2 : q ≤ 64) :
    Calls Tryz.prog 122 #[.int .i64 q] w fun e w' => e = .returned (.tuple #[.int .i64 (splF q).1, .int .i64 (splF q).2]) ∧ w = w' := by
  have hin := l00In_any q 2 64 w
  rw [inB_mk ⟨hq, hq2⟩] at hin
  go_enter Tryz.func122, Tryz.ntmps122
  go_wp2_with fail
  refine hin.mono ?_
  rintro e w' ⟨rfl, rfl⟩
  clear hin
  obtain ⟨Q, rfl⟩ : ∃ Q : Nat, q = (Q : Int) := ⟨q.toNat, by omega⟩
  go_wp2
  go_loop [4] (fun i => ∃ p : Nat, 2 ≤ p ∧ p ≤ Q ∧ i = .int .i64 p ∧ ∀ d, 2 ≤ d → d < p → Q % d ≠ 0) (fun i => Q - (intOf i).toNat)
  case atStart => exact ⟨2, by omega, by omega, rfl, fun d h1 h2 => by omega⟩
  case round =>
    obtain ⟨p, hp2, hpQ, rfl, hno⟩ := hrel
    by_cases hd : Q % p = 0
    · have HL := Lib.hid (ld_ok (q := Q) (p := p) (by omega) (by omega) hp2 hpQ hd hno)
      have hd' : (((Q : Int) % (p : Int)) != 0) = false := by
        have : (Q : Int) % (p : Int) = 0 := by omega
        simp [this]
      clear hno
      have hp0 : (p : Int) ≠ 0 := by omega
      have hpI : 2 ≤ (p : Int) := by omega
      have hpI2 : (p : Int) ≤ 64 := by omega
      clear hd
      go_wp2
      go_loop [5, 6] (fun i x => ∃ k n : Nat, k ≤ 6 ∧ 1 ≤ n ∧ n ≤ Q ∧ i = .int .i64 k ∧ x = .int .i64 n ∧ (n : Int) * (p : Int) ^ k = (Q : Int)) (fun _ x => (intOf x).toNat)
      case atStart => exact ⟨0, Q, by omega, by omega, by omega, rfl, rfl, by rw [Int.pow_zero, Int.mul_one]⟩
      case round =>
        obtain ⟨k, n, hk6, hn1, hnQ, rfl, rfl, he⟩ := hrel
        have HE := Lib.hid he
        clear he
        by_cases hgt : 1 < n
        · by_cases hnd : n % p = 0
          · have hnd' : (((n : Int) % (p : Int)) != 0) = false := by
              have : (n : Int) % (p : Int) = 0 := by omega
              simp [this]
            have hdv : (n : Int) / (p : Int) = ((n / p : Nat) : Int) := by simp
            have hnp : n / p * p = n := Nat.div_mul_cancel (Nat.dvd_of_mod_eq_zero hnd)
            have hnp1 : 1 ≤ n / p := by
              rcases Nat.eq_zero_or_pos (n / p) with e | e
              · rw [e] at hnp; omega
              · exact e
            have hnp2 : n / p < n := Nat.div_lt_self (by omega) (by omega)
            have HNX := Lib.hid (show (((n / p : Nat) : Int)) * (p : Int) ^ (k + 1) = (Q : Int) from by
              rw [pow_succ_int, ← Int.mul_assoc, ← HE.out]
              congr 1
              exact_mod_cast hnp)
            have HK := Lib.hid (show k + 1 ≤ 6 from by
              have h1 : (p : Int) ^ (k + 1) ≤ 64 := by
                have h2 := HNX.out
                have h3 : 0 ≤ (p : Int) ^ (k + 1) := Int.le_of_lt (Int.pow_pos (by omega))
                have h4 : 1 * (p : Int) ^ (k + 1) ≤ ((n / p : Nat) : Int) * (p : Int) ^ (k + 1) := Int.mul_le_mul_of_nonneg_right (by omega) h3
                omega
              exact (pow_le64 hpI (by omega) h1).2)
            have HB := Lib.hid (show 1 ≤ n / p ∧ n / p ≤ Q ∧ n / p < n from ⟨hnp1, by omega, hnp2⟩)
            have HDV := Lib.hid hdv
            have hdv0 : 0 ≤ (n : Int) / (p : Int) := by omega
            have hdv1 : (n : Int) / (p : Int) ≤ 64 := by omega
            clear hnd hnp hnp1 hnp2 hdv
            go_wp2
            go_round
            case rel => exact ⟨k + 1, n / p, HK.out, HB.out.1, HB.out.2.1, by go_num, by rw [HDV.out], HNX.out⟩
            case measure => simp [intOf]; have := HB.out.2.2; omega
          · have hnd' : (((n : Int) % (p : Int)) != 0) = true := by
              have : ¬ (n : Int) % (p : Int) = 0 := by omega
              simp [this]
            have HS := Lib.hid (show splF (Q : Int) = (0, 0) from splF_none fun p' k' hm he => by
              have e1 := HL.out.2 p' k' hm he
              subst e1
              have h1 := rest_ok hm (n := n) (k := k) (by omega) (by omega) hk6 (by rw [HE.out, he])
              omega)
            clear hnd
            go_wp2
            go_ret2
            exact ⟨by rw [HS.out]; rfl, rfl⟩
        · obtain rfl : n = 1 := by omega
          have HS := Lib.hid (show splF (Q : Int) = ((p : Int), (k : Int)) from by
            have h1 := HE.out
            rw [show ((1 : Nat) : Int) = 1 from rfl, Int.one_mul] at h1
            have hk1 : 1 ≤ k := by
              rcases Nat.eq_zero_or_pos k with e | e
              · subst e; rw [Int.pow_zero] at h1; omega
              · exact e
            exact splF_of (PKL_mem HL.out.1 hk1 hk6 (by rw [h1]; omega)) h1)
          go_wp2
          go_ret2
          exact ⟨by rw [HS.out]; rfl, rfl⟩
    · have hd' : (((Q : Int) % (p : Int)) != 0) = true := by
        have : ¬ (Q : Int) % (p : Int) = 0 := by omega
        simp [this]
      have hlt : p < Q := by
        rcases Nat.lt_or_ge p Q with h | h
        · exact h
        · have : p = Q := by omega
          subst this
          simp at hd
      have HN := Lib.hid (show ∀ d, 2 ≤ d → d < p + 1 → Q % d ≠ 0 from fun d h1 h2 => by
        by_cases e : d = p
        · subst e; exact hd
        · exact hno d h1 (by omega))
      clear hno hd
      go_wp2
      go_round
      case rel => exact ⟨p + 1, by omega, by omega, by go_num, HN.out⟩
      case measure => simp [intOf]; omega
theorem facs_table : ((List.range 65).all fun q => decide (q < 2) || (let l := facsOf (q : Int); if l.all (fun x => x == nth l 0) then (nth l 0 == (splF (q : Int)).1 && ((l.length : Int) == (splF (q : Int)).2)) else (splF (q : Int) == (0, 0)))) = true := by decide +kernel
def ppF (n : Int) : Int × Int := if (facsOf n).all (fun x => x == nth (facsOf n) 0) then (nth (facsOf n) 0, ((facsOf n).length : Int)) else (0, 0)
theorem ppF_in {q : Int} (h1 : 2 ≤ q) (h2 : q ≤ 64) : ppF q = splF q := by
  have h := List.all_eq_true.1 facs_table q.toNat (List.mem_range.2 (by omega))
  rw [Int.toNat_of_nonneg (by omega)] at h
  have e1 : decide (q.toNat < 2) = false := by simp; omega
  rw [e1, Bool.false_or] at h
  unfold ppF
  dsimp only at h
  split at h
  · rename_i ha
    rw [if_pos ha]
    simp only [Bool.and_eq_true, beq_iff_eq] at h
    exact Prod.ext h.1 h.2
  · rename_i ha
    rw [if_neg ha]
    have e2 : splF q = (0, 0) := by simpa using h
    exact e2.symm
theorem all_to {l : List Int} {z : Int} (h : ∀ i, i < l.length → nth l i = z) : l.all (fun x => x == z) = true := by
  refine List.all_eq_true.2 fun x hx => ?_
  obtain ⟨i, hi, rfl⟩ := List.mem_iff_getElem.1 hx
  have := h i hi
  rw [nth_get hi] at this
  simpa using this
theorem all_no {l : List Int} {z : Int} {i : Nat} (hi : i < l.length) (h : nth l i ≠ z) : l.all (fun x => x == z) = false := by
  cases hb : l.all (fun x => x == z) with
  | false => rfl
  | true =>
    have := List.all_eq_true.1 hb l[i] (List.getElem_mem hi)
    rw [nth_get hi] at h
    exact absurd (by simpa using this) h
set_option maxHeartbeats 800000 in
theorem primePower_any (n : Int) (w : World) :
    Calls Tryz.prog 176 #[.int .i64 n] w fun e w' => e = .returned (.tuple #[.int .i64 (ppF n).1, .int .i64 (ppF n).2]) ∧ Below w.heap.size w w' := by
  go_enter Tryz.func176, Tryz.ntmps176
  go_wp2_with fail
  refine (impl_FactorsOf n w).mono ?_
  rintro e w1 ⟨A, k, c, rfl, ho, hb1⟩
  have hla := Lib.hid (show (facsOf n).length = k from ho.len)
  have hcap := ho.os.cap
  have hk := hcap.1
  have hc := hcap.2
  have hri := ho.reads
  clear hcap ho
  have HP1 := Lib.hid (show (facsOf n).all (fun x => x == nth (facsOf n) 0) = true → ppF n = (nth (facsOf n) 0, ((facsOf n).length : Int)) from fun h => by unfold ppF; rw [if_pos h])
  have HP0 := Lib.hid (show (facsOf n).all (fun x => x == nth (facsOf n) 0) = false → ppF n = (0, 0) from fun h => by unfold ppF; rw [h]; rfl)
  generalize facsOf n = l at *
  go_wp2
  go_loop [6, 11] (fun _ i => ∃ j : Nat, j ≤ k ∧ i = .int .i64 j ∧ ∀ t, t < j → nth l t = nth l 0) (fun _ i => k - (intOf i).toNat)
  case atStart => exact ⟨0, Nat.zero_le _, rfl, fun t h => by omega⟩
  case round =>
    obtain ⟨j, hj, rfl, hall⟩ := hrel
    have HA := Lib.hid hall
    clear hall
    by_cases hlt : j < k
    · obtain ⟨ad, rfl, hcj, -⟩ := hri.get hlt
      obtain ⟨ad', hA, hc0, -⟩ := hri.get (k := 0) (by omega)
      cases hA
      rw [show ad.add 0 = ad from by simp [Addr.add]] at hc0
      by_cases hz : nth l j = nth l 0
      · have HN := Lib.hid (show ∀ t, t < j + 1 → nth l t = nth l 0 from fun t ht => by
          by_cases e : t = j
          · subst e; exact hz
          · exact HA.out t (by omega))
        have hz' : (nth l j != nth l 0) = false := by simp [hz]
        clear hz
        have hk0 : 0 < k := by omega
        generalize nth l j = x at *
        go_wp2
        go_round
        case rel => exact ⟨j + 1, by omega, by go_num, HN.out⟩
        case measure => simp [intOf]; omega
      · have HF := Lib.hid (HP0.out (all_no (by rw [hla.out]; exact hlt) hz))
        have hz' : (nth l j != nth l 0) = true := by simp [hz]
        clear hz
        have hk0 : 0 < k := by omega
        generalize nth l j = x at *
        generalize nth l 0 = y at *
        go_wp2
        go_ret2
        exact ⟨by rw [HF.out]; rfl, hb1⟩
    · obtain rfl : k = j := by omega
      have HT := Lib.hid (HP1.out (all_to fun i hi => HA.out i (by rw [hla.out] at hi; exact hi)))
      by_cases hk0 : 0 < k
      · obtain ⟨ad, rfl, hc0, i1, i2⟩ := hri.get (k := 0) hk0
        rw [show ad.add 0 = ad from by simp [Addr.add]] at hc0
        have hk0' : ((k : Int) == 0) = false := by simp; omega
        have hkz : ¬ (k : Int) = 0 := by omega
        generalize nth l 0 = y at *
        go_wp2
        go_quiet ((go_at_call 48; exact Quiet.call ((sizeI_any (some ad) k c _ (by omega)).mono fun _ _ h => Quiet.of_same h)))
        go_wp2
        go_ret2
        exact ⟨by rw [HT.out, hla.out]; rfl, hb1.trans (below_drewn' _ _ _)⟩
      · obtain rfl : k = 0 := by omega
        have hl0 : l = [] := by have := hla.out; simpa using this
        have HF := Lib.hid (show ppF n = (0, 0) from by rw [HT.out, hl0]; rfl)
        clear hl0
        go_wp2
        go_ret2
        exact ⟨by rw [HF.out]; rfl, hb1⟩
end Go.Proofs.YtnmcmologlgccaaGreat
