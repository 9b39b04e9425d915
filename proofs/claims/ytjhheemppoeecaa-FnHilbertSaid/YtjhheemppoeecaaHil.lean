/- Exponents, factors, prime numbers, powers, Hilbert symbols: what the functions of both sides return. No condition beyond those stated. -/
import Derived.Test.YtjhheemppoeecaaNum2
import Derived.Test.YtjhheemppoeecaaBase
import Derived.Test.YtjhheemppoeecaaOwn
import Derived.Deep.QuietTactic
import Derived.BigQuiet
namespace Go.Proofs.Ytjhheemppoeecaa
open Go.RowKit

theorem int_info' : (Try.prog.info? 2).map (fun i => (i.zero, i.size, i.bytes)) = some (some (.int .i64 0), 1, 8) := by kernel_rfl
/-- a number that is not 0, of at most six digits and a bit -/
def Mil (a : Int) : Prop := a ≠ 0 ∧ -1000000 ≤ a ∧ a ≤ 1000000
theorem Mil.div {a p : Int} (h : Mil a) (hp : 2 ≤ p) (hd : a.tmod p = 0) : Mil (a.tdiv p) := by
  obtain ⟨h1, h2, _⟩ := tdiv_lt h.1 hp hd
  obtain ⟨h3, h4, h5⟩ := h
  exact ⟨h2, by omega, by omega⟩
theorem Mil.cof {a p : Int} (h : Mil a) (hp : 2 ≤ p) : Mil (cof a p) := by
  have h1 := (expo_le h.1 hp).2
  have h2 := (expo_spec h.1 hp).2.2
  obtain ⟨h3, h4, h5⟩ := h
  exact ⟨h2, by omega, by omega⟩
theorem Mil.expo {a p : Int} (h : Mil a) (hp : 2 ≤ p) : expo a p ≤ 19 := expo_20 h.1 hp (by obtain ⟨h3, h4, h5⟩ := h; omega)

theorem mul_bd' {a b A B : Int} (ha : 0 ≤ a) (hA : a ≤ A) (hb : 0 ≤ b) (hB : b ≤ B) : 0 ≤ a * b ∧ a * b ≤ A * B :=
  ⟨Int.mul_nonneg ha hb, Int.mul_le_mul hA hB hb (by omega)⟩

set_option maxHeartbeats 400000 in
theorem l29Split_any (a p : Int) (w : World) (ha : Mil a) (hp : 2 ≤ p) (hp' : p ≤ 1000000) :
    Calls Try.prog 56 #[.int .i64 a, .int .i64 p] w fun e w' => e = .returned (.tuple #[.int .i64 (expo a p), .int .i64 (cof a p)]) ∧ w = w' := by
  go_enter Try.func56, Try.ntmps56
  go_wp2
  go_loop [0, 6] (fun x i => ∃ (b : Int) (j : Nat), x = .int .i64 b ∧ i = .int .i64 j ∧ Mil b ∧ j + expo b p = expo a p ∧ cof b p = cof a p) (fun x _ => (intOf x).natAbs)
  case atStart => exact ⟨a, 0, rfl, rfl, ha, by omega, rfl⟩
  case round =>
    obtain ⟨b, j, rfl, rfl, hb, he, hc⟩ := hrel
    have hj := ha.expo hp
    have hb1 := hb.2.1
    have hb2 := hb.2.2
    have hj' : j ≤ 19 := by omega
    clear hj
    by_cases hd : b.tmod p = 0
    · have hy := expo_yes hb.1 hp hd
      have hm := hb.div hp hd
      have hlt := (tdiv_lt hb.1 hp hd).1
      have hq1 := hm.2.1
      have hq2 := hm.2.2
      have HE := Lib.hid (show (j + 1) + expo (b.tdiv p) p = expo a p ∧ cof (b.tdiv p) p = cof a p from ⟨by omega, by rw [← hy.2]; exact hc⟩)
      have hd' : (b.tmod p == 0) = true := by simp [hd]
      clear he hc hy hd
      go_wp2
      go_round
      case rel => exact ⟨b.tdiv p, j + 1, rfl, by go_num, hm, HE.out.1, HE.out.2⟩
      case measure => simpa [intOf] using hlt
    · have hd' : (b.tmod p == 0) = false := by simp [hd]
      have hy := expo_no hd
      have HE := Lib.hid (show j = expo a p ∧ b = cof a p from ⟨by omega, by rw [← hy.2]; exact hc⟩)
      clear he hc hy hd
      go_wp2
      go_ret2
      exact ⟨by rw [HE.out.1, HE.out.2]; rfl, rfl⟩

set_option maxHeartbeats 400000 in
theorem split_any (a p : Int) (w : World) (ha : Mil a) (hp : 2 ≤ p) (hp' : p ≤ 1000000) :
    Calls Try.prog 40 #[.int .i64 a, .int .i64 p] w fun e w' => e = .returned (.tuple #[.int .i64 (expo a p), .int .i64 (cof a p)]) ∧ w = w' := by
  go_enter Try.func40, Try.ntmps40
  go_wp2
  go_loop [0, 6] (fun x i => ∃ (b : Int) (j : Nat), x = .int .i64 b ∧ i = .int .i64 j ∧ Mil b ∧ j + expo b p = expo a p ∧ cof b p = cof a p) (fun x _ => (intOf x).natAbs)
  case atStart => exact ⟨a, 0, rfl, rfl, ha, by omega, rfl⟩
  case round =>
    obtain ⟨b, j, rfl, rfl, hb, he, hc⟩ := hrel
    have hj := ha.expo hp
    have hb1 := hb.2.1
    have hb2 := hb.2.2
    have hj' : j ≤ 19 := by omega
    clear hj
    by_cases hd : b.tmod p = 0
    · have hy := expo_yes hb.1 hp hd
      have hm := hb.div hp hd
      have hlt := (tdiv_lt hb.1 hp hd).1
      have hq1 := hm.2.1
      have hq2 := hm.2.2
      have HE := Lib.hid (show (j + 1) + expo (b.tdiv p) p = expo a p ∧ cof (b.tdiv p) p = cof a p from ⟨by omega, by rw [← hy.2]; exact hc⟩)
      have hd' : (b.tmod p == 0) = true := by simp [hd]
      clear he hc hy hd
      go_wp2
      go_round
      case rel => exact ⟨b.tdiv p, j + 1, rfl, by go_num, hm, HE.out.1, HE.out.2⟩
      case measure => simpa [intOf] using hlt
    · have hd' : (b.tmod p == 0) = false := by simp [hd]
      have hy := expo_no hd
      have HE := Lib.hid (show j = expo a p ∧ b = cof a p from ⟨by omega, by rw [← hy.2]; exact hc⟩)
      clear he hc hy hd
      go_wp2
      go_ret2
      exact ⟨by rw [HE.out.1, HE.out.2]; rfl, rfl⟩

/-- the factors that a call returns for n: none out of range -/
def facsOf (n : Int) : List Int := if inB n 1 1000000 then facs 2 n else []

set_option maxHeartbeats 1000000 in
theorem spec_FactorsOf (n : Int) (w : World) :
    Calls Try.prog 27 #[.int .i64 n] w (RetI w 2 (facsOf n)) := by
  by_cases h : inB n 1 1000000 = true
  · obtain ⟨n1, n2⟩ := inB_true h
    have hfl := facs_len (n := n) (by omega) n2
    have HF := Lib.hid (show facsOf n = facs 2 n by simp [facsOf, h])
    have hall : ∀ q ∈ facs 2 n, 2 ≤ q ∧ q ≤ n := fun q hq => facs_ge (by omega) hq
    have HA := Lib.hid hall; clear hall
    go_enter Try.func27, Try.ntmps27
    go_wp2_with (go_at_call 44; refine (l00In_any _ _ _ _).mono ?_; rintro e w' ⟨rfl, rfl⟩)
    go_loopw [0, 3, 4] (fun x v d wr => ∃ (m p : Int) (fs : List Int) (A : Option Addr) (k c : Nat), x = .int .i64 m ∧ d = .int .i64 p ∧ v = .slice A k c ∧ 1 ≤ m ∧ m ≤ 1000000 ∧ 2 ≤ p ∧ p ≤ 1001 ∧ fs ++ facs p m = facs 2 n ∧ OI wr w.heap.size 2 A k c fs ∧ Below w.heap.size w wr) (fun _ _ d _ => (1002 - intOf d).toNat)
    case atStart => exact ⟨n, 2, [], _, _, _, rfl, rfl, rfl, n1, n2, by omega, by omega, rfl, OI.lit w w.heap.size 2 [] (Nat.le_refl _) (by simp) All64.nil_, below_alloc w _⟩
    case round =>
      obtain ⟨m, p, fs, A, k, c, rfl, rfl, rfl, hm1, hm2, hp1, hp2, he, ho, hw⟩ := hrel
      have hmul := mul_bd' (a := p) (b := p) (A := 1001) (B := 1001) (by omega) hp2 (by omega) hp2
      have hmul1 := hmul.1
      have hmul2 := hmul.2
      clear hmul
      by_cases hsq : p * p ≤ m
      · have hp3 := sq_bd (by omega) hsq hm2
        have HE := Lib.hid (show fs ++ (List.replicate (expo m p) p ++ facs (p + 1) (cof m p)) = facs 2 n by rw [← he, facs_eq hp1 (by omega), if_pos hsq])
        clear he
        obtain ⟨wo, hwo⟩ : ∃ wo : World, wo = wr := ⟨_, rfl⟩
        subst hwo
        go_wp2
        go_loopw [0, 3] (fun x v wi => ∃ (b : Int) (gs : List Int) (A' : Option Addr) (k' c' : Nat), x = .int .i64 b ∧ v = .slice A' k' c' ∧ 1 ≤ b ∧ b ≤ 1000000 ∧ gs ++ (List.replicate (expo b p) p ++ facs (p + 1) (cof b p)) = facs 2 n ∧ OI wi w.heap.size 2 A' k' c' gs ∧ Below w.heap.size w wi) (fun x _ _ => (intOf x).natAbs)
        case atStart => exact ⟨m, fs, A, k, c, rfl, rfl, hm1, hm2, HE.out, ho, hw⟩
        case round =>
          clear hsq HE ho hw hmul1 hmul2 hm1 hm2
          rename_i wi _
          obtain ⟨b, gs, A', k', c', rfl, rfl, hb1, hb2, he', ho', hw'⟩ := hrel
          have hkl : k' ≤ 19 := by
            have h1 := ho'.len
            have h2 := congrArg List.length he'
            rw [List.length_append] at h2
            omega
          by_cases hd : b.tmod p = 0
          · have hy := expo_yes (a := b) (by omega) hp1 hd
            obtain ⟨hlt, hne, hprod⟩ := tdiv_lt (a := b) (by omega) hp1 hd
            have hq0 : 0 ≤ b.tdiv p := Int.tdiv_nonneg (by omega) (by omega)
            have hediv : b.tdiv p = b / p := Int.tdiv_eq_ediv_of_nonneg (by omega)
            have hdd : (b % p == 0) = true := by rw [← tmod_emod (by omega), hd]; rfl
            have HQ := Lib.hid (show (gs ++ [p]) ++ (List.replicate (expo (b / p) p) p ++ facs (p + 1) (cof (b / p) p)) = facs 2 n by
              rw [← he', ← hediv, hy.1, hy.2, List.replicate_succ]; simp)
            have hq1 : 1 ≤ b / p := by rw [← hediv]; omega
            have hq2 : b / p ≤ 1000000 := by rw [← hediv]; omega
            have hq3 : (b / p).natAbs < b.natAbs := by rw [← hediv]; exact hlt
            clear hy hlt hne hprod hq0 hediv hd he'
            go_wp2_with (at_builtin; refine wpList_app1 _ rfl (.tmp 20) (.tmp 22) 30 rfl 2 (.int .i64 0) 8 Try.underlying30 int_info' rfl (by omega) w.heap.size A' k' c' (ints gs) rfl ho'.os (.int .i64 p) rfl rfl (by omega) hw'.size ?_; intro A2 c2 w2 ho2 hg2 hn2)
            have hw2 := below_own hw' hg2 hw'.size (fun b hb => (ho'.os.lt hb).1)
            have ho3 := OI.snoc ho2 ho'.all (z := p) ⟨by omega, by omega⟩
            clear ho2 hg2 hn2 ho' hw'
            go_wp2
            go_roundw
            case rel => exact ⟨b / p, gs ++ [p], A2, k' + 1, c2, rfl, rfl, hq1, hq2, HQ.out, ho3, hw2⟩
            case measure => simpa [intOf] using hq3
          · have hdd : (b % p == 0) = false := by rw [← tmod_emod (by omega)]; simpa using hd
            have hy := expo_no hd
            have HQ := Lib.hid (show gs ++ facs (p + 1) b = facs 2 n by rw [← he', hy.1, hy.2]; simp)
            clear hy hd he'
            go_wp2
            go_roundw
            case rel => exact ⟨b, p + 1, gs, A', k', c', rfl, rfl, rfl, hb1, hb2, by omega, by omega, HQ.out, ho', hw'⟩
            case measure => simp [intOf]; omega
      · have hkl : k ≤ 19 := by
          have h1 := ho.len
          have h2 := congrArg List.length he
          rw [List.length_append] at h2
          omega
        by_cases hm : 1 < m
        · have HE := Lib.hid (show fs ++ [m] = facsOf n by rw [HF.out, ← he, facs_eq hp1 (by omega), if_neg hsq, if_pos hm])
          clear he
          go_wp2_with (at_builtin; refine wpList_app1 _ rfl (.tmp 29) (.tmp 31) 30 rfl 2 (.int .i64 0) 8 Try.underlying30 int_info' rfl (by omega) w.heap.size A k c (ints fs) rfl ho.os (.int .i64 m) rfl rfl (by omega) hw.size ?_; intro A2 c2 w2 ho2 hg2 hn2)
          have hw2 := below_own hw hg2 hw.size (fun b hb => (ho.os.lt hb).1)
          have ho3 := OI.snoc ho2 ho.all (z := m) ⟨by omega, by omega⟩
          go_wp2
          go_ret
          exact ⟨A2, k + 1, c2, rfl, by rw [← HE.out]; exact ho3, hw2⟩
        · have HE := Lib.hid (show fs = facsOf n by rw [HF.out, ← he, facs_eq hp1 (by omega), if_neg hsq, if_neg hm]; simp)
          clear he
          go_wp2
          go_ret
          exact ⟨A, k, c, rfl, by rw [← HE.out]; exact ho, hw⟩
  · have h' := inB_false h
    have HF := Lib.hid (show facsOf n = [] by simp [facsOf, h'])
    clear h
    go_enter Try.func27, Try.ntmps27
    go_wp2_with (go_at_call 44; refine (l00In_any _ _ _ _).mono ?_; rintro e w' ⟨rfl, rfl⟩)
    go_ret
    exact ⟨none, 0, 0, rfl, by rw [HF.out]; exact OI.nil_ _ _ _, Below.refl _ _⟩

set_option maxHeartbeats 1000000 in
theorem impl_FactorsOf (n : Int) (w : World) :
    Calls Try.prog 24 #[.int .i64 n] w (RetI w 2 (facsOf n)) := by
  by_cases h : inB n 1 1000000 = true
  · obtain ⟨n1, n2⟩ := inB_true h
    have hfl := facs_len (n := n) (by omega) n2
    have HF := Lib.hid (show facsOf n = facs 2 n by simp [facsOf, h])
    have hall : ∀ q ∈ facs 2 n, 2 ≤ q ∧ q ≤ n := fun q hq => facs_ge (by omega) hq
    have HA := Lib.hid hall; clear hall
    go_enter Try.func24, Try.ntmps24
    go_wp2_with (go_at_call 33; refine (within_any _ _ _ _).mono ?_; rintro e w' ⟨rfl, rfl⟩)
    go_loopw [0, 3, 4] (fun x v d wr => ∃ (m p : Int) (fs : List Int) (A : Option Addr) (k c : Nat), x = .int .i64 m ∧ d = .int .i64 p ∧ v = .slice A k c ∧ 1 ≤ m ∧ m ≤ 1000000 ∧ 2 ≤ p ∧ p ≤ 1001 ∧ fs ++ facs p m = facs 2 n ∧ OI wr w.heap.size 2 A k c fs ∧ Below w.heap.size w wr) (fun _ _ d _ => (1002 - intOf d).toNat)
    case atStart => exact ⟨n, 2, [], _, _, _, rfl, rfl, rfl, n1, n2, by omega, by omega, rfl, OI.nil_ _ _ _, Below.refl _ _⟩
    case round =>
      obtain ⟨m, p, fs, A, k, c, rfl, rfl, rfl, hm1, hm2, hp1, hp2, he, ho, hw⟩ := hrel
      have hmul := mul_bd' (a := p) (b := p) (A := 1001) (B := 1001) (by omega) hp2 (by omega) hp2
      have hmul1 := hmul.1
      have hmul2 := hmul.2
      clear hmul
      by_cases hsq : p * p ≤ m
      · have hp3 := sq_bd (by omega) hsq hm2
        have HE := Lib.hid (show fs ++ (List.replicate (expo m p) p ++ facs (p + 1) (cof m p)) = facs 2 n by rw [← he, facs_eq hp1 (by omega), if_pos hsq])
        clear he
        obtain ⟨wo, hwo⟩ : ∃ wo : World, wo = wr := ⟨_, rfl⟩
        subst hwo
        go_wp2
        go_loopw [0, 3] (fun x v wi => ∃ (b : Int) (gs : List Int) (A' : Option Addr) (k' c' : Nat), x = .int .i64 b ∧ v = .slice A' k' c' ∧ 1 ≤ b ∧ b ≤ 1000000 ∧ gs ++ (List.replicate (expo b p) p ++ facs (p + 1) (cof b p)) = facs 2 n ∧ OI wi w.heap.size 2 A' k' c' gs ∧ Below w.heap.size w wi) (fun x _ _ => (intOf x).natAbs)
        case atStart => exact ⟨m, fs, A, k, c, rfl, rfl, hm1, hm2, HE.out, ho, hw⟩
        case round =>
          clear hsq HE ho hw hmul1 hmul2 hm1 hm2
          rename_i wi _
          obtain ⟨b, gs, A', k', c', rfl, rfl, hb1, hb2, he', ho', hw'⟩ := hrel
          have hkl : k' ≤ 19 := by
            have h1 := ho'.len
            have h2 := congrArg List.length he'
            rw [List.length_append] at h2
            omega
          by_cases hd : b.tmod p = 0
          · have hy := expo_yes (a := b) (by omega) hp1 hd
            obtain ⟨hlt, hne, hprod⟩ := tdiv_lt (a := b) (by omega) hp1 hd
            have hq0 : 0 ≤ b.tdiv p := Int.tdiv_nonneg (by omega) (by omega)
            have hediv : b.tdiv p = b / p := Int.tdiv_eq_ediv_of_nonneg (by omega)
            have hdd : (b % p == 0) = true := by rw [← tmod_emod (by omega), hd]; rfl
            have HQ := Lib.hid (show (gs ++ [p]) ++ (List.replicate (expo (b / p) p) p ++ facs (p + 1) (cof (b / p) p)) = facs 2 n by
              rw [← he', ← hediv, hy.1, hy.2, List.replicate_succ]; simp)
            have hq1 : 1 ≤ b / p := by rw [← hediv]; omega
            have hq2 : b / p ≤ 1000000 := by rw [← hediv]; omega
            have hq3 : (b / p).natAbs < b.natAbs := by rw [← hediv]; exact hlt
            clear hy hlt hne hprod hq0 hediv hd he'
            go_wp2_with (at_builtin; refine wpList_app1 _ rfl (.tmp 19) (.tmp 21) 30 rfl 2 (.int .i64 0) 8 Try.underlying30 int_info' rfl (by omega) w.heap.size A' k' c' (ints gs) rfl ho'.os (.int .i64 p) rfl rfl (by omega) hw'.size ?_; intro A2 c2 w2 ho2 hg2 hn2)
            have hw2 := below_own hw' hg2 hw'.size (fun b hb => (ho'.os.lt hb).1)
            have ho3 := OI.snoc ho2 ho'.all (z := p) ⟨by omega, by omega⟩
            clear ho2 hg2 hn2 ho' hw'
            go_wp2
            go_roundw
            case rel => exact ⟨b / p, gs ++ [p], A2, k' + 1, c2, rfl, rfl, hq1, hq2, HQ.out, ho3, hw2⟩
            case measure => simpa [intOf] using hq3
          · have hdd : (b % p == 0) = false := by rw [← tmod_emod (by omega)]; simpa using hd
            have hy := expo_no hd
            have HQ := Lib.hid (show gs ++ facs (p + 1) b = facs 2 n by rw [← he', hy.1, hy.2]; simp)
            clear hy hd he'
            go_wp2
            go_roundw
            case rel => exact ⟨b, p + 1, gs, A', k', c', rfl, rfl, rfl, hb1, hb2, by omega, by omega, HQ.out, ho', hw'⟩
            case measure => simp [intOf]; omega
      · have hkl : k ≤ 19 := by
          have h1 := ho.len
          have h2 := congrArg List.length he
          rw [List.length_append] at h2
          omega
        by_cases hm : 1 < m
        · have HE := Lib.hid (show fs ++ [m] = facsOf n by rw [HF.out, ← he, facs_eq hp1 (by omega), if_neg hsq, if_pos hm])
          clear he
          go_wp2_with (at_builtin; refine wpList_app1 _ rfl (.tmp 28) (.tmp 30) 30 rfl 2 (.int .i64 0) 8 Try.underlying30 int_info' rfl (by omega) w.heap.size A k c (ints fs) rfl ho.os (.int .i64 m) rfl rfl (by omega) hw.size ?_; intro A2 c2 w2 ho2 hg2 hn2)
          have hw2 := below_own hw hg2 hw.size (fun b hb => (ho.os.lt hb).1)
          have ho3 := OI.snoc ho2 ho.all (z := m) ⟨by omega, by omega⟩
          go_wp2
          go_ret
          exact ⟨A2, k + 1, c2, rfl, by rw [← HE.out]; exact ho3, hw2⟩
        · have HE := Lib.hid (show fs = facsOf n by rw [HF.out, ← he, facs_eq hp1 (by omega), if_neg hsq, if_neg hm]; simp)
          clear he
          go_wp2
          go_ret
          exact ⟨A, k, c, rfl, by rw [← HE.out]; exact ho, hw⟩
  · have h' := inB_false h
    have HF := Lib.hid (show facsOf n = [] by simp [facsOf, h'])
    clear h
    go_enter Try.func24, Try.ntmps24
    go_wp2_with (go_at_call 33; refine (within_any _ _ _ _).mono ?_; rintro e w' ⟨rfl, rfl⟩)
    go_ret
    exact ⟨none, 0, 0, rfl, by rw [HF.out]; exact OI.nil_ _ _ _, Below.refl _ _⟩
end Go.Proofs.Ytjhheemppoeecaa
