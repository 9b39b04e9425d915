/- The factors of a number, prime numbers. No condition. -/
import Derived.Test.YtnfddnideaakgaaZAM
import Derived.Test.YtnfddnideaakgaaZAD
import Derived.Test.YtnfddnideaakgaaZAA
import Derived.Deep.QuietTactic
import Derived.BigQuiet
import Derived.Test.YtnfddnideaakgaaZAL
import Derived.Test.YtnfddnideaakgaaZAF
set_option linter.unusedVariables false
set_option linter.unusedSimpArgs false
namespace Go.Proofs.Ytnfddnideaakgaa
open Go.RowKit

theorem int_info' : (Try.prog.info? 2).map (fun i => (i.zero, i.size, i.bytes)) = some (some (.int .i64 0), 1, 8) := by kernel_rfl
/-- a number that is not 0, of at most six digits and a bit -/
def Mil (a : Int) : Prop := a ≠ 0 ∧ -1000000 ≤ a ∧ a ≤ 1000000
theorem Mil.div {a p : Int} (h : Mil a) (hp : 2 ≤ p) (hd : a.tmod p = 0) : Mil (a.tdiv p) := by
  obtain ⟨h1, h2, _⟩ := tdiv_lt h.1 hp hd
  obtain ⟨h3, h4, h5⟩ := h
  exact ⟨h2, by omega, by omega⟩
theorem Mil.cof {a p : Int} (h : Mil a) (hp : 2 ≤ p) : Mil (cof a p) := by
  have h1 := (expo_le h.1 hp).2
  have h2 := (expo_spec h.1 hp).2.2
  obtain ⟨h3, h4, h5⟩ := h
  exact ⟨h2, by omega, by omega⟩
theorem Mil.expo {a p : Int} (h : Mil a) (hp : 2 ≤ p) : expo a p ≤ 19 := expo_20 h.1 hp (by obtain ⟨h3, h4, h5⟩ := h; omega)

theorem mul_bd' {a b A B : Int} (ha : 0 ≤ a) (hA : a ≤ A) (hb : 0 ≤ b) (hB : b ≤ B) : 0 ≤ a * b ∧ a * b ≤ A * B :=
  ⟨Int.mul_nonneg ha hb, Int.mul_le_mul hA hB hb (by omega)⟩


/-- the factors that a call returns for n: none out of range -/
def facsOf (n : Int) : List Int := if inB n 1 1000000 then facs 2 n else []

set_option maxHeartbeats 1000000 in
theorem impl_FactorsOf (n : Int) (w : World) :
    Calls Try.prog 25 #[.int .i64 n] w (RetI w 2 (facsOf n)) := by
  by_cases h : inB n 1 1000000 = true
  · obtain ⟨n1, n2⟩ := inB_true h
    have hfl := facs_len (n := n) (by omega) n2
    have HF := Lib.hid (show facsOf n = facs 2 n by simp [facsOf, h])
    have hall : ∀ q ∈ facs 2 n, 2 ≤ q ∧ q ≤ n := fun q hq => facs_ge (by omega) hq
    have HA := Lib.hid hall; clear hall
    go_enter Try.func25, Try.ntmps25
    go_wp2_with (go_at_call 20; refine (within_any _ _ _ _).mono ?_; rintro e w' ⟨rfl, rfl⟩)
    go_loopw [0, 3, 4] (fun x v d wr => ∃ (m p : Int) (fs : List Int) (A : Option Addr) (k c : Nat), x = .int .i64 m ∧ d = .int .i64 p ∧ v = .slice A k c ∧ 1 ≤ m ∧ m ≤ 1000000 ∧ 2 ≤ p ∧ p ≤ 1001 ∧ fs ++ facs p m = facs 2 n ∧ OI wr w.heap.size 2 A k c fs ∧ Below w.heap.size w wr) (fun _ _ d _ => (1002 - intOf d).toNat)
    case atStart => exact ⟨n, 2, [], _, _, _, rfl, rfl, rfl, n1, n2, by omega, by omega, rfl, OI.nil_ _ _ _, Below.refl _ _⟩
    case round =>
      obtain ⟨m, p, fs, A, k, c, rfl, rfl, rfl, hm1, hm2, hp1, hp2, he, ho, hw⟩ := hrel
      have hmul := mul_bd' (a := p) (b := p) (A := 1001) (B := 1001) (by omega) hp2 (by omega) hp2
      have hmul1 := hmul.1
      have hmul2 := hmul.2
      clear hmul
      by_cases hsq : p * p ≤ m
      · have hp3 := sq_bd (by omega) hsq hm2
        have HE := Lib.hid (show fs ++ (List.replicate (expo m p) p ++ facs (p + 1) (cof m p)) = facs 2 n by rw [← he, facs_eq hp1 (by omega), if_pos hsq])
        clear he
        obtain ⟨wo, hwo⟩ : ∃ wo : World, wo = wr := ⟨_, rfl⟩
        subst hwo
        go_wp2
        go_loopw [0, 3] (fun x v wi => ∃ (b : Int) (gs : List Int) (A' : Option Addr) (k' c' : Nat), x = .int .i64 b ∧ v = .slice A' k' c' ∧ 1 ≤ b ∧ b ≤ 1000000 ∧ gs ++ (List.replicate (expo b p) p ++ facs (p + 1) (cof b p)) = facs 2 n ∧ OI wi w.heap.size 2 A' k' c' gs ∧ Below w.heap.size w wi) (fun x _ _ => (intOf x).natAbs)
        case atStart => exact ⟨m, fs, A, k, c, rfl, rfl, hm1, hm2, HE.out, ho, hw⟩
        case round =>
          clear hsq HE ho hw hmul1 hmul2 hm1 hm2
          rename_i wi _
          obtain ⟨b, gs, A', k', c', rfl, rfl, hb1, hb2, he', ho', hw'⟩ := hrel
          have hkl : k' ≤ 19 := by
            have h1 := ho'.len
            have h2 := congrArg List.length he'
            rw [List.length_append] at h2
            omega
          by_cases hd : b.tmod p = 0
          · have hy := expo_yes (a := b) (by omega) hp1 hd
            obtain ⟨hlt, hne, hprod⟩ := tdiv_lt (a := b) (by omega) hp1 hd
            have hq0 : 0 ≤ b.tdiv p := Int.tdiv_nonneg (by omega) (by omega)
            have hediv : b.tdiv p = b / p := Int.tdiv_eq_ediv_of_nonneg (by omega)
            have hdd : (b % p == 0) = true := by rw [← tmod_emod (by omega), hd]; rfl
            have HQ := Lib.hid (show (gs ++ [p]) ++ (List.replicate (expo (b / p) p) p ++ facs (p + 1) (cof (b / p) p)) = facs 2 n by
              rw [← he', ← hediv, hy.1, hy.2, List.replicate_succ]; simp)
            have hq1 : 1 ≤ b / p := by rw [← hediv]; omega
            have hq2 : b / p ≤ 1000000 := by rw [← hediv]; omega
            have hq3 : (b / p).natAbs < b.natAbs := by rw [← hediv]; exact hlt
            clear hy hlt hne hprod hq0 hediv hd he'
            go_wp2_with (at_builtin; refine wpList_app1 _ rfl (.tmp 19) (.tmp 21) 23 rfl 2 (.int .i64 0) 8 Try.underlying23 int_info' rfl (by omega) w.heap.size A' k' c' (ints gs) rfl ho'.os (.int .i64 p) rfl rfl (by omega) hw'.size ?_; intro A2 c2 w2 ho2 hg2 hn2)
            have hw2 := below_own hw' hg2 hw'.size (fun b hb => (ho'.os.lt hb).1)
            have ho3 := OI.snoc ho2 ho'.all (z := p) ⟨by omega, by omega⟩
            clear ho2 hg2 hn2 ho' hw'
            go_wp2
            go_roundw
            case rel => exact ⟨b / p, gs ++ [p], A2, k' + 1, c2, rfl, rfl, hq1, hq2, HQ.out, ho3, hw2⟩
            case measure => simpa [intOf] using hq3
          · have hdd : (b % p == 0) = false := by rw [← tmod_emod (by omega)]; simpa using hd
            have hy := expo_no hd
            have HQ := Lib.hid (show gs ++ facs (p + 1) b = facs 2 n by rw [← he', hy.1, hy.2]; simp)
            clear hy hd he'
            go_wp2
            go_roundw
            case rel => exact ⟨b, p + 1, gs, A', k', c', rfl, rfl, rfl, hb1, hb2, by omega, by omega, HQ.out, ho', hw'⟩
            case measure => simp [intOf]; omega
      · have hkl : k ≤ 19 := by
          have h1 := ho.len
          have h2 := congrArg List.length he
          rw [List.length_append] at h2
          omega
        by_cases hm : 1 < m
        · have HE := Lib.hid (show fs ++ [m] = facsOf n by rw [HF.out, ← he, facs_eq hp1 (by omega), if_neg hsq, if_pos hm])
          clear he
          go_wp2_with (at_builtin; refine wpList_app1 _ rfl (.tmp 28) (.tmp 30) 23 rfl 2 (.int .i64 0) 8 Try.underlying23 int_info' rfl (by omega) w.heap.size A k c (ints fs) rfl ho.os (.int .i64 m) rfl rfl (by omega) hw.size ?_; intro A2 c2 w2 ho2 hg2 hn2)
          have hw2 := below_own hw hg2 hw.size (fun b hb => (ho.os.lt hb).1)
          have ho3 := OI.snoc ho2 ho.all (z := m) ⟨by omega, by omega⟩
          go_wp2
          go_ret
          exact ⟨A2, k + 1, c2, rfl, by rw [← HE.out]; exact ho3, hw2⟩
        · have HE := Lib.hid (show fs = facsOf n by rw [HF.out, ← he, facs_eq hp1 (by omega), if_neg hsq, if_neg hm]; simp)
          clear he
          go_wp2
          go_ret
          exact ⟨A, k, c, rfl, by rw [← HE.out]; exact ho, hw⟩
  · have h' := inB_false h
    have HF := Lib.hid (show facsOf n = [] by simp [facsOf, h'])
    clear h
    go_enter Try.func25, Try.ntmps25
    go_wp2_with (go_at_call 20; refine (within_any _ _ _ _).mono ?_; rintro e w' ⟨rfl, rfl⟩)
    go_ret
    exact ⟨none, 0, 0, rfl, by rw [HF.out]; exact OI.nil_ _ _ _, Below.refl _ _⟩
def isP (n : Int) : Bool := inB n 2 1000000 && noDiv 2 n
theorem isP_facs (n : Int) : (((facsOf n).length : Int) == 1) = isP n := by
  have e : (((facsOf n).length : Int) == 1) = ((facsOf n).length == 1) := by rw [Bool.eq_iff_iff]; simp; omega
  rw [e]
  unfold facsOf isP
  by_cases h : inB n 1 1000000 = true
  · obtain ⟨h1, h2⟩ := inB_true h
    rw [if_pos h]
    by_cases h3 : n = 1
    · subst h3
      decide
    · rw [inB_mk (show 2 ≤ n ∧ n ≤ 1000000 by omega), noDiv_facs (by omega) (by omega)]
      rw [Bool.eq_iff_iff]
      simp
  · rw [if_neg h, inB_not (fun h1 => h (inB_mk (by omega)))]
    rfl
set_option maxHeartbeats 400000 in
theorem impl_IsPrime (n : Int) (w : World) :
    Calls Try.prog 11 #[.int .i64 n] w fun en w' => en = .returned (.bool (isP n)) ∧ Below w.heap.size w w' := by
  have HP := Lib.hid (isP_facs n)
  go_enter Try.func11, Try.ntmps11
  go_wp2_with fail
  refine (impl_FactorsOf n _).mono ?_
  rintro e w1 ⟨A, k, c, rfl, ho, hb⟩
  have hl := Lib.hid ho.len
  go_wp2
  go_ret
  refine ⟨?_, hb⟩
  rw [← HP.out, hl.out]
  first | done | rfl

end Go.Proofs.Ytnfddnideaakgaa
/- A cell that is stored: its block has grown, the others are as they were. No condition beyond those stated. -/
namespace Go.Proofs.Ytnfddnideaakgaa
open Go.RowKit

theorem grown_set {w : World} {g p : Nat} {u : Value} : w.grownBy (w.setCell ⟨g, p, none⟩ u) (some g) :=
  ⟨rfl, rfl, rfl, by simp [World.setCell], fun k _ hk => Below.heap_setCell _ _ _ _ (fun e => hk (by rw [e]))⟩
theorem OI.of_os {w : World} {B : Nat} {e : TypeId} {A : Option Addr} {n c k : Nat} {zs : List Int} (h : OS w B e 1 A n c ((ints zs).take k)) (ha : All64 zs) : OI w B e A n c (zs.take k) :=
  ⟨by rwa [show (ints zs).take k = ints (zs.take k) by simp [ints]] at h, ha.take k⟩
theorem OS.typed' {w : World} {B : Nat} {e t : TypeId} {size : Nat} {A : Option Addr} {n c : Nat} {xs : List Value} {g : Nat} {cs : Array Value} (h : OS w B e size A n c xs) (k : Blk w g t cs) (hne : e ≠ t) : some g ≠ blk A := by
  rcases h.cases with ⟨rfl, _⟩ | ⟨g', cur, rfl, _, hg, _⟩
  · simp [blk]
  · intro h1
    have : g = g' := by simpa [blk] using h1
    subst this
    unfold Blk at k
    rw [k] at hg
    injection hg with hg
    injection hg with _ h2
    exact hne h2.symm
/-- nothing but zeros -/
def allZero (cs : List Int) : Prop := ∀ k, k < cs.length → nth cs k = 0
end Go.Proofs.Ytnfddnideaakgaa
/- Squares modulo a number, Paley's sets: the program's side. No condition beyond those stated. -/
namespace Go.Proofs.Ytnfddnideaakgaa
open Go.RowKit

theorem isModulus_any (m : Int) (w : World) : Calls Try.prog 26 #[.int .i64 m] w (fun e w' => e = .returned (.bool (inB m 1 1000)) ∧ w = w') := by
  go_enter Try.func26, Try.ntmps26
  go_wp2_with (go_at_call 20; refine (within_any _ _ _ _).mono ?_; rintro e w' ⟨rfl, rfl⟩)
  go_ret
  exact ⟨rfl, rfl⟩
theorem isResidue_ok (a m : Nat) (w : World) (h : a < m) (hm : m ≤ 1000) : Calls Try.prog 42 #[.int .i64 a, .int .i64 m] w (fun e w' => e = .returned (.bool true) ∧ w = w') := by
  have h1 : inB (m : Int) 1 1000 = true := inB_mk (by omega)
  have h2 : inB (a : Int) 0 ((m : Int) - 1) = true := inB_mk (by omega)
  go_enter Try.func42, Try.ntmps42
  go_wp2_with (first | (go_at_call 26; refine (isModulus_any _ _).mono ?_; rintro e w' ⟨rfl, rfl⟩; rw [h1]) | (go_at_call 20; refine (within_any _ _ _ _).mono ?_; rintro e w' ⟨rfl, rfl⟩; rw [h2]))
  go_ret
  exact ⟨rfl, rfl⟩
set_option maxHeartbeats 1000000 in
theorem isSquareMod_any (a m : Nat) (w : World) (ha : 1 ≤ a) (h : a < m) (hm : m ≤ 1000) : Calls Try.prog 27 #[.int .i64 a, .int .i64 m] w (fun e w' => e = .returned (.bool (isSqK m a)) ∧ w = w') := by
  have ha0 : ((a : Int) == 0) = false := by simp; omega
  go_enter Try.func27, Try.ntmps27
  go_wp2_with (go_at_call 42; refine (isResidue_ok a m _ h hm).mono ?_; rintro e w' ⟨rfl, rfl⟩)
  go_loop [5] (fun d => ∃ x : Nat, d = .int .i64 x ∧ x ≤ m ∧ ∀ y, y < x → y * y % m ≠ a) (fun d => m - (intOf d).toNat)
  case atStart => exact ⟨0, rfl, Nat.zero_le _, fun y hy => by omega⟩
  case round =>
    obtain ⟨x, rfl, hx, hn⟩ := hrel
    have hmul := mul_bd' (a := (x : Int)) (b := (x : Int)) (A := 1000) (B := 1000) (by omega) (by omega) (by omega) (by omega)
    have hmul1 := hmul.1
    have hmul2 := hmul.2
    clear hmul
    have hxx : ((x * x : Nat) : Int) = (x : Int) * x := Int.natCast_mul x x
    by_cases hlt : x < m
    · by_cases he : x * x % m = a
      · have hE := Lib.hid (isSqK_yes hlt he)
        have he2 : (((x : Int) * x) % (m : Int) == (a : Int)) = true := by rw [← hxx]; simp; exact_mod_cast he
        clear hn he hxx
        go_wp2
        go_ret
        exact ⟨by rw [hE.out]; rfl, rfl⟩
      · have he2 : (((x : Int) * x) % (m : Int) == (a : Int)) = false := by rw [← hxx]; simp; exact_mod_cast he
        have HN := Lib.hid (fun y (hy : y < x + 1) => show y * y % m ≠ a from by
          rcases Nat.lt_succ_iff_lt_or_eq.1 hy with h1 | rfl
          · exact hn y h1
          · exact he)
        clear hn he hxx
        go_wp2
        go_round
        case rel => exact ⟨x + 1, by go_num, by omega, HN.out⟩
        case measure => simp [intOf]; omega
    · obtain rfl : x = m := by omega
      have hE := Lib.hid (isSqK_no hn)
      clear hn hxx
      go_wp2
      go_ret
      exact ⟨by rw [hE.out]; rfl, rfl⟩
set_option maxHeartbeats 1000000 in
theorem squaresMod_any (m : Nat) (w : World) (h2 : 1 ≤ m) (hm : m ≤ 1000) : Calls Try.prog 12 #[.int .i64 m] w (RetI w 2 (sqK m m)) := by
  have h1 : inB (m : Int) 1 1000 = true := inB_mk (by omega)
  go_enter Try.func12, Try.ntmps12
  go_wp2_with (go_at_call 26; refine (isModulus_any _ _).mono ?_; rintro e w' ⟨rfl, rfl⟩; rw [h1])
  go_loopw [3, 4] (fun l i wr => ∃ (k : Nat) (A : Option Addr) (n c : Nat), 1 ≤ k ∧ k ≤ m ∧ i = .int .i64 k ∧ l = .slice A n c ∧ OI wr w.heap.size 2 A n c (sqK m k) ∧ Below w.heap.size w wr) (fun _ i _ => m - (intOf i).toNat)
  case atStart => exact ⟨1, none, 0, 0, Nat.le_refl _, h2, rfl, rfl, by rw [sqK_one]; exact OI.nil_ _ _ _, Below.refl _ _⟩
  case round =>
    obtain ⟨k, A, n, c, hk1, hk, rfl, rfl, ho, hb⟩ := hrel
    by_cases hlt : k < m
    · have hq := isSquareMod_any k m wr hk1 hlt hm
      have hln := ho.len
      have hll := sqK_len m k
      have hbs := hb.size
      have hki : I64 (k : Int) := by unfold I64; omega
      have hn1 : n + 1 ≤ 2199023255552 := by omega
      cases hs : isSqK m k with
      | true =>
        rw [hs] at hq
        have HY := Lib.hid (sqK_yes (by omega) hs)
        clear hs
        go_wp2_with (first | (go_at_call 27; refine hq.mono ?_; rintro e w' ⟨rfl, rfl⟩) | (at_builtin; refine app_int _ rfl (.tmp 16) (.tmp 18) rfl w.heap.size A n c _ rfl ho (k : Int) wr.heap.size rfl rfl hki hn1 hbs ?_; intro A4 c4 w4 ho4 hg4 hf4; have hb4 := below_own hb hg4 hbs (fun q hq => (ho.os.lt hq).1)))
        go_roundw
        case rel => exact ⟨k + 1, A4, n + 1, c4, by omega, by omega, by go_num, rfl, by rw [HY.out]; exact ho4, hb4⟩
        case measure => simp [intOf]; omega
      | false =>
        rw [hs] at hq
        have HY := Lib.hid (sqK_no hs)
        clear hs
        go_wp2_with (go_at_call 27; refine hq.mono ?_; rintro e w' ⟨rfl, rfl⟩)
        go_roundw
        case rel => exact ⟨k + 1, A, n, c, by omega, by omega, by go_num, rfl, by rw [HY.out]; exact ho, hb⟩
        case measure => simp [intOf]; omega
    · obtain rfl : k = m := by omega
      go_wp2
      go_ret
      exact ⟨A, n, c, rfl, ho, hb⟩
set_option maxHeartbeats 1000000 in
theorem paleySet_any (p : Nat) (w : World) (h : p ≤ 31) (hp : isP p = true) (h4 : p % 4 = 3) : Calls Try.prog 5 #[.int .i64 p] w (RetIC w 2 (sqK p p) 0) := by
  have h5 : ((p : Int) % 4 == 3) = true := by simp; omega
  have h6 : ((p : Int) % 4 != 3) = false := by simp; omega
  go_enter Try.func5, Try.ntmps5
  go_wp2_with fail
  refine (impl_IsPrime _ _).mono ?_
  rintro e w1 ⟨rfl, hb1⟩
  rw [hp]
  go_wp2_with fail
  refine (squaresMod_any p w1 (by omega) (by omega)).mono ?_
  rintro e w2 ⟨A, n, c, rfl, ho, hb2⟩
  go_wp2
  go_ret2
  exact ⟨A, n, c, rfl, ho.more hb1.size, hb1.trans (hb2.mono hb1.size)⟩
end Go.Proofs.Ytnfddnideaakgaa
