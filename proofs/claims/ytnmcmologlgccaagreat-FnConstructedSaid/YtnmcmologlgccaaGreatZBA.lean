/- Powers and Hilbert symbols: what the functions of both sides return. No condition beyond those stated. -/
import Derived.Test.YtnmcmologlgccaaGreatZAZ
import Derived.Test.YtnmcmologlgccaaGreatProg
import Derived.Test.YtnmcmologlgccaaGreatZAA
set_option linter.unusedVariables false
set_option linter.unusedSimpArgs false
namespace Go.Proofs.YtnmcmologlgccaaGreat
open Go.RowKit

theorem tmod_bd {a m : Int} (hm : 2 ≤ m) : -m < a.tmod m ∧ a.tmod m < m := by
  have h1 := Int.tmod_lt_of_pos a (show 0 < m by omega)
  have h2 := Int.tmod_lt_of_pos (-a) (show 0 < m by omega)
  rw [Int.neg_tmod] at h2
  exact ⟨by omega, h1⟩
theorem md_bd {a m : Int} (hm : 2 ≤ m) : 0 ≤ md a m ∧ md a m < m := ⟨Int.emod_nonneg _ (by omega), Int.emod_lt_of_pos _ (by omega)⟩

structure PwFacts (o b f m : Int) : Prop where
  o0 : 0 ≤ o
  o1 : o ≤ 1000000
  b0 : 0 ≤ b
  b1 : b ≤ 1000000
  f0 : 0 ≤ f
  f1 : f ≤ 1000000
theorem PwFacts.next {o b f m : Int} (h : PwFacts o b f m) (hm : 2 ≤ m) (hm' : m ≤ 1000000) (x : Int) (hx : x = o ∨ x = o * b % m) : PwFacts x (b * b % m) (f / 2) m := by
  obtain ⟨h1, h2, h3, h4, h5, h6⟩ := h
  have a1 := Int.emod_nonneg (o * b) (show m ≠ 0 by omega)
  have a2 := Int.emod_lt_of_pos (o * b) (show 0 < m by omega)
  have a3 := Int.emod_nonneg (b * b) (show m ≠ 0 by omega)
  have a4 := Int.emod_lt_of_pos (b * b) (show 0 < m by omega)
  rcases hx with rfl | rfl <;> exact ⟨by omega, by omega, by omega, by omega, by omega, by omega⟩

set_option maxHeartbeats 400000 in
theorem legendre_any (x p : Int) (w : World) (hm : 3 ≤ p) (hm' : p ≤ 1000000) :
    Calls Tryz.prog 116 #[.int .i64 x, .int .i64 p] w fun en w' => en = .returned (.int .i64 (leg x p)) ∧ w = w' := by
  obtain ⟨h1, h2⟩ := tmod_bd (a := x) (m := p) (by omega)
  have hmd := md_bd (a := x) (m := p) (by omega)
  have HMD := Lib.hid hmd; clear hmd
  go_enter Tryz.func116, Tryz.ntmps116
  go_wp2
  go_loop [5, 6, 7] (fun x' z y => ∃ o b f : Int, x' = .int .i64 b ∧ y = .int .i64 f ∧ z = .int .i64 o ∧ PwFacts o b f p ∧ pw o b f p = pw 1 (md x p) ((p - 1) / 2) p) (fun _ _ y => (intOf y).toNat)
  case atStart => exact ⟨1, md x p, (p - 1) / 2, rfl, rfl, rfl, ⟨by omega, by omega, HMD.out.1, by have := HMD.out.2; omega, by omega, by omega⟩, rfl⟩
  case round =>
    obtain ⟨o, b, f, rfl, rfl, rfl, hf, hp⟩ := hrel
    have hnx := hf.next (by omega) hm'
    obtain ⟨o0, o1, b0, b1, f0, f1⟩ := hf
    have m1 := (mul_bd' o0 o1 b0 b1).1
    have m2 := (mul_bd' o0 o1 b0 b1).2
    have m3 := (mul_bd' b0 b1 b0 b1).1
    have m4 := (mul_bd' b0 b1 b0 b1).2
    clear h1 h2
    by_cases h0 : 0 < f
    · by_cases hodd : f % 2 = 1
      · have HP := Lib.hid (show pw (o * b % p) (b * b % p) (f / 2) p = pw 1 (md x p) ((p - 1) / 2) p by rw [← hp, pw_step h0, if_pos hodd])
        have HN := Lib.hid (hnx _ (.inr rfl))
        have hb : (f % 2 == 1) = true := by simp [hodd]
        clear hp hodd hnx
        go_wp2
        go_round
        case rel => exact ⟨_, _, _, rfl, rfl, rfl, HN.out, HP.out⟩
        case measure => simp [intOf]; omega
      · have HP := Lib.hid (show pw o (b * b % p) (f / 2) p = pw 1 (md x p) ((p - 1) / 2) p by rw [← hp, pw_step h0, if_neg hodd])
        have HN := Lib.hid (hnx _ (.inl rfl))
        have hb : (f % 2 == 1) = false := by simp [hodd]
        clear hp hodd hnx
        go_wp2
        go_round
        case rel => exact ⟨_, _, _, rfl, rfl, rfl, HN.out, HP.out⟩
        case measure => simp [intOf]; omega
    · have HP := Lib.hid (show o = pw 1 (md x p) ((p - 1) / 2) p by rw [← hp, pw_done h0])
      clear hp hnx
      by_cases ho : o = 1
      · have HL := Lib.hid (show leg x p = 0 by unfold leg; rw [← HP.out, if_pos ho])
        subst ho
        go_wp2
        go_ret
        exact ⟨by rw [HL.out]; rfl, rfl⟩
      · have HL := Lib.hid (show leg x p = 1 by unfold leg; rw [← HP.out, if_neg ho])
        have ho' : (o == 1) = false := by simpa using ho
        clear ho
        go_wp2
        go_ret
        exact ⟨by rw [HL.out]; rfl, rfl⟩
def sq (u p : Int) : Int := if leg u p = 0 then 1 else -1
set_option maxHeartbeats 400000 in
theorem flag_any (b : Bool) (w : World) : Calls Tryz.prog 114 #[.bool b] w fun en w' => en = .returned (.int .i64 (fl b)) ∧ w = w' := by
  cases b
  all_goals
    go_enter Tryz.func114, Tryz.ntmps114
    go_wp2
    go_ret
    exact ⟨rfl, rfl⟩
set_option maxHeartbeats 400000 in
theorem three_any (x : Int) (w : World) : Calls Tryz.prog 117 #[.int .i64 x] w fun en w' => en = .returned (.int .i64 (thr x)) ∧ w = w' := by
  obtain ⟨h1, h2⟩ := tmod_bd (a := x) (m := 4) (by omega)
  go_enter Tryz.func117, Tryz.ntmps117
  have H := Lib.hid (show thr x = fl (x.tmod 4 % 4 == 3) by unfold thr md; simp)
  go_wp2_with (go_at_call 114; refine (flag_any _ _).mono ?_; rintro e w' ⟨rfl, rfl⟩)
  go_ret
  exact ⟨by rw [H.out]; rfl, rfl⟩
set_option maxHeartbeats 400000 in
theorem middle_any (x : Int) (w : World) : Calls Tryz.prog 118 #[.int .i64 x] w fun en w' => en = .returned (.int .i64 (mid x)) ∧ w = w' := by
  obtain ⟨h1, h2⟩ := tmod_bd (a := x) (m := 8) (by omega)
  have H := Lib.hid (show mid x = fl (inB (x.tmod 8 % 8) 3 5) by unfold mid md inB; simp)
  go_enter Tryz.func118, Tryz.ntmps118
  go_wp2_with (first | (go_at_call 30; refine (within_any _ _ _ _).mono ?_; rintro e w' ⟨rfl, rfl⟩) | (go_at_call 114; refine (flag_any _ _).mono ?_; rintro e w' ⟨rfl, rfl⟩))
  go_ret
  exact ⟨by rw [H.out]; rfl, rfl⟩
set_option maxHeartbeats 1000000 in
theorem impl_hilbert (a b p : Int) (w : World) (ha : Mil a) (hb : Mil b) (hp : p = 0 ∨ 2 ≤ p) (hp' : p ≤ 1000000) :
    Calls Tryz.prog 72 #[.int .i64 a, .int .i64 b, .int .i64 p] w fun en w' => en = .returned (.int .i64 (hv a b p)) ∧ w = w' := by
  rcases hp with rfl | hp
  · have HH := Lib.hid (show hv a b 0 = fl (decide (a < 0) && decide (b < 0)) from rfl)
    by_cases h1 : a < 0
    · go_enter Tryz.func72, Tryz.ntmps72
      go_wp2_with (go_at_call 114; refine (flag_any _ _).mono ?_; rintro e w' ⟨rfl, rfl⟩)
      go_ret
      exact ⟨by rw [HH.out]; simp [h1], rfl⟩
    · have h1' : 0 ≤ a := by omega
      go_enter Tryz.func72, Tryz.ntmps72
      go_wp2_with (go_at_call 114; refine (flag_any _ _).mono ?_; rintro e w' ⟨rfl, rfl⟩)
      go_ret
      exact ⟨by rw [HH.out]; simp [show ¬ a < 0 by omega], rfl⟩
  · have i1 := ha.expo hp
    have j1 := hb.expo hp
    by_cases h2 : 2 < p
    · have HH := Lib.hid (show hv a b p = (expo a p : Int) * expo b p * ((p - 1) / 2) + expo b p * leg (cof a p) p + expo a p * leg (cof b p) p by unfold hv; rw [if_neg (by omega), if_pos h2])
      have m1 := mul_bd' (a := (expo a p : Int)) (b := (expo b p : Int)) (A := 19) (B := 19) (by omega) (by omega) (by omega) (by omega)
      have m2 := mul_bd' (a := (expo a p : Int) * expo b p) (b := (p - 1) / 2) (A := 361) (B := 500000) (by omega) (by omega) (by omega) (by omega)
      have l1 := leg_01 (cof a p) p
      have l2 := leg_01 (cof b p) p
      have m3 := mul_bd' (a := (expo b p : Int)) (b := leg (cof a p) p) (A := 19) (B := 1) (by omega) (by omega) (by omega) (by omega)
      have m4 := mul_bd' (a := (expo a p : Int)) (b := leg (cof b p) p) (A := 19) (B := 1) (by omega) (by omega) (by omega) (by omega)
      obtain ⟨m1a, m1b⟩ := m1
      obtain ⟨m2a, m2b⟩ := m2
      obtain ⟨m3a, m3b⟩ := m3
      obtain ⟨m4a, m4b⟩ := m4
      clear l1 l2
      have hp0 : (p == 0) = false := by simp; omega
      go_enter Tryz.func72, Tryz.ntmps72
      go_wp2_with (first
        | (go_at_call 115; (with_reducible refine (split_any a p _ ha hp hp').mono ?_); rintro e w' ⟨rfl, rfl⟩)
        | (go_at_call 115; (with_reducible refine (split_any b p _ hb hp hp').mono ?_); rintro e w' ⟨rfl, rfl⟩)
        | (go_at_call 116; refine (legendre_any _ _ _ (by omega) hp').mono ?_; rintro e w' ⟨rfl, rfl⟩))
      go_ret
      exact ⟨by rw [HH.out]; rfl, rfl⟩
    · obtain rfl : p = 2 := by omega
      have HH := Lib.hid (show hv a b 2 = thr (cof a 2) * thr (cof b 2) + expo a 2 * mid (cof b 2) + expo b 2 * mid (cof a 2) from rfl)
      have t1 : 0 ≤ thr (cof a 2) ∧ thr (cof a 2) ≤ 1 := by have := fl_01 (md (cof a 2) 4 == 3); unfold thr; omega
      have t2 : 0 ≤ thr (cof b 2) ∧ thr (cof b 2) ≤ 1 := by have := fl_01 (md (cof b 2) 4 == 3); unfold thr; omega
      have t3 : 0 ≤ mid (cof a 2) ∧ mid (cof a 2) ≤ 1 := by have := fl_01 (decide (3 ≤ md (cof a 2) 8) && decide (md (cof a 2) 8 ≤ 5)); unfold mid; omega
      have t4 : 0 ≤ mid (cof b 2) ∧ mid (cof b 2) ≤ 1 := by have := fl_01 (decide (3 ≤ md (cof b 2) 8) && decide (md (cof b 2) 8 ≤ 5)); unfold mid; omega
      have m1 := mul_bd' (a := thr (cof a 2)) (b := thr (cof b 2)) (A := 1) (B := 1) t1.1 t1.2 t2.1 t2.2
      have m2 := mul_bd' (a := (expo a 2 : Int)) (b := mid (cof b 2)) (A := 19) (B := 1) (by omega) (by omega) t4.1 t4.2
      have m3 := mul_bd' (a := (expo b 2 : Int)) (b := mid (cof a 2)) (A := 19) (B := 1) (by omega) (by omega) t3.1 t3.2
      obtain ⟨m1a, m1b⟩ := m1
      obtain ⟨m2a, m2b⟩ := m2
      obtain ⟨m3a, m3b⟩ := m3
      clear t1 t2 t3 t4
      go_enter Tryz.func72, Tryz.ntmps72
      go_wp2_with (first
        | (go_at_call 115; (with_reducible refine (split_any a 2 _ ha hp hp').mono ?_); rintro e w' ⟨rfl, rfl⟩)
        | (go_at_call 115; (with_reducible refine (split_any b 2 _ hb hp hp').mono ?_); rintro e w' ⟨rfl, rfl⟩)
        | (go_at_call 117; refine (three_any _ _).mono ?_; rintro e w' ⟨rfl, rfl⟩)
        | (go_at_call 118; refine (middle_any _ _).mono ?_; rintro e w' ⟨rfl, rfl⟩))
      go_ret
      exact ⟨by rw [HH.out]; rfl, rfl⟩
end Go.Proofs.YtnmcmologlgccaaGreat
/- The reference's Hilbert symbol, prime numbers on both sides, and the law on Hilbert symbols. No condition beyond those stated. -/
namespace Go.Proofs.YtnmcmologlgccaaGreat
open Go.RowKit

theorem neg_fl (a b : Int) : sgn (fl (decide (a < 0) && decide (b < 0))) = if a < 0 ∧ b < 0 then -1 else 1 := by
  by_cases h1 : a < 0 <;> by_cases h2 : b < 0 <;> simp [h1, h2, fl, sgn]

theorem sq_01 (u p : Int) : sq u p = 1 ∨ sq u p = -1 := by unfold sq; split <;> simp
theorem oddS_eq (i j : Nat) (u w p : Int) : oddS i j u w p =
    (if i % 2 = 1 then sq w p else 1) * ((if j % 2 = 1 then sq u p else 1) * (if i % 2 = 1 ∧ j % 2 = 1 ∧ p % 4 = 3 then -1 else 1)) := by
  have hi : i % 2 = 0 ∨ i % 2 = 1 := by omega
  have hj : j % 2 = 0 ∨ j % 2 = 1 := by omega
  rcases hi with hi | hi <;> rcases hj with hj | hj <;> by_cases h4 : p % 4 = 3 <;> rcases leg_01 u p with hu | hu <;> rcases leg_01 w p with hw | hw <;> simp [oddS, sq, hi, hj, h4, hu, hw]

theorem hodd_eq {a b p x y : Int} (hp : 3 ≤ p) (hodd : p % 2 = 1) (hx : sq (cof a p) p = x) (hy : sq (cof b p) p = y) :
    sgn (hv a b p) = (if ((expo a p : Nat) : Int) % 2 = 1 then y else 1) * ((if ((expo b p : Nat) : Int) % 2 = 1 then x else 1) * (if ((expo a p : Nat) : Int) % 2 = 1 ∧ ((expo b p : Nat) : Int) % 2 = 1 ∧ (p % 4 == 3) = true then -1 else 1)) := by
  have e1 : (((expo a p : Nat) : Int) % 2 = 1) = (expo a p % 2 = 1) := by apply propext; omega
  have e2 : (((expo b p : Nat) : Int) % 2 = 1) = (expo b p % 2 = 1) := by apply propext; omega
  have e3 : ((p % 4 == 3) = true) = (p % 4 = 3) := by simp
  simp only [e1, e2, e3]
  unfold hv
  rw [if_neg (by omega), if_pos (by omega), ← odd_agree _ _ _ _ _ hodd, oddS_eq, hx, hy]

end Go.Proofs.YtnmcmologlgccaaGreat
/- The reference's Hilbert symbol at 2. No condition beyond those stated. -/
namespace Go.Proofs.YtnmcmologlgccaaGreat
open Go.RowKit

theorem odd_md {u : Int} (h : u.tmod 2 ≠ 0) : (md u 8 = 1 ∧ md u 4 = 1) ∨ (md u 8 = 3 ∧ md u 4 = 3) ∨ (md u 8 = 5 ∧ md u 4 = 1) ∨ (md u 8 = 7 ∧ md u 4 = 3) := by
  have h1 := Int.mul_tdiv_add_tmod u 8
  have h3 := Int.mul_tdiv_add_tmod u 4
  have h2 := Int.mul_tdiv_add_tmod u 2
  have h4 : u % 2 = 1 := by
    have : ¬ (2 : Int) ∣ u := fun hd => h (Int.tmod_eq_zero_of_dvd hd)
    omega
  unfold md
  omega

end Go.Proofs.YtnmcmologlgccaaGreat
/- Prime numbers on both sides, Hilbert symbols, and the law on them. No condition. -/
namespace Go.Proofs.YtnmcmologlgccaaGreat
open Go.RowKit

theorem isP_prime {n : Int} (h : isP n = true) : Prime n ∧ n ≤ 1000000 := by
  simp [isP] at h
  have := inB_true h.1
  exact ⟨prime_of_noDiv (by omega) h.2, this.2⟩

def entB (a : Int) : Bool := a != 0 && inB a (-1000000) 1000000
theorem entB_mil {a : Int} (h : entB a = true) : Mil a := by
  simp [entB] at h
  have := inB_true h.2
  exact ⟨h.1, this.1, this.2⟩

set_option maxHeartbeats 400000 in
theorem isEntry_any (a : Int) (w : World) : Calls Tryz.prog 68 #[.int .i64 a] w fun en w' => en = .returned (.bool (entB a)) ∧ w = w' := by
  by_cases h : (a != 0) = true
  · have HE := Lib.hid (show entB a = inB a (-1000000) 1000000 by simp [entB, h])
    go_enter Tryz.func68, Tryz.ntmps68
    go_wp2_with (go_at_call 30; refine (within_any _ _ _ _).mono ?_; rintro e w' ⟨rfl, rfl⟩)
    go_ret
    exact ⟨by rw [HE.out]; rfl, rfl⟩
  · have h' : (a != 0) = false := by simpa using h
    have HE := Lib.hid (show entB a = false by simp [entB, h'])
    clear h
    go_enter Tryz.func68, Tryz.ntmps68
    go_wp2
    go_ret
    exact ⟨by rw [HE.out]; rfl, rfl⟩
theorem sgn_tests (h : Int) : ((h.tmod 2 == 0) = true → sgn h = 1) ∧ ((h.tmod 2 == 0) = false → sgn h = -1) := by
  have h1 := Int.mul_tdiv_add_tmod h 2
  have h2 := tmod_bd (a := h) (m := 2) (by omega)
  refine ⟨fun h0 => ?_, fun h0 => ?_⟩
  · simp at h0
    unfold sgn
    rw [if_pos (by omega)]
  · simp at h0
    unfold sgn
    rw [if_neg (by omega)]
def symOk (a b p : Int) : Bool := entB a && entB b && (p == 0 || isP p)
def symV (a b p : Int) : Int := if symOk a b p then sgn (hv a b p) else 0
def symC (a b p : Int) : Int := if symOk a b p then 0 else 2

end Go.Proofs.YtnmcmologlgccaaGreat
/- slices.Grow of nil and slices.Concat, over numbers. No condition beyond those stated. -/
namespace Go.Proofs.YtnmcmologlgccaaGreat
open Go.RowKit

theorem int_infoG : (Tryz.prog.info? 2).map (fun i => (i.zero, i.size, i.bytes)) = some (some (.int .i64 0), 1, 8) := by kernel_rfl

section
variable {P : Program}
theorem run_append_make (w : World) (t ti ty e : TypeId) (i : TypeInfo) (z : Value) (ht : P.underlying t = some (.slice e)) (hti : P.underlying ti = some (.int .i64)) (hi : P.info? e = some i) (hz : i.zero = some z) (hs : i.size = 1) (hb : i.bytes = 8)
    (n : Nat) (h0 : 0 < n) (hn : n ≤ 2199023255552) :
    (Builtin.append_ #[t, ti] ty #[.slice none 0 0, .int .i64 (n : Int)]).run P w =
      .ok (.slice (some ⟨w.heap.size, 0, none⟩) n (grownCap w n 0 e)) (w.drew.alloc (.cells (Builtin.zeroCells z.cells n ++ Builtin.zeroCells z.cells (grownCap w n 0 e - n)) e)) := by
  have h1 : IntKind.i64.wrap (n : Int) = n := IntWalk.i64_in _ (by omega)
  have h2 : ¬ ((n : Int) < 0) := by omega
  have h3 : ¬ (281474976710656 < (n : Int) * 8) := by omega
  have h4 : n ≠ 0 := by omega
  have h63' : ¬ (9223372036854775807 < (n : Int)) := by omega
  have h48' : ¬ (281474976710656 < Builtin.nextslicecap n 0 * 8) := by rw [nextslicecap_zero h0]; omega
  simp [Builtin.append_, run_underlying ht, run_underlying hti, sizeOf, typeInfo, zeroValue, hi, hz, hs, hb, asInt, asIntOf, h1, h3, h4, h63', h48', Question.forced, run_firstCells_none, newRow, grownCap]
  intro h; omega
end

theorem grown_make (n : Nat) (h0 : 0 < n) (hn : n ≤ 1099511627776) : ∃ (f : World → Nat) (C : World → Array Value), ∀ wx : World,
    (Builtin.append_ #[36, 3] 36 #[.slice none 0 0, .int .i64 (n : Int)]).run Tryz.prog wx = .ok (.slice (some ⟨wx.heap.size, 0, none⟩) n (f wx)) (wx.drew.alloc (.cells (C wx) 2)) ∧
      n ≤ f wx ∧ f wx ≤ maxLen ∧ (C wx).size = f wx := by
  obtain ⟨i, hi, hz, hsize, hbytes⟩ := info_parts int_infoG
  refine ⟨fun wx => grownCap wx n 0 2, _, fun wx => ⟨run_append_make (P := Tryz.prog) wx 36 3 36 2 i (.int .i64 0) Tryz.underlying36 Tryz.underlying3 hi hz hsize hbytes n (by omega) (by omega), ?_, ?_, ?_⟩⟩
  · exact grownCap_ge wx n 0 _
  · exact grownCap_le_maxLen wx n 0 _ (by unfold maxLen; omega)
  · have := grownCap_ge wx n 0 2
    simp only [Array.size_append, size_zeroCells, Value.cells]
    simp
    omega

theorem wpList_make_grow (w : World) {ops : Array Oper} {rest : List Oper} {o : Oper} {a : Act} {Q : Exit → Act → World → Prop} (hgd : o.guard = none) (s x : Operand)
    (ho : o.op = .call { callee := .builtin .append, args := #[s, x], argTypes := #[36, 3] }) (hty : o.type = 36) (n : Nat) (h0 : 0 < n) (hn : n ≤ 1099511627776)
    (hs : a.eval s = .slice none 0 0) (hx : a.eval x = .int .i64 (n : Int))
    (h : ∀ c w', n ≤ c → c ≤ 9223372036854775807 → OI w' w.heap.size 2 (some ⟨w.heap.size, 0, none⟩) 0 c [] → Below w.heap.size w w' → wpList Tryz.prog ops Q rest (a.put o.dst (.slice (some ⟨w.heap.size, 0, none⟩) n c)) w') : wpList Tryz.prog ops Q (o :: rest) a w := by
  obtain ⟨f, C, hf⟩ := grown_make n h0 hn
  obtain ⟨hr, f1, f2, f3⟩ := hf w
  refine wpList_plain hgd fun K hK => ?_
  unfold Oper.wp execOp
  simp only [ho, hty, resolve, invoke, builtin, Sem.run_bind, Sem.run_pure, Result.andThen_ok, List.map_toArray, List.map_cons, List.map_nil, hs, hx, hr]
  refine hK _ _ (h (f w) _ f1 f2 ⟨⟨by simp [ints], .inr ⟨w.heap.size, f w, C w, rfl, Nat.le_refl _, heap_alloc_new w.drew _, by omega, f2, by rw [f3, Nat.mul_one], by simp [ints]⟩⟩, All64.nil_⟩ ?_)
  exact (Below.refl _ _).drew.alloc (Nat.le_refl _) _

set_option maxHeartbeats 400000 in
theorem grow_nil (n : Nat) (w : World) (hn : n ≤ 1099511627776) :
    Calls Tryz.prog 113 #[.slice none 0 0, .int .i64 n] w (RetI w 2 []) := by
  by_cases h0 : n = 0
  · subst h0
    go_enter Tryz.func113, Tryz.ntmps113
    go_wp2
    go_ret
    exact ⟨_, _, _, rfl, OI.nil_ _ _ _, Below.refl _ _⟩
  · have hn0 : 0 < n := by omega
    clear h0
    go_enter Tryz.func113, Tryz.ntmps113
    go_wp2_with (at_builtin; refine wpList_make_grow _ rfl (.tmp 20) (.tmp 21) rfl rfl n hn0 hn rfl rfl ?_; intro c w1 hc1 hc2 ho hb)
    go_wp2
    go_ret
    exact ⟨_, _, _, rfl, ho, hb⟩

def pre3 (xs ys zs : List Int) : Nat → List Int
  | 0 => []
  | 1 => [] ++ xs
  | 2 => [] ++ xs ++ ys
  | _ => [] ++ xs ++ ys ++ zs
theorem pre3_len (xs ys zs : List Int) (k : Nat) : (pre3 xs ys zs k).length ≤ xs.length + ys.length + zs.length := by
  unfold pre3
  split <;> simp <;> omega
theorem RI.cells {w : World} {A : Option Addr} {n : Nat} {zs : List Int} (h : RI w A n zs) : ∀ j u, (ints zs)[j]? = some u → ∃ ad, A = some ad ∧ w.cell? (ad.add j) = some u := fun j u hu => by
  rw [ints, List.getElem?_map, Option.map_eq_some_iff] at hu
  obtain ⟨z, hz, rfl⟩ := hu
  obtain ⟨ad, u, ha, hc, rfl, _⟩ := h.at_ j z hz
  exact ⟨ad, ha, hc⟩
theorem RI.all {w : World} {A : Option Addr} {n : Nat} {zs : List Int} (h : RI w A n zs) : All64 zs := fun z hz => by
  obtain ⟨i, hi, rfl⟩ := List.mem_iff_getElem.1 hz
  obtain ⟨ad, u, _, _, _, h⟩ := h.at_ i _ (List.getElem?_eq_getElem hi)
  exact h
set_option maxHeartbeats 1000000 in
/-- what three slices hold together -/
theorem concat3 (A1 A2 A3 : Option Addr) (n1 n2 n3 c1 c2 c3 : Nat) (xs ys zs : List Int) (g : Nat) (w : World)
    (hB : Blk w g 36 #[.slice A1 n1 c1, .slice A2 n2 c2, .slice A3 n3 c3]) (h1 : RI w A1 n1 xs) (h2 : RI w A2 n2 ys) (h3 : RI w A3 n3 zs) (b1 : n1 ≤ 1000000) (b2 : n2 ≤ 1000000) (b3 : n3 ≤ 1000000) :
    Calls Tryz.prog 69 #[.slice (some ⟨g, 0, none⟩) 3 3] w (RetI w 2 (xs ++ ys ++ zs)) := by
  obtain ⟨k1, k2, k3⟩ := hB.cells3
  go_enter Tryz.func69, Tryz.ntmps69
  go_wp2
  go_loop [3, 5, 11] (fun s _ i => ∃ k : Nat, k ≤ 3 ∧ i = .int .i64 k ∧ s = .int .i64 ((if 0 < k then (n1 : Int) else 0) + (if 1 < k then (n2 : Int) else 0) + (if 2 < k then (n3 : Int) else 0))) (fun _ _ i => 3 - (intOf i).toNat)
  case atStart => exact ⟨0, by omega, rfl, by simp⟩
  case round =>
    obtain ⟨k, hk, rfl, rfl⟩ := hrel
    have hk' : k = 0 ∨ k = 1 ∨ k = 2 ∨ k = 3 := by omega
    rcases hk' with rfl | rfl | rfl | rfl
    · go_wp2
      go_round
      case rel => exact ⟨1, by omega, rfl, by simp⟩
      case measure => simp [intOf]
    · go_wp2
      go_round
      case rel => exact ⟨2, by omega, rfl, by simp⟩
      case measure => simp [intOf]
    · go_wp2
      go_round
      case rel => exact ⟨3, by omega, rfl, by simp⟩
      case measure => simp [intOf]
    · have hn : ((((if 0 < 3 then (n1 : Int) else 0) + if 1 < 3 then (n2 : Int) else 0) + if 2 < 3 then (n3 : Int) else 0)) = ((n1 + n2 + n3 : Nat) : Int) := by simp
      rw [hn]
      clear hn
      have hg : g < w.heap.size := hB.lt
      go_wp2_with (go_at_call 113; refine (grow_nil (n1 + n2 + n3) _ (by omega)).mono ?_; rintro e w1 ⟨A, n, c, rfl, ho, hb⟩)
      have hB1 := hB.after hb
      obtain ⟨k1', k2', k3'⟩ := hB1.cells3
      have r1 := h1.keep hb
      have r2 := h2.keep hb
      have r3 := h3.keep hb
      obtain rfl : 0 = n := by simpa using ho.len
      clear r1 r2 r3 k1' k2' k3' k1 k2 k3
      go_loopw [6, 8, 27] (fun v _ i wr => ∃ (k : Nat) (A' : Option Addr) (k' c' : Nat), k ≤ 3 ∧ i = .int .i64 k ∧ v = .slice A' k' c' ∧ OI wr w.heap.size 2 A' k' c' (pre3 xs ys zs k) ∧ Below w.heap.size w wr) (fun _ _ i _ => 3 - (intOf i).toNat)
      case atStart => exact ⟨0, A, 0, c, by omega, rfl, rfl, ho, hb⟩
      case round =>
        obtain ⟨k, A', k', c', hk, rfl, rfl, ho', hw'⟩ := hrel
        obtain ⟨k1, k2, k3⟩ := (hB.after hw').cells3
        clear hB1 ho hb
        have hk9 : k' ≤ 3000000 := by have e := ho'.len; have e0 := pre3_len xs ys zs k; have e1 := h1.len; have e2 := h2.len; have e3 := h3.len; omega
        have hk' : k = 0 ∨ k = 1 ∨ k = 2 ∨ k = 3 := by omega
        rcases hk' with rfl | rfl | rfl | rfl
        · have ho0 : OI wr w.heap.size 2 A' k' c' ([]) := ho'
          go_wp2_with (at_builtin; refine wpList_app _ rfl (.tmp 31) (.tmp 32) 36 rfl 2 (.int .i64 0) 1 8 Tryz.underlying36 int_infoG rfl (by omega) (by omega) w.heap.size A' k' c' (ints ([])) rfl ho0.os A1 n1 c1 (ints xs) rfl (by simp [ints, h1.len]) (RI.cells (h1.keep hw')) (ints_oneCell _) (by omega) hw'.size ?_; intro A2 c2 w2 ho2 hg2 hn2)
          have hw2 := below_own hw' hg2 hw'.size (fun b hb => (ho0.os.lt hb).1)
          have ho3 := OI.cat ho2 ho0.all (RI.all h1)
          clear ho2 hg2 hn2 ho0 ho' hw'
          go_wp2
          go_roundw
          case rel => exact ⟨1, A2, k' + n1, c2, by omega, rfl, rfl, ho3, hw2⟩
          case measure => simp [intOf]
        · have ho0 : OI wr w.heap.size 2 A' k' c' ([] ++ xs) := ho'
          go_wp2_with (at_builtin; refine wpList_app _ rfl (.tmp 31) (.tmp 32) 36 rfl 2 (.int .i64 0) 1 8 Tryz.underlying36 int_infoG rfl (by omega) (by omega) w.heap.size A' k' c' (ints ([] ++ xs)) rfl ho0.os A2 n2 c2 (ints ys) rfl (by simp [ints, h2.len]) (RI.cells (h2.keep hw')) (ints_oneCell _) (by omega) hw'.size ?_; intro A2 c2 w2 ho2 hg2 hn2)
          have hw2 := below_own hw' hg2 hw'.size (fun b hb => (ho0.os.lt hb).1)
          have ho3 := OI.cat ho2 ho0.all (RI.all h2)
          clear ho2 hg2 hn2 ho0 ho' hw'
          go_wp2
          go_roundw
          case rel => exact ⟨2, A2, k' + n2, c2, by omega, rfl, rfl, ho3, hw2⟩
          case measure => simp [intOf]
        · have ho0 : OI wr w.heap.size 2 A' k' c' ([] ++ xs ++ ys) := ho'
          go_wp2_with (at_builtin; refine wpList_app _ rfl (.tmp 31) (.tmp 32) 36 rfl 2 (.int .i64 0) 1 8 Tryz.underlying36 int_infoG rfl (by omega) (by omega) w.heap.size A' k' c' (ints ([] ++ xs ++ ys)) rfl ho0.os A3 n3 c3 (ints zs) rfl (by simp [ints, h3.len]) (RI.cells (h3.keep hw')) (ints_oneCell _) (by omega) hw'.size ?_; intro A2 c2 w2 ho2 hg2 hn2)
          have hw2 := below_own hw' hg2 hw'.size (fun b hb => (ho0.os.lt hb).1)
          have ho3 := OI.cat ho2 ho0.all (RI.all h3)
          clear ho2 hg2 hn2 ho0 ho' hw'
          go_wp2
          go_roundw
          case rel => exact ⟨3, A2, k' + n3, c2, by omega, rfl, rfl, ho3, hw2⟩
          case measure => simp [intOf]
        · have ho0 : OI wr w.heap.size 2 A' k' c' (xs ++ ys ++ zs) := ho'
          go_wp2
          go_ret
          exact ⟨_, _, _, rfl, ho0, hw'⟩
end Go.Proofs.YtnmcmologlgccaaGreat
