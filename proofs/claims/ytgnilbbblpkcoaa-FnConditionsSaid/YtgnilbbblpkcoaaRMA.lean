/- Exponents, factors, prime numbers, powers, Hilbert symbols: what the functions of both sides return. No condition beyond those stated. -/
import Derived.Test.YtgnilbbblpkcoaaRJA
set_option linter.unusedVariables false
set_option linter.unusedSimpArgs false
namespace Go.Proofs.Ytgnilbbblpkcoaa
open Go.RowKit
set_option maxHeartbeats 400000 in
theorem split_any (a p : Int) (w : World) (ha : Mil a) (hp : 2 ≤ p) (hp' : p ≤ 1000000) :
    Calls Try.prog 102 #[.int .i64 a, .int .i64 p] w fun e w' => e = .returned (.tuple #[.int .i64 (expo a p), .int .i64 (cof a p)]) ∧ w = w' := by
  go_enter Try.func102, Try.ntmps102
  go_wp2
  go_loop [0, 6] (fun x i => ∃ (b : Int) (j : Nat), x = .int .i64 b ∧ i = .int .i64 j ∧ Mil b ∧ j + expo b p = expo a p ∧ cof b p = cof a p) (fun x _ => (intOf x).natAbs)
  case atStart => exact ⟨a, 0, rfl, rfl, ha, by omega, rfl⟩
  case round =>
    obtain ⟨b, j, rfl, rfl, hb, he, hc⟩ := hrel
    have hj := ha.expo hp
    have hb1 := hb.2.1
    have hb2 := hb.2.2
    have hj' : j ≤ 19 := by omega
    clear hj
    by_cases hd : b.tmod p = 0
    · have hy := expo_yes hb.1 hp hd
      have hm := hb.div hp hd
      have hlt := (tdiv_lt hb.1 hp hd).1
      have hq1 := hm.2.1
      have hq2 := hm.2.2
      have HE := Lib.hid (show (j + 1) + expo (b.tdiv p) p = expo a p ∧ cof (b.tdiv p) p = cof a p from ⟨by omega, by rw [← hy.2]; exact hc⟩)
      have hd' : (b.tmod p == 0) = true := by simp [hd]
      clear he hc hy hd
      go_wp2
      go_round
      case rel => exact ⟨b.tdiv p, j + 1, rfl, by go_num, hm, HE.out.1, HE.out.2⟩
      case measure => simpa [intOf] using hlt
    · have hd' : (b.tmod p == 0) = false := by simp [hd]
      have hy := expo_no hd
      have HE := Lib.hid (show j = expo a p ∧ b = cof a p from ⟨by omega, by rw [← hy.2]; exact hc⟩)
      clear he hc hy hd
      go_wp2
      go_ret2
      exact ⟨by rw [HE.out.1, HE.out.2]; rfl, rfl⟩
theorem tmod_bd {a m : Int} (hm : 2 ≤ m) : -m < a.tmod m ∧ a.tmod m < m := by
  have h1 := Int.tmod_lt_of_pos a (show 0 < m by omega)
  have h2 := Int.tmod_lt_of_pos (-a) (show 0 < m by omega)
  rw [Int.neg_tmod] at h2
  exact ⟨by omega, h1⟩
theorem md_bd {a m : Int} (hm : 2 ≤ m) : 0 ≤ md a m ∧ md a m < m := ⟨Int.emod_nonneg _ (by omega), Int.emod_lt_of_pos _ (by omega)⟩
structure PwFacts (o b f m : Int) : Prop where
  o0 : 0 ≤ o
  o1 : o ≤ 1000000
  b0 : 0 ≤ b
  b1 : b ≤ 1000000
  f0 : 0 ≤ f
  f1 : f ≤ 1000000
theorem PwFacts.next {o b f m : Int} (h : PwFacts o b f m) (hm : 2 ≤ m) (hm' : m ≤ 1000000) (x : Int) (hx : x = o ∨ x = o * b % m) : PwFacts x (b * b % m) (f / 2) m := by
  obtain ⟨h1, h2, h3, h4, h5, h6⟩ := h
  have a1 := Int.emod_nonneg (o * b) (show m ≠ 0 by omega)
  have a2 := Int.emod_lt_of_pos (o * b) (show 0 < m by omega)
  have a3 := Int.emod_nonneg (b * b) (show m ≠ 0 by omega)
  have a4 := Int.emod_lt_of_pos (b * b) (show 0 < m by omega)
  rcases hx with rfl | rfl <;> exact ⟨by omega, by omega, by omega, by omega, by omega, by omega⟩
set_option maxHeartbeats 400000 in
theorem legendre_any (x p : Int) (w : World) (hm : 3 ≤ p) (hm' : p ≤ 1000000) :
    Calls Try.prog 103 #[.int .i64 x, .int .i64 p] w fun en w' => en = .returned (.int .i64 (leg x p)) ∧ w = w' := by
  obtain ⟨h1, h2⟩ := tmod_bd (a := x) (m := p) (by omega)
  have hmd := md_bd (a := x) (m := p) (by omega)
  have HMD := Lib.hid hmd; clear hmd
  go_enter Try.func103, Try.ntmps103
  go_wp2
  go_loop [5, 6, 7] (fun x' z y => ∃ o b f : Int, x' = .int .i64 b ∧ y = .int .i64 f ∧ z = .int .i64 o ∧ PwFacts o b f p ∧ pw o b f p = pw 1 (md x p) ((p - 1) / 2) p) (fun _ _ y => (intOf y).toNat)
  case atStart => exact ⟨1, md x p, (p - 1) / 2, rfl, rfl, rfl, ⟨by omega, by omega, HMD.out.1, by have := HMD.out.2; omega, by omega, by omega⟩, rfl⟩
  case round =>
    obtain ⟨o, b, f, rfl, rfl, rfl, hf, hp⟩ := hrel
    have hnx := hf.next (by omega) hm'
    obtain ⟨o0, o1, b0, b1, f0, f1⟩ := hf
    have m1 := (mul_bd' o0 o1 b0 b1).1
    have m2 := (mul_bd' o0 o1 b0 b1).2
    have m3 := (mul_bd' b0 b1 b0 b1).1
    have m4 := (mul_bd' b0 b1 b0 b1).2
    clear h1 h2
    by_cases h0 : 0 < f
    · by_cases hodd : f % 2 = 1
      · have HP := Lib.hid (show pw (o * b % p) (b * b % p) (f / 2) p = pw 1 (md x p) ((p - 1) / 2) p by rw [← hp, pw_step h0, if_pos hodd])
        have HN := Lib.hid (hnx _ (.inr rfl))
        have hb : (f % 2 == 1) = true := by simp [hodd]
        clear hp hodd hnx
        go_wp2
        go_round
        case rel => exact ⟨_, _, _, rfl, rfl, rfl, HN.out, HP.out⟩
        case measure => simp [intOf]; omega
      · have HP := Lib.hid (show pw o (b * b % p) (f / 2) p = pw 1 (md x p) ((p - 1) / 2) p by rw [← hp, pw_step h0, if_neg hodd])
        have HN := Lib.hid (hnx _ (.inl rfl))
        have hb : (f % 2 == 1) = false := by simp [hodd]
        clear hp hodd hnx
        go_wp2
        go_round
        case rel => exact ⟨_, _, _, rfl, rfl, rfl, HN.out, HP.out⟩
        case measure => simp [intOf]; omega
    · have HP := Lib.hid (show o = pw 1 (md x p) ((p - 1) / 2) p by rw [← hp, pw_done h0])
      clear hp hnx
      by_cases ho : o = 1
      · have HL := Lib.hid (show leg x p = 0 by unfold leg; rw [← HP.out, if_pos ho])
        subst ho
        go_wp2
        go_ret
        exact ⟨by rw [HL.out]; rfl, rfl⟩
      · have HL := Lib.hid (show leg x p = 1 by unfold leg; rw [← HP.out, if_neg ho])
        have ho' : (o == 1) = false := by simpa using ho
        clear ho
        go_wp2
        go_ret
        exact ⟨by rw [HL.out]; rfl, rfl⟩
set_option maxHeartbeats 400000 in
theorem flag_any (b : Bool) (w : World) : Calls Try.prog 101 #[.bool b] w fun en w' => en = .returned (.int .i64 (fl b)) ∧ w = w' := by
  cases b
  all_goals
    go_enter Try.func101, Try.ntmps101
    go_wp2
    go_ret
    exact ⟨rfl, rfl⟩
set_option maxHeartbeats 400000 in
theorem three_any (x : Int) (w : World) : Calls Try.prog 104 #[.int .i64 x] w fun en w' => en = .returned (.int .i64 (thr x)) ∧ w = w' := by
  obtain ⟨h1, h2⟩ := tmod_bd (a := x) (m := 4) (by omega)
  go_enter Try.func104, Try.ntmps104
  have H := Lib.hid (show thr x = fl (x.tmod 4 % 4 == 3) by unfold thr md; simp)
  go_wp2_with (go_at_call 101; refine (flag_any _ _).mono ?_; rintro e w' ⟨rfl, rfl⟩)
  go_ret
  exact ⟨by rw [H.out]; rfl, rfl⟩
set_option maxHeartbeats 400000 in
theorem middle_any (x : Int) (w : World) : Calls Try.prog 105 #[.int .i64 x] w fun en w' => en = .returned (.int .i64 (mid x)) ∧ w = w' := by
  obtain ⟨h1, h2⟩ := tmod_bd (a := x) (m := 8) (by omega)
  have H := Lib.hid (show mid x = fl (inB (x.tmod 8 % 8) 3 5) by unfold mid md inB; simp)
  go_enter Try.func105, Try.ntmps105
  go_wp2_with (first | (go_at_call 37; refine (within_any _ _ _ _).mono ?_; rintro e w' ⟨rfl, rfl⟩) | (go_at_call 101; refine (flag_any _ _).mono ?_; rintro e w' ⟨rfl, rfl⟩))
  go_ret
  exact ⟨by rw [H.out]; rfl, rfl⟩
set_option maxHeartbeats 1000000 in
theorem impl_hilbert (a b p : Int) (w : World) (ha : Mil a) (hb : Mil b) (hp : p = 0 ∨ 2 ≤ p) (hp' : p ≤ 1000000) :
    Calls Try.prog 87 #[.int .i64 a, .int .i64 b, .int .i64 p] w fun en w' => en = .returned (.int .i64 (hv a b p)) ∧ w = w' := by
  rcases hp with rfl | hp
  · have HH := Lib.hid (show hv a b 0 = fl (decide (a < 0) && decide (b < 0)) from rfl)
    by_cases h1 : a < 0
    · go_enter Try.func87, Try.ntmps87
      go_wp2_with (go_at_call 101; refine (flag_any _ _).mono ?_; rintro e w' ⟨rfl, rfl⟩)
      go_ret
      exact ⟨by rw [HH.out]; simp [h1], rfl⟩
    · have h1' : 0 ≤ a := by omega
      go_enter Try.func87, Try.ntmps87
      go_wp2_with (go_at_call 101; refine (flag_any _ _).mono ?_; rintro e w' ⟨rfl, rfl⟩)
      go_ret
      exact ⟨by rw [HH.out]; simp [show ¬ a < 0 by omega], rfl⟩
  · have i1 := ha.expo hp
    have j1 := hb.expo hp
    by_cases h2 : 2 < p
    · have HH := Lib.hid (show hv a b p = (expo a p : Int) * expo b p * ((p - 1) / 2) + expo b p * leg (cof a p) p + expo a p * leg (cof b p) p by unfold hv; rw [if_neg (by omega), if_pos h2])
      have m1 := mul_bd' (a := (expo a p : Int)) (b := (expo b p : Int)) (A := 19) (B := 19) (by omega) (by omega) (by omega) (by omega)
      have m2 := mul_bd' (a := (expo a p : Int) * expo b p) (b := (p - 1) / 2) (A := 361) (B := 500000) (by omega) (by omega) (by omega) (by omega)
      have l1 := leg_01 (cof a p) p
      have l2 := leg_01 (cof b p) p
      have m3 := mul_bd' (a := (expo b p : Int)) (b := leg (cof a p) p) (A := 19) (B := 1) (by omega) (by omega) (by omega) (by omega)
      have m4 := mul_bd' (a := (expo a p : Int)) (b := leg (cof b p) p) (A := 19) (B := 1) (by omega) (by omega) (by omega) (by omega)
      obtain ⟨m1a, m1b⟩ := m1
      obtain ⟨m2a, m2b⟩ := m2
      obtain ⟨m3a, m3b⟩ := m3
      obtain ⟨m4a, m4b⟩ := m4
      clear l1 l2
      have hp0 : (p == 0) = false := by simp; omega
      go_enter Try.func87, Try.ntmps87
      go_wp2_with (first
        | (go_at_call 102; (with_reducible refine (split_any a p _ ha hp hp').mono ?_); rintro e w' ⟨rfl, rfl⟩)
        | (go_at_call 102; (with_reducible refine (split_any b p _ hb hp hp').mono ?_); rintro e w' ⟨rfl, rfl⟩)
        | (go_at_call 103; refine (legendre_any _ _ _ (by omega) hp').mono ?_; rintro e w' ⟨rfl, rfl⟩))
      go_ret
      exact ⟨by rw [HH.out]; rfl, rfl⟩
    · obtain rfl : p = 2 := by omega
      have HH := Lib.hid (show hv a b 2 = thr (cof a 2) * thr (cof b 2) + expo a 2 * mid (cof b 2) + expo b 2 * mid (cof a 2) from rfl)
      have t1 : 0 ≤ thr (cof a 2) ∧ thr (cof a 2) ≤ 1 := by have := fl_01 (md (cof a 2) 4 == 3); unfold thr; omega
      have t2 : 0 ≤ thr (cof b 2) ∧ thr (cof b 2) ≤ 1 := by have := fl_01 (md (cof b 2) 4 == 3); unfold thr; omega
      have t3 : 0 ≤ mid (cof a 2) ∧ mid (cof a 2) ≤ 1 := by have := fl_01 (decide (3 ≤ md (cof a 2) 8) && decide (md (cof a 2) 8 ≤ 5)); unfold mid; omega
      have t4 : 0 ≤ mid (cof b 2) ∧ mid (cof b 2) ≤ 1 := by have := fl_01 (decide (3 ≤ md (cof b 2) 8) && decide (md (cof b 2) 8 ≤ 5)); unfold mid; omega
      have m1 := mul_bd' (a := thr (cof a 2)) (b := thr (cof b 2)) (A := 1) (B := 1) t1.1 t1.2 t2.1 t2.2
      have m2 := mul_bd' (a := (expo a 2 : Int)) (b := mid (cof b 2)) (A := 19) (B := 1) (by omega) (by omega) t4.1 t4.2
      have m3 := mul_bd' (a := (expo b 2 : Int)) (b := mid (cof a 2)) (A := 19) (B := 1) (by omega) (by omega) t3.1 t3.2
      obtain ⟨m1a, m1b⟩ := m1
      obtain ⟨m2a, m2b⟩ := m2
      obtain ⟨m3a, m3b⟩ := m3
      clear t1 t2 t3 t4
      go_enter Try.func87, Try.ntmps87
      go_wp2_with (first
        | (go_at_call 102; (with_reducible refine (split_any a 2 _ ha hp hp').mono ?_); rintro e w' ⟨rfl, rfl⟩)
        | (go_at_call 102; (with_reducible refine (split_any b 2 _ hb hp hp').mono ?_); rintro e w' ⟨rfl, rfl⟩)
        | (go_at_call 104; refine (three_any _ _).mono ?_; rintro e w' ⟨rfl, rfl⟩)
        | (go_at_call 105; refine (middle_any _ _).mono ?_; rintro e w' ⟨rfl, rfl⟩))
      go_ret
      exact ⟨by rw [HH.out]; rfl, rfl⟩
def entB (a : Int) : Bool := a != 0 && inB a (-1000000) 1000000
theorem entB_mil {a : Int} (h : entB a = true) : Mil a := by
  simp [entB] at h
  have := inB_true h.2
  exact ⟨h.1, this.1, this.2⟩
set_option maxHeartbeats 400000 in
theorem isEntry_any (a : Int) (w : World) : Calls Try.prog 84 #[.int .i64 a] w fun en w' => en = .returned (.bool (entB a)) ∧ w = w' := by
  by_cases h : (a != 0) = true
  · have HE := Lib.hid (show entB a = inB a (-1000000) 1000000 by simp [entB, h])
    go_enter Try.func84, Try.ntmps84
    go_wp2_with (go_at_call 37; refine (within_any _ _ _ _).mono ?_; rintro e w' ⟨rfl, rfl⟩)
    go_ret
    exact ⟨by rw [HE.out]; rfl, rfl⟩
  · have h' : (a != 0) = false := by simpa using h
    have HE := Lib.hid (show entB a = false by simp [entB, h'])
    clear h
    go_enter Try.func84, Try.ntmps84
    go_wp2
    go_ret
    exact ⟨by rw [HE.out]; rfl, rfl⟩
theorem int_infoG : (Try.prog.info? 2).map (fun i => (i.zero, i.size, i.bytes)) = some (some (.int .i64 0), 1, 8) := by kernel_rfl
section
variable {P : Program}
theorem run_append_make (w : World) (t ti ty e : TypeId) (i : TypeInfo) (z : Value) (ht : P.underlying t = some (.slice e)) (hti : P.underlying ti = some (.int .i64)) (hi : P.info? e = some i) (hz : i.zero = some z) (hs : i.size = 1) (hb : i.bytes = 8)
    (n : Nat) (h0 : 0 < n) (hn : n ≤ 2199023255552) :
    (Builtin.append_ #[t, ti] ty #[.slice none 0 0, .int .i64 (n : Int)]).run P w =
      .ok (.slice (some ⟨w.heap.size, 0, none⟩) n (grownCap w n 0 e)) (w.drew.alloc (.cells (Builtin.zeroCells z.cells n ++ Builtin.zeroCells z.cells (grownCap w n 0 e - n)) e)) := by
  have h1 : IntKind.i64.wrap (n : Int) = n := IntWalk.i64_in _ (by omega)
  have h2 : ¬ ((n : Int) < 0) := by omega
  have h3 : ¬ (281474976710656 < (n : Int) * 8) := by omega
  have h4 : n ≠ 0 := by omega
  have h63' : ¬ (9223372036854775807 < (n : Int)) := by omega
  have h48' : ¬ (281474976710656 < Builtin.nextslicecap n 0 * 8) := by rw [nextslicecap_zero h0]; omega
  simp [Builtin.append_, run_underlying ht, run_underlying hti, sizeOf, typeInfo, zeroValue, hi, hz, hs, hb, asInt, asIntOf, h1, h3, h4, h63', h48', Question.forced, run_firstCells_none, newRow, grownCap]
  intro h; omega
end
theorem grown_make (n : Nat) (h0 : 0 < n) (hn : n ≤ 1099511627776) : ∃ (f : World → Nat) (C : World → Array Value), ∀ wx : World,
    (Builtin.append_ #[32, 3] 32 #[.slice none 0 0, .int .i64 (n : Int)]).run Try.prog wx = .ok (.slice (some ⟨wx.heap.size, 0, none⟩) n (f wx)) (wx.drew.alloc (.cells (C wx) 2)) ∧
      n ≤ f wx ∧ f wx ≤ maxLen ∧ (C wx).size = f wx := by
  obtain ⟨i, hi, hz, hsize, hbytes⟩ := info_parts int_infoG
  refine ⟨fun wx => grownCap wx n 0 2, _, fun wx => ⟨run_append_make (P := Try.prog) wx 32 3 32 2 i (.int .i64 0) Try.underlying32 Try.underlying3 hi hz hsize hbytes n (by omega) (by omega), ?_, ?_, ?_⟩⟩
  · exact grownCap_ge wx n 0 _
  · exact grownCap_le_maxLen wx n 0 _ (by unfold maxLen; omega)
  · have := grownCap_ge wx n 0 2
    simp only [Array.size_append, size_zeroCells, Value.cells]
    simp
    omega
theorem wpList_make_grow (w : World) {ops : Array Oper} {rest : List Oper} {o : Oper} {a : Act} {Q : Exit → Act → World → Prop} (hgd : o.guard = none) (s x : Operand)
    (ho : o.op = .call { callee := .builtin .append, args := #[s, x], argTypes := #[32, 3] }) (hty : o.type = 32) (n : Nat) (h0 : 0 < n) (hn : n ≤ 1099511627776)
    (hs : a.eval s = .slice none 0 0) (hx : a.eval x = .int .i64 (n : Int))
    (h : ∀ c w', n ≤ c → c ≤ 9223372036854775807 → OI w' w.heap.size 2 (some ⟨w.heap.size, 0, none⟩) 0 c [] → Below w.heap.size w w' → wpList Try.prog ops Q rest (a.put o.dst (.slice (some ⟨w.heap.size, 0, none⟩) n c)) w') : wpList Try.prog ops Q (o :: rest) a w := by
  obtain ⟨f, C, hf⟩ := grown_make n h0 hn
  obtain ⟨hr, f1, f2, f3⟩ := hf w
  refine wpList_plain hgd fun K hK => ?_
  unfold Oper.wp execOp
  simp only [ho, hty, resolve, invoke, builtin, Sem.run_bind, Sem.run_pure, Result.andThen_ok, List.map_toArray, List.map_cons, List.map_nil, hs, hx, hr]
  refine hK _ _ (h (f w) _ f1 f2 ⟨⟨by simp [ints], .inr ⟨w.heap.size, f w, C w, rfl, Nat.le_refl _, heap_alloc_new w.drew _, by omega, f2, by rw [f3, Nat.mul_one], by simp [ints]⟩⟩, All64.nil_⟩ ?_)
  exact (Below.refl _ _).drew.alloc (Nat.le_refl _) _
set_option maxHeartbeats 400000 in
theorem grow_nil (n : Nat) (w : World) (hn : n ≤ 1099511627776) :
    Calls Try.prog 100 #[.slice none 0 0, .int .i64 n] w (RetI w 2 []) := by
  by_cases h0 : n = 0
  · subst h0
    go_enter Try.func100, Try.ntmps100
    go_wp2
    go_ret
    exact ⟨_, _, _, rfl, OI.nil_ _ _ _, Below.refl _ _⟩
  · have hn0 : 0 < n := by omega
    clear h0
    go_enter Try.func100, Try.ntmps100
    go_wp2_with (at_builtin; refine wpList_make_grow _ rfl (.tmp 20) (.tmp 21) rfl rfl n hn0 hn rfl rfl ?_; intro c w1 hc1 hc2 ho hb)
    go_wp2
    go_ret
    exact ⟨_, _, _, rfl, ho, hb⟩
def pre3 (xs ys zs : List Int) : Nat → List Int
  | 0 => []
  | 1 => [] ++ xs
  | 2 => [] ++ xs ++ ys
  | _ => [] ++ xs ++ ys ++ zs
theorem pre3_len (xs ys zs : List Int) (k : Nat) : (pre3 xs ys zs k).length ≤ xs.length + ys.length + zs.length := by
  unfold pre3
  split <;> simp <;> omega
theorem RI.cells {w : World} {A : Option Addr} {n : Nat} {zs : List Int} (h : RI w A n zs) : ∀ j u, (ints zs)[j]? = some u → ∃ ad, A = some ad ∧ w.cell? (ad.add j) = some u := fun j u hu => by
  rw [ints, List.getElem?_map, Option.map_eq_some_iff] at hu
  obtain ⟨z, hz, rfl⟩ := hu
  obtain ⟨ad, u, ha, hc, rfl, _⟩ := h.at_ j z hz
  exact ⟨ad, ha, hc⟩
theorem RI.all {w : World} {A : Option Addr} {n : Nat} {zs : List Int} (h : RI w A n zs) : All64 zs := fun z hz => by
  obtain ⟨i, hi, rfl⟩ := List.mem_iff_getElem.1 hz
  obtain ⟨ad, u, _, _, _, h⟩ := h.at_ i _ (List.getElem?_eq_getElem hi)
  exact h
set_option maxHeartbeats 1000000 in
theorem concat3 (A1 A2 A3 : Option Addr) (n1 n2 n3 c1 c2 c3 : Nat) (xs ys zs : List Int) (g : Nat) (w : World)
    (hB : Blk w g 32 #[.slice A1 n1 c1, .slice A2 n2 c2, .slice A3 n3 c3]) (h1 : RI w A1 n1 xs) (h2 : RI w A2 n2 ys) (h3 : RI w A3 n3 zs) (b1 : n1 ≤ 1000000) (b2 : n2 ≤ 1000000) (b3 : n3 ≤ 1000000) :
    Calls Try.prog 85 #[.slice (some ⟨g, 0, none⟩) 3 3] w (RetI w 2 (xs ++ ys ++ zs)) := by
  obtain ⟨k1, k2, k3⟩ := hB.cells3
  go_enter Try.func85, Try.ntmps85
  go_wp2
  go_loop [3, 5, 11] (fun s _ i => ∃ k : Nat, k ≤ 3 ∧ i = .int .i64 k ∧ s = .int .i64 ((if 0 < k then (n1 : Int) else 0) + (if 1 < k then (n2 : Int) else 0) + (if 2 < k then (n3 : Int) else 0))) (fun _ _ i => 3 - (intOf i).toNat)
  case atStart => exact ⟨0, by omega, rfl, by simp⟩
  case round =>
    obtain ⟨k, hk, rfl, rfl⟩ := hrel
    have hk' : k = 0 ∨ k = 1 ∨ k = 2 ∨ k = 3 := by omega
    rcases hk' with rfl | rfl | rfl | rfl
    · go_wp2
      go_round
      case rel => exact ⟨1, by omega, rfl, by simp⟩
      case measure => simp [intOf]
    · go_wp2
      go_round
      case rel => exact ⟨2, by omega, rfl, by simp⟩
      case measure => simp [intOf]
    · go_wp2
      go_round
      case rel => exact ⟨3, by omega, rfl, by simp⟩
      case measure => simp [intOf]
    · have hn : ((((if 0 < 3 then (n1 : Int) else 0) + if 1 < 3 then (n2 : Int) else 0) + if 2 < 3 then (n3 : Int) else 0)) = ((n1 + n2 + n3 : Nat) : Int) := by simp
      rw [hn]
      clear hn
      have hg : g < w.heap.size := hB.lt
      go_wp2_with (go_at_call 100; refine (grow_nil (n1 + n2 + n3) _ (by omega)).mono ?_; rintro e w1 ⟨A, n, c, rfl, ho, hb⟩)
      have hB1 := hB.after hb
      obtain ⟨k1', k2', k3'⟩ := hB1.cells3
      have r1 := h1.keep hb
      have r2 := h2.keep hb
      have r3 := h3.keep hb
      obtain rfl : 0 = n := by simpa using ho.len
      clear r1 r2 r3 k1' k2' k3' k1 k2 k3
      go_loopw [6, 8, 27] (fun v _ i wr => ∃ (k : Nat) (A' : Option Addr) (k' c' : Nat), k ≤ 3 ∧ i = .int .i64 k ∧ v = .slice A' k' c' ∧ OI wr w.heap.size 2 A' k' c' (pre3 xs ys zs k) ∧ Below w.heap.size w wr) (fun _ _ i _ => 3 - (intOf i).toNat)
      case atStart => exact ⟨0, A, 0, c, by omega, rfl, rfl, ho, hb⟩
      case round =>
        obtain ⟨k, A', k', c', hk, rfl, rfl, ho', hw'⟩ := hrel
        obtain ⟨k1, k2, k3⟩ := (hB.after hw').cells3
        clear hB1 ho hb
        have hk9 : k' ≤ 3000000 := by have e := ho'.len; have e0 := pre3_len xs ys zs k; have e1 := h1.len; have e2 := h2.len; have e3 := h3.len; omega
        have hk' : k = 0 ∨ k = 1 ∨ k = 2 ∨ k = 3 := by omega
        rcases hk' with rfl | rfl | rfl | rfl
        · have ho0 : OI wr w.heap.size 2 A' k' c' ([]) := ho'
          go_wp2_with (at_builtin; refine wpList_app _ rfl (.tmp 31) (.tmp 32) 32 rfl 2 (.int .i64 0) 1 8 Try.underlying32 int_infoG rfl (by omega) (by omega) w.heap.size A' k' c' (ints ([])) rfl ho0.os A1 n1 c1 (ints xs) rfl (by simp [ints, h1.len]) (RI.cells (h1.keep hw')) (ints_oneCell _) (by omega) hw'.size ?_; intro A2 c2 w2 ho2 hg2 hn2)
          have hw2 := below_own hw' hg2 hw'.size (fun b hb => (ho0.os.lt hb).1)
          have ho3 := OI.cat ho2 ho0.all (RI.all h1)
          clear ho2 hg2 hn2 ho0 ho' hw'
          go_wp2
          go_roundw
          case rel => exact ⟨1, A2, k' + n1, c2, by omega, rfl, rfl, ho3, hw2⟩
          case measure => simp [intOf]
        · have ho0 : OI wr w.heap.size 2 A' k' c' ([] ++ xs) := ho'
          go_wp2_with (at_builtin; refine wpList_app _ rfl (.tmp 31) (.tmp 32) 32 rfl 2 (.int .i64 0) 1 8 Try.underlying32 int_infoG rfl (by omega) (by omega) w.heap.size A' k' c' (ints ([] ++ xs)) rfl ho0.os A2 n2 c2 (ints ys) rfl (by simp [ints, h2.len]) (RI.cells (h2.keep hw')) (ints_oneCell _) (by omega) hw'.size ?_; intro A2 c2 w2 ho2 hg2 hn2)
          have hw2 := below_own hw' hg2 hw'.size (fun b hb => (ho0.os.lt hb).1)
          have ho3 := OI.cat ho2 ho0.all (RI.all h2)
          clear ho2 hg2 hn2 ho0 ho' hw'
          go_wp2
          go_roundw
          case rel => exact ⟨2, A2, k' + n2, c2, by omega, rfl, rfl, ho3, hw2⟩
          case measure => simp [intOf]
        · have ho0 : OI wr w.heap.size 2 A' k' c' ([] ++ xs ++ ys) := ho'
          go_wp2_with (at_builtin; refine wpList_app _ rfl (.tmp 31) (.tmp 32) 32 rfl 2 (.int .i64 0) 1 8 Try.underlying32 int_infoG rfl (by omega) (by omega) w.heap.size A' k' c' (ints ([] ++ xs ++ ys)) rfl ho0.os A3 n3 c3 (ints zs) rfl (by simp [ints, h3.len]) (RI.cells (h3.keep hw')) (ints_oneCell _) (by omega) hw'.size ?_; intro A2 c2 w2 ho2 hg2 hn2)
          have hw2 := below_own hw' hg2 hw'.size (fun b hb => (ho0.os.lt hb).1)
          have ho3 := OI.cat ho2 ho0.all (RI.all h3)
          clear ho2 hg2 hn2 ho0 ho' hw'
          go_wp2
          go_roundw
          case rel => exact ⟨3, A2, k' + n3, c2, by omega, rfl, rfl, ho3, hw2⟩
          case measure => simp [intOf]
        · have ho0 : OI wr w.heap.size 2 A' k' c' (xs ++ ys ++ zs) := ho'
          go_wp2
          go_ret
          exact ⟨_, _, _, rfl, ho0, hw'⟩
def ab (a : Int) : Int := if a < 0 then -a else a
set_option maxHeartbeats 400000 in
theorem abs_any (a : Int) (w : World) (ha : Mil a) : Calls Try.prog 86 #[.int .i64 a] w fun en w' => en = .returned (.int .i64 (ab a)) ∧ w = w' := by
  obtain ⟨_, h2, h3⟩ := ha
  by_cases h : a < 0
  · have H := Lib.hid (show ab a = -a by simp [ab, h])
    go_enter Try.func86, Try.ntmps86
    go_wp2
    go_ret
    exact ⟨by rw [H.out]; rfl, rfl⟩
  · have H := Lib.hid (show ab a = a by simp [ab, h])
    go_enter Try.func86, Try.ntmps86
    go_wp2
    go_ret
    exact ⟨by rw [H.out]; rfl, rfl⟩
def good (a b p : Int) : Bool := hv a b p % 2 == 0
def facs2 (a b : Int) : List Int := facsOf (ab a) ++ facsOf (ab b)
def solves (a b : Int) : Bool := entB a && entB b && (good a b 0 && good a b 2 && (facs2 a b).all (good a b))
theorem facsOf_mem {n q : Int} (h : q ∈ facsOf n) : Prime q ∧ q ≤ 1000000 := by
  unfold facsOf at h
  split at h
  · rename_i hn
    have := inB_true hn
    exact ⟨facs_prime (by omega) h, by have := (facs_ge (by omega) h).2; omega⟩
  · simp at h
theorem facsOf_len (n : Int) : (facsOf n).length ≤ 19 := by
  unfold facsOf
  split
  · rename_i hn
    have := inB_true hn
    exact facs_len (by omega) this.2
  · simp
theorem nth_memT {l : List Int} {k : Nat} (h : k < l.length) : nth l k ∈ l := by rw [nth_get h]; exact List.getElem_mem h
def goodTo (a b : Int) (l : List Int) (k : Nat) : Prop := ∀ j, j < k → good a b (nth l j) = true
theorem goodTo_all {a b : Int} {l : List Int} (h : goodTo a b l l.length) : l.all (good a b) = true := by
  rw [List.all_eq_true]
  intro x hx
  obtain ⟨i, hi, rfl⟩ := List.mem_iff_getElem.1 hx
  have := h i hi
  rwa [nth_get hi] at this
theorem goodTo_not {a b : Int} {l : List Int} {k : Nat} (hk : k < l.length) (h : good a b (nth l k) = false) : l.all (good a b) = false := by
  rw [List.all_eq_false]
  exact ⟨nth l k, nth_memT hk, by simp [h]⟩
theorem goodTo_step {a b : Int} {l : List Int} {k : Nat} (h : goodTo a b l k) (hk : good a b (nth l k) = true) : goodTo a b l (k + 1) := fun j hj => by
  rcases Nat.lt_succ_iff_lt_or_eq.1 hj with h1 | h1
  · exact h j h1
  · rw [h1]; exact hk
theorem good_yes {a b p : Int} (h : good a b p = true) : sgn (hv a b p) = 1 ∧ (hv a b p).tmod 2 = 0 := by
  simp [good] at h
  exact ⟨by simp [sgn, h], Int.tmod_eq_zero_of_dvd (Int.dvd_of_emod_eq_zero h)⟩
theorem good_no {a b p : Int} (h : good a b p = false) : sgn (hv a b p) = -1 ∧ (hv a b p).tmod 2 ≠ 0 := by
  simp [good] at h
  exact ⟨by simp [sgn, h], fun e => by have := Int.emod_eq_zero_of_dvd (Int.dvd_of_tmod_eq_zero e); omega⟩
theorem places_mem {a b q : Int} (h : q ∈ [0, 2] ++ facsOf (ab a) ++ facsOf (ab b)) : (q = 0 ∨ 2 ≤ q) ∧ q ≤ 1000000 := by
  rcases List.mem_append.1 h with h | h
  · rcases List.mem_append.1 h with h | h
    · simp at h; omega
    · have := facsOf_mem h; exact ⟨.inr this.1.1, this.2⟩
  · have := facsOf_mem h; exact ⟨.inr this.1.1, this.2⟩
theorem solves_places {a b : Int} : (good a b 0 && good a b 2 && (facs2 a b).all (good a b)) = ([0, 2] ++ facsOf (ab a) ++ facsOf (ab b)).all (good a b) := by
  simp [facs2, Bool.and_assoc]
set_option maxHeartbeats 1000000 in
theorem impl_SolvesTernary (a b : Int) (w : World) :
    Calls Try.prog 58 #[.int .i64 a, .int .i64 b] w fun en w' => en = .returned (.bool (solves a b)) ∧ Below w.heap.size w w' := by
  by_cases h1 : entB a = true
  · by_cases h2 : entB b = true
    · have HR := Lib.hid (show solves a b = ([0, 2] ++ facsOf (ab a) ++ facsOf (ab b)).all (good a b) by rw [← solves_places]; simp [solves, h1, h2])
      have ha := entB_mil h1
      have hb := entB_mil h2
      go_enter Try.func58, Try.ntmps58
      go_wp2_with (go_at_call 84; refine (isEntry_any _ _).mono ?_; rintro e w' ⟨rfl, rfl⟩)
      refine (abs_any a _ ha).mono ?_
      rintro e w' ⟨rfl, rfl⟩
      have hL := OI.lit w w.heap.size 2 [0, 2] (Nat.le_refl _) (by simp) (fun z hz => by simp at hz; rcases hz with rfl | rfl <;> exact ⟨by omega, by omega⟩)
      have hb0 := below_alloc w (.cells #[.int .i64 0, .int .i64 2] 2)
      go_wp2_with fail
      refine (impl_FactorsOf (ab a) _).mono ?_
      rintro e w1 ⟨A1, n1, c1, rfl, ho1, hb1⟩
      have hL1 := hL.reads.keep hb1
      have hw1 := below_then hb0 hb1
      go_wp2_with fail
      refine (abs_any b _ hb).mono ?_
      rintro e w' ⟨rfl, rfl⟩
      go_wp2_with fail
      refine (impl_FactorsOf (ab b) _).mono ?_
      rintro e w2 ⟨A2, n2, c2, rfl, ho2, hb2⟩
      have hL2 := hL1.keep hb2
      have r1 := ho1.reads.keep hb2
      have r2 := ho2.reads
      have hw2 := below_then hw1 hb2
      have hn1 : n1 ≤ 19 := by have := ho1.len; have := facsOf_len (ab a); omega
      have hn2 : n2 ≤ 19 := by have := ho2.len; have := facsOf_len (ab b); omega
      clear hL hb0 hb1 hL1 hw1 ho1 ho2 hb2
      go_wp2_with fail
      have hb3 := below_alloc w2 (.cells #[.slice (some ⟨w.heap.size, 0, none⟩) 2 2, .slice A1 n1 c1, .slice A2 n2 c2] 32)
      refine (concat3 _ A1 A2 2 n1 n2 2 c1 c2 [0, 2] (facsOf (ab a)) (facsOf (ab b)) w2.heap.size _ (Blk.new w2 _ _) (hL2.keep hb3) (r1.keep hb3) (r2.keep hb3) (by omega) (by omega) (by omega)).mono ?_
      rintro e w3 ⟨A3, n3, c3, rfl, ho3, hb4⟩
      have hw3 := below_then (below_then hw2 hb3) hb4
      have hr := ho3.reads
      have hlen := Lib.hid hr.len
      have hn3 : n3 ≤ 40 := by have e := hr.len; have e1 := r1.len; have e2 := r2.len; simp at e; omega
      obtain ⟨L, hLd⟩ : ∃ L, L = [0, 2] ++ facsOf (ab a) ++ facsOf (ab b) := ⟨_, rfl⟩
      rw [← hLd] at hr
      have hq : ∀ k, k < n3 → (nth L k = 0 ∨ 2 ≤ nth L k) ∧ nth L k ≤ 1000000 := fun k hk => places_mem (a := a) (b := b) (by rw [← hLd]; exact nth_memT (by rw [hr.len]; exact hk))
      have HQ := Lib.hid hq
      have HL := Lib.hid hLd
      have hll := Lib.hid hr.len
      clear hq hLd hlen ho3 hb3 hb4 hw2 hL2 r1 r2
      go_wp2_with fail
      go_loop [6, 25] (fun _ i => ∃ k : Nat, k ≤ n3 ∧ i = .int .i64 k ∧ goodTo a b L k) (fun _ i => n3 - (intOf i).toNat)
      case atStart => exact ⟨0, Nat.zero_le _, rfl, fun j h => absurd h (by omega)⟩
      case round =>
        obtain ⟨k, hk, rfl, hg⟩ := hrel
        by_cases hlt : k < n3
        · obtain ⟨ad, rfl, hc, hi⟩ := hr.get hlt
          obtain ⟨hp1, hp2⟩ := HQ.out k hlt
          have HP := Lib.hid hp1
          clear hi hp1
          by_cases hgd : good a b (nth L k) = true
          · have sp : ((hv a b (nth L k)).tmod 2 != 0) = false := by simp [(good_yes hgd).2]
            have HG := Lib.hid (goodTo_step hg hgd)
            clear hg hgd
            go_wp2_with (go_at_call 87; refine (impl_hilbert a b _ _ ha hb HP.out hp2).mono ?_; rintro e w' ⟨rfl, rfl⟩)
            go_round
            case rel => exact ⟨k + 1, by omega, by go_num, HG.out⟩
            case measure => simp [intOf]; omega
          · have hgd' : good a b (nth L k) = false := by simpa using hgd
            have sp : ((hv a b (nth L k)).tmod 2 != 0) = true := by simpa using (good_no hgd').2
            have HG := Lib.hid (goodTo_not (l := L) (k := k) (by rw [hll.out]; exact hlt) hgd')
            clear hg hgd hgd'
            go_wp2_with (go_at_call 87; refine (impl_hilbert a b _ _ ha hb HP.out hp2).mono ?_; rintro e w' ⟨rfl, rfl⟩)
            go_ret
            exact ⟨by rw [HR.out, ← HL.out, HG.out]; rfl, hw3⟩
        · have HG := Lib.hid (goodTo_all (a := a) (b := b) (l := L) (fun j hj => hg j (by rw [hll.out] at hj; omega)))
          clear hg
          go_wp2_with fail
          go_ret
          exact ⟨by rw [HR.out, ← HL.out, HG.out]; rfl, hw3⟩
    · have h2' : entB b = false := by simpa using h2
      have HR := Lib.hid (show solves a b = false by simp [solves, h2'])
      clear h2
      go_enter Try.func58, Try.ntmps58
      go_wp2_with (go_at_call 84; refine (isEntry_any _ _).mono ?_; rintro e w' ⟨rfl, rfl⟩)
      go_ret
      exact ⟨by rw [HR.out]; rfl, Below.refl _ _⟩
  · have h1' : entB a = false := by simpa using h1
    have HR := Lib.hid (show solves a b = false by simp [solves, h1'])
    clear h1
    go_enter Try.func58, Try.ntmps58
    go_wp2_with (go_at_call 84; refine (isEntry_any _ _).mono ?_; rintro e w' ⟨rfl, rfl⟩)
    go_ret
    exact ⟨by rw [HR.out]; rfl, Below.refl _ _⟩
theorem mul_bd {a b A B : Int} (ha : 0 ≤ a) (hA : a ≤ A) (hb : 0 ≤ b) (hB : b ≤ B) : 0 ≤ a * b ∧ a * b ≤ A * B :=
  ⟨Int.mul_nonneg ha hb, Int.mul_le_mul hA hB hb (by omega)⟩
def inRng (v k l : Int) : Bool := inB v 3 1000 && inB k 2 (v - 1) && inB l 1 1000
theorem inRng_true {v k l : Int} (h : inRng v k l = true) : 3 ≤ v ∧ v ≤ 1000 ∧ 2 ≤ k ∧ k ≤ v - 1 ∧ 1 ≤ l ∧ l ≤ 1000 := by
  simp [inRng] at h
  have h1 := inB_true h.1.1; have h2 := inB_true h.1.2; have h3 := inB_true h.2
  omega
theorem inRng_false {v k l : Int} (h : ¬ inRng v k l = true) : inRng v k l = false := by simpa using h
set_option maxHeartbeats 400000 in
theorem inRange_any (v k l : Int) (w : World) :
    Calls Try.prog 25 #[.int .i64 v, .int .i64 k, .int .i64 l] w fun e w' => e = .returned (.bool (inRng v k l)) ∧ w = w' := by
  by_cases h1 : inB v 3 1000 = true
  · have hv := inB_true h1
    have hv1 := hv.1
    have hv2 := hv.2
    clear hv
    by_cases h2 : inB k 2 (v - 1) = true
    · by_cases h3 : inB l 1 1000 = true
      · have H := Lib.hid (show inRng v k l = true by simp [inRng, h1, h2, h3])
        go_enter Try.func25, Try.ntmps25
        go_wp2_with (go_at_call 37; refine (within_any _ _ _ _).mono ?_; rintro e w' ⟨rfl, rfl⟩)
        go_ret
        exact ⟨by rw [H.out]; rfl, rfl⟩
      · have h3' := inB_false h3; clear h3
        have H := Lib.hid (show inRng v k l = false by simp [inRng, h1, h2, h3'])
        go_enter Try.func25, Try.ntmps25
        go_wp2_with (go_at_call 37; refine (within_any _ _ _ _).mono ?_; rintro e w' ⟨rfl, rfl⟩)
        go_ret
        exact ⟨by rw [H.out]; rfl, rfl⟩
    · have h2' := inB_false h2; clear h2
      have H := Lib.hid (show inRng v k l = false by simp [inRng, h2'])
      go_enter Try.func25, Try.ntmps25
      go_wp2_with (go_at_call 37; refine (within_any _ _ _ _).mono ?_; rintro e w' ⟨rfl, rfl⟩)
      go_ret
      exact ⟨by rw [H.out]; rfl, rfl⟩
  · have h1' := inB_false h1; clear h1
    have H := Lib.hid (show inRng v k l = false by simp [inRng, h1'])
    go_enter Try.func25, Try.ntmps25
    go_wp2_with (go_at_call 37; refine (within_any _ _ _ _).mono ?_; rintro e w' ⟨rfl, rfl⟩)
    go_ret
    exact ⟨by rw [H.out]; rfl, rfl⟩
def nB (v k l : Int) : Int := l * v * (v - 1) / (k * (k - 1))
def nR (v k l : Int) : Int := l * (v - 1) / (k - 1)
def okB (v k l : Int) : Bool := l * v * (v - 1) % (k * (k - 1)) == 0
def okR (v k l : Int) : Bool := l * (v - 1) % (k - 1) == 0
structure NumFacts (v k l : Int) : Prop where
  a0 : 0 ≤ l * v
  a1 : l * v ≤ 1000000
  b0 : 0 ≤ l * v * (v - 1)
  b1 : l * v * (v - 1) ≤ 1000000000
  c0 : 0 ≤ l * (v - 1)
  c1 : l * (v - 1) ≤ 1000000
  d0 : 1 ≤ k * (k - 1)
  d1 : k * (k - 1) ≤ 1000000
theorem numFacts {v k l : Int} (h : inRng v k l = true) : NumFacts v k l := by
  obtain ⟨v1, v2, k1, k2, l1, l2⟩ := inRng_true h
  have a := mul_bd (a := l) (b := v) (A := 1000) (B := 1000) (by omega) (by omega) (by omega) (by omega)
  have b := mul_bd (a := l * v) (b := v - 1) (A := 1000000) (B := 1000) (by omega) (by omega) (by omega) (by omega)
  have c := mul_bd (a := l) (b := v - 1) (A := 1000) (B := 1000) (by omega) (by omega) (by omega) (by omega)
  have d := mul_bd (a := k - 2) (b := k - 1) (A := 1000) (B := 1000) (by omega) (by omega) (by omega) (by omega)
  have d' := mul_bd (a := k) (b := k - 1) (A := 1000) (B := 1000) (by omega) (by omega) (by omega) (by omega)
  have e : k * (k - 1) = (k - 2) * (k - 1) + 2 * (k - 1) := by rw [← Int.add_mul]; congr 1; omega
  exact ⟨a.1, by omega, b.1, by omega, c.1, by omega, by omega, by omega⟩
set_option maxHeartbeats 400000 in
theorem blockNumbers_any (v k l : Int) (w : World) (h : inRng v k l = true) :
    Calls Try.prog 27 #[.int .i64 v, .int .i64 k, .int .i64 l] w fun e w' => e = .returned (.tuple #[.int .i64 (nB v k l), .int .i64 (nR v k l), .bool (okB v k l), .bool (okR v k l)]) ∧ Below w.heap.size w w' := by
  obtain ⟨v1, v2, k1, k2, l1, l2⟩ := inRng_true h
  obtain ⟨a0, a1, b0, b1, c0, c1, d0, d1⟩ := numFacts h
  clear h
  go_enter Try.func27, Try.ntmps27
  go_wp2
  go_quiet (fail)
  go_wp2
  refine bodyPost_ret (v := .tuple #[.int .i64 (nB v k l), .int .i64 (nR v k l), .bool (okB v k l), .bool (okR v k l)]) (by simp [results, Try.results27, go_sem, nB, nR, okB, okR]) rfl ⟨rfl, ?_⟩
  exact below_drewn _ _
def bnB (v k l : Int) : Int := if inRng v k l && okB v k l && okR v k l then nB v k l else 0
def bnR (v k l : Int) : Int := if inRng v k l && okB v k l && okR v k l then nR v k l else 0
def bnC (v k l : Int) : Int := if inRng v k l then (if okB v k l && okR v k l then 0 else 6) else 2
set_option maxHeartbeats 400000 in
theorem impl_BlockNumbers (v k l : Int) (w : World) :
    Calls Try.prog 10 #[.int .i64 v, .int .i64 k, .int .i64 l] w fun e w' => e = .returned (.tuple #[.int .i64 (bnB v k l), .int .i64 (bnR v k l), .int .i64 (bnC v k l)]) ∧ Below w.heap.size w w' := by
  by_cases h : inRng v k l = true
  · by_cases h1 : okB v k l = true
    · by_cases h2 : okR v k l = true
      · have H := Lib.hid (show bnB v k l = nB v k l ∧ bnR v k l = nR v k l ∧ bnC v k l = 0 by simp [bnB, bnR, bnC, h, h1, h2])
        go_enter Try.func10, Try.ntmps10
        go_wp2_with (first
          | (go_at_call 25; refine (inRange_any _ _ _ _).mono ?_; rintro e w' ⟨rfl, rfl⟩)
          | (go_at_call 27; refine (blockNumbers_any _ _ _ _ h).mono ?_; rintro e w1 ⟨rfl, hb1⟩))
        go_ret3
        exact ⟨by rw [H.out.1, H.out.2.1, H.out.2.2]; rfl, hb1⟩
      · have h2' : okR v k l = false := by simpa using h2
        clear h2
        have H := Lib.hid (show bnB v k l = 0 ∧ bnR v k l = 0 ∧ bnC v k l = 6 by simp [bnB, bnR, bnC, h, h1, h2'])
        go_enter Try.func10, Try.ntmps10
        go_wp2_with (first
          | (go_at_call 25; refine (inRange_any _ _ _ _).mono ?_; rintro e w' ⟨rfl, rfl⟩)
          | (go_at_call 27; refine (blockNumbers_any _ _ _ _ h).mono ?_; rintro e w1 ⟨rfl, hb1⟩))
        go_ret3
        exact ⟨by rw [H.out.1, H.out.2.1, H.out.2.2]; rfl, hb1⟩
    · have h1' : okB v k l = false := by simpa using h1
      clear h1
      have H := Lib.hid (show bnB v k l = 0 ∧ bnR v k l = 0 ∧ bnC v k l = 6 by simp [bnB, bnR, bnC, h, h1'])
      go_enter Try.func10, Try.ntmps10
      go_wp2_with (first
        | (go_at_call 25; refine (inRange_any _ _ _ _).mono ?_; rintro e w' ⟨rfl, rfl⟩)
        | (go_at_call 27; refine (blockNumbers_any _ _ _ _ h).mono ?_; rintro e w1 ⟨rfl, hb1⟩))
      go_ret3
      exact ⟨by rw [H.out.1, H.out.2.1, H.out.2.2]; rfl, hb1⟩
  · have h' := inRng_false h
    clear h
    have H := Lib.hid (show bnB v k l = 0 ∧ bnR v k l = 0 ∧ bnC v k l = 2 by simp [bnB, bnR, bnC, h'])
    go_enter Try.func10, Try.ntmps10
    go_wp2_with (go_at_call 25; refine (inRange_any _ _ _ _).mono ?_; rintro e w' ⟨rfl, rfl⟩)
    go_ret3
    exact ⟨by rw [H.out.1, H.out.2.1, H.out.2.2]; rfl, Below.refl _ _⟩
def isSq (n : Int) : Bool := (List.range 1001).any fun x => ((x : Int) * x == n)
theorem isSq_yes {n : Int} {x : Nat} (hx : x ≤ 1000) (h : (x : Int) * x = n) : isSq n = true := by
  unfold isSq
  rw [List.any_eq_true]
  exact ⟨x, List.mem_range.2 (by omega), by simp [h]⟩
theorem isSq_no {n : Int} {x : Nat} (h : ∀ j : Nat, j < x → (j : Int) * j ≠ n) (hx : n < (x : Int) * x) : isSq n = false := by
  unfold isSq
  rw [List.any_eq_false]
  intro j _
  simp only [beq_iff_eq]
  rcases Nat.lt_or_ge j x with h1 | h1
  · exact h j h1
  · have : (x : Int) * x ≤ (j : Int) * j := Int.mul_le_mul (by omega) (by omega) (by omega) (by omega)
    omega
set_option maxHeartbeats 400000 in
theorem isSquare_any (n : Int) (w : World) (h1 : -1000 ≤ n) (h2 : n ≤ 1000) :
    Calls Try.prog 57 #[.int .i64 n] w fun en w' => en = .returned (.bool (isSq n)) ∧ w = w' := by
  go_enter Try.func57, Try.ntmps57
  go_wp2
  go_loop [3] (fun i => ∃ x : Nat, i = .int .i64 x ∧ x ≤ 1000 ∧ ∀ j : Nat, j < x → (j : Int) * j ≠ n) (fun i => 1001 - (intOf i).toNat)
  case atStart => exact ⟨0, rfl, by omega, fun j h => absurd h (by omega)⟩
  case round =>
    obtain ⟨x, rfl, hx, hn⟩ := hrel
    have hm := mul_bd' (a := (x : Int)) (b := (x : Int)) (A := 1000) (B := 1000) (by omega) (by omega) (by omega) (by omega)
    have m1 := hm.1
    have m2 := hm.2
    clear hm
    by_cases hle : (x : Int) * x < n
    · have hx2 : x ≤ 999 := by
        rcases Nat.lt_or_ge x 1000 with h | h
        · omega
        · have : (1000 : Int) * 1000 ≤ (x : Int) * x := Int.mul_le_mul (by omega) (by omega) (by omega) (by omega)
          omega
      have HN := Lib.hid (show ∀ j : Nat, j < x + 1 → (j : Int) * j ≠ n from fun j hj => by
        rcases Nat.lt_succ_iff_lt_or_eq.1 hj with h | h
        · exact hn j h
        · rw [h]; omega)
      clear hn
      go_wp2
      go_round
      case rel => exact ⟨x + 1, by go_num, by omega, HN.out⟩
      case measure => simp [intOf]; omega
    · by_cases he : (x : Int) * x = n
      · have HE := Lib.hid (isSq_yes hx he)
        have he' : ((x : Int) * x == n) = true := by simp [he]
        have hge : n ≤ (x : Int) * x := by omega
        clear he hn
        go_wp2
        go_ret
        exact ⟨by rw [HE.out]; rfl, rfl⟩
      · have he' : ((x : Int) * x == n) = false := by simp [he]
        have HE := Lib.hid (isSq_no hn (by omega))
        clear he hn
        go_wp2
        go_ret
        exact ⟨by rw [HE.out]; rfl, rfl⟩
def fails (v k l : Int) : List Int :=
  if okR v k l && okB v k l then
    if nB v k l < v then [3]
    else if nB v k l = v then
      (if v % 2 = 0 then (if isSq (k - l) then [] else [4])
       else if solves (k - l) (if v % 4 = 3 then -l else l) then [] else [5])
    else []
  else (if okR v k l then [] else [1]) ++ (if okB v k l then [] else [2])
set_option maxRecDepth 100000 in
set_option maxHeartbeats 1000000 in
theorem impl_fails1 (v k l : Int) (w : World) (h : inRng v k l = true) (hr : okR v k l = false) (hb : okB v k l = true) (hL : fails v k l = [1]) :
    Calls Try.prog 26 #[.int .i64 v, .int .i64 k, .int .i64 l] w (RetI w 2 (fails v k l)) := by
  have HL := Lib.hid hL
  clear hL
  obtain ⟨v1, v2, k1, k2, l1, l2⟩ := inRng_true h
  go_enter Try.func26, Try.ntmps26
  go_wp2_with fail
  refine (blockNumbers_any v k l _ h).mono ?_
  rintro e w1 ⟨rfl, hb1⟩
  have ho := OI.nil_ w1 w.heap.size 2
  have hw := hb1
  go_wp2_with (at_builtin; refine wpList_app1' _ rfl (.tmp 24) (.tmp 25) 32 rfl 2 (.int .i64 0) 8 Try.underlying32 int_infoG rfl (by omega) w.heap.size none 0 0 (ints []) rfl ho.os (.int .i64 1) _ rfl (by simp) rfl (by omega) hw.size ?_; intro A2 c2 w2 ho2 hg2 hn2; have hw2 := below_own hw hg2 hw.size (fun b hb => (ho.os.lt hb).1); have hi2 := OI.snoc ho2 ho.all (z := 1) ⟨by omega, by omega⟩; clear ho2 hg2 hn2)
  go_ret
  exact ⟨_, _, _, rfl, by rw [HL.out]; exact hi2, hw2⟩
set_option maxRecDepth 100000 in
set_option maxHeartbeats 1000000 in
theorem impl_fails2 (v k l : Int) (w : World) (h : inRng v k l = true) (hr : okR v k l = true) (hb : okB v k l = false) (hL : fails v k l = [2]) :
    Calls Try.prog 26 #[.int .i64 v, .int .i64 k, .int .i64 l] w (RetI w 2 (fails v k l)) := by
  have HL := Lib.hid hL
  clear hL
  obtain ⟨v1, v2, k1, k2, l1, l2⟩ := inRng_true h
  go_enter Try.func26, Try.ntmps26
  go_wp2_with fail
  refine (blockNumbers_any v k l _ h).mono ?_
  rintro e w1 ⟨rfl, hb1⟩
  have ho := OI.nil_ w1 w.heap.size 2
  have hw := hb1
  go_wp2_with (at_builtin; refine wpList_app1' _ rfl (.tmp 29) (.tmp 30) 32 rfl 2 (.int .i64 0) 8 Try.underlying32 int_infoG rfl (by omega) w.heap.size none 0 0 (ints []) rfl ho.os (.int .i64 2) _ rfl (by simp) rfl (by omega) hw.size ?_; intro A2 c2 w2 ho2 hg2 hn2; have hw2 := below_own hw hg2 hw.size (fun b hb => (ho.os.lt hb).1); have hi2 := OI.snoc ho2 ho.all (z := 2) ⟨by omega, by omega⟩; clear ho2 hg2 hn2)
  go_ret
  exact ⟨_, _, _, rfl, by rw [HL.out]; exact hi2, hw2⟩
set_option maxRecDepth 100000 in
set_option maxHeartbeats 1000000 in
theorem impl_fails12 (v k l : Int) (w : World) (h : inRng v k l = true) (hr : okR v k l = false) (hb : okB v k l = false) (hL : fails v k l = [1, 2]) :
    Calls Try.prog 26 #[.int .i64 v, .int .i64 k, .int .i64 l] w (RetI w 2 (fails v k l)) := by
  have HL := Lib.hid hL
  clear hL
  obtain ⟨v1, v2, k1, k2, l1, l2⟩ := inRng_true h
  go_enter Try.func26, Try.ntmps26
  go_wp2_with fail
  refine (blockNumbers_any v k l _ h).mono ?_
  rintro e w1 ⟨rfl, hb1⟩
  have ho := OI.nil_ w1 w.heap.size 2
  have hw := hb1
  go_wp2_with (first
    | (at_builtin; refine wpList_app1' _ rfl (.tmp 24) (.tmp 25) 32 rfl 2 (.int .i64 0) 8 Try.underlying32 int_infoG rfl (by omega) w.heap.size none 0 0 (ints []) rfl ho.os (.int .i64 1) _ rfl (by simp) rfl (by omega) hw.size ?_; intro A2 c2 w2 ho2 hg2 hn2; have hw2 := below_own hw hg2 hw.size (fun b hb => (ho.os.lt hb).1); have hi2 := OI.snoc ho2 ho.all (z := 1) ⟨by omega, by omega⟩; clear ho2 hg2 hn2)
    | (at_builtin; refine wpList_app1' _ rfl (.tmp 29) (.tmp 30) 32 rfl 2 (.int .i64 0) 8 Try.underlying32 int_infoG rfl (by omega) w.heap.size A2 (0 + 1) c2 (ints ([] ++ [1])) rfl hi2.os (.int .i64 2) _ rfl (by simp) rfl (by omega) hw2.size ?_; intro A4 c4 w4 ho4 hg4 hn4; have hw4 := below_own hw2 hg4 hw2.size (fun b hb => (hi2.os.lt hb).1); have hi4 := OI.snoc ho4 hi2.all (z := 2) ⟨by omega, by omega⟩; clear ho4 hg4 hn4))
  go_ret
  exact ⟨_, _, _, rfl, by rw [HL.out]; exact hi4, hw4⟩
set_option maxRecDepth 100000 in
set_option maxHeartbeats 1000000 in
theorem impl_fails3 (v k l : Int) (w : World) (h : inRng v k l = true) (hr : okR v k l = true) (hb : okB v k l = true) (hv : nB v k l < v) (hL : fails v k l = [3]) :
    Calls Try.prog 26 #[.int .i64 v, .int .i64 k, .int .i64 l] w (RetI w 2 (fails v k l)) := by
  have HL := Lib.hid hL
  clear hL
  obtain ⟨v1, v2, k1, k2, l1, l2⟩ := inRng_true h
  go_enter Try.func26, Try.ntmps26
  go_wp2_with fail
  refine (blockNumbers_any v k l _ h).mono ?_
  rintro e w1 ⟨rfl, hb1⟩
  have ho := OI.nil_ w1 w.heap.size 2
  have hw := hb1
  have hne : (nB v k l == v) = false := by simp; omega
  go_wp2_with (at_builtin; refine wpList_app1' _ rfl (.tmp 39) (.tmp 40) 32 rfl 2 (.int .i64 0) 8 Try.underlying32 int_infoG rfl (by omega) w.heap.size none 0 0 (ints []) rfl ho.os (.int .i64 3) _ rfl (by simp) rfl (by omega) hw.size ?_; intro A2 c2 w2 ho2 hg2 hn2; have hw2 := below_own hw hg2 hw.size (fun b hb => (ho.os.lt hb).1); have hi2 := OI.snoc ho2 ho.all (z := 3) ⟨by omega, by omega⟩; clear ho2 hg2 hn2)
  go_ret
  exact ⟨_, _, _, rfl, by rw [HL.out]; exact hi2, hw2⟩
set_option maxRecDepth 100000 in
set_option maxHeartbeats 1000000 in
theorem impl_fails0 (v k l : Int) (w : World) (h : inRng v k l = true) (hr : okR v k l = true) (hb : okB v k l = true) (hv : v < nB v k l) (hL : fails v k l = []) :
    Calls Try.prog 26 #[.int .i64 v, .int .i64 k, .int .i64 l] w (RetI w 2 (fails v k l)) := by
  have HL := Lib.hid hL
  clear hL
  obtain ⟨v1, v2, k1, k2, l1, l2⟩ := inRng_true h
  go_enter Try.func26, Try.ntmps26
  go_wp2_with fail
  refine (blockNumbers_any v k l _ h).mono ?_
  rintro e w1 ⟨rfl, hb1⟩
  have ho := OI.nil_ w1 w.heap.size 2
  have hw := hb1
  have hne : (nB v k l == v) = false := by simp; omega
  go_wp2_with fail
  go_ret
  exact ⟨_, _, _, rfl, by rw [HL.out]; exact ho, hw⟩
set_option maxRecDepth 100000 in
set_option maxHeartbeats 1000000 in
theorem impl_failsS (v k l : Int) (w : World) (h : inRng v k l = true) (hr : okR v k l = true) (hb : okB v k l = true) (hv : (nB v k l == v) = true) (h2 : (v % 2 == 0) = true) (hs : isSq (k - l) = true) (hL : fails v k l = []) :
    Calls Try.prog 26 #[.int .i64 v, .int .i64 k, .int .i64 l] w (RetI w 2 (fails v k l)) := by
  have HL := Lib.hid hL
  clear hL
  obtain ⟨v1, v2, k1, k2, l1, l2⟩ := inRng_true h
  go_enter Try.func26, Try.ntmps26
  go_wp2_with fail
  refine (blockNumbers_any v k l _ h).mono ?_
  rintro e w1 ⟨rfl, hb1⟩
  have ho := OI.nil_ w1 w.heap.size 2
  have hw := hb1
  have hle : v ≤ nB v k l := by simp at hv; omega
  have h2' : (v % 2 == 1) = false := by simp at h2 ⊢; omega
  go_wp2_with (first
    | (go_at_call 57; refine (isSquare_any (k - l) _ (by omega) (by omega)).mono ?_; rintro e w' ⟨rfl, rfl⟩)
    | (at_builtin; refine wpList_app1' _ rfl (.tmp 57) (.tmp 58) 32 rfl 2 (.int .i64 0) 8 Try.underlying32 int_infoG rfl (by omega) w.heap.size none 0 0 (ints []) rfl ho.os (.int .i64 4) _ rfl (by simp) rfl (by omega) hw.size ?_; intro A2 c2 w2 ho2 hg2 hn2; have hw2 := below_own hw hg2 hw.size (fun b hb => (ho.os.lt hb).1); have hi2 := OI.snoc ho2 ho.all (z := 4) ⟨by omega, by omega⟩; clear ho2 hg2 hn2))
  go_ret
  exact ⟨_, _, _, rfl, by rw [HL.out]; exact ho, hw⟩
set_option maxRecDepth 100000 in
set_option maxHeartbeats 1000000 in
theorem impl_fails4 (v k l : Int) (w : World) (h : inRng v k l = true) (hr : okR v k l = true) (hb : okB v k l = true) (hv : (nB v k l == v) = true) (h2 : (v % 2 == 0) = true) (hs : isSq (k - l) = false) (hL : fails v k l = [4]) :
    Calls Try.prog 26 #[.int .i64 v, .int .i64 k, .int .i64 l] w (RetI w 2 (fails v k l)) := by
  have HL := Lib.hid hL
  clear hL
  obtain ⟨v1, v2, k1, k2, l1, l2⟩ := inRng_true h
  go_enter Try.func26, Try.ntmps26
  go_wp2_with fail
  refine (blockNumbers_any v k l _ h).mono ?_
  rintro e w1 ⟨rfl, hb1⟩
  have ho := OI.nil_ w1 w.heap.size 2
  have hw := hb1
  have hle : v ≤ nB v k l := by simp at hv; omega
  have h2' : (v % 2 == 1) = false := by simp at h2 ⊢; omega
  go_wp2_with (first
    | (go_at_call 57; refine (isSquare_any (k - l) _ (by omega) (by omega)).mono ?_; rintro e w' ⟨rfl, rfl⟩)
    | (at_builtin; refine wpList_app1' _ rfl (.tmp 57) (.tmp 58) 32 rfl 2 (.int .i64 0) 8 Try.underlying32 int_infoG rfl (by omega) w.heap.size none 0 0 (ints []) rfl ho.os (.int .i64 4) _ rfl (by simp) rfl (by omega) hw.size ?_; intro A2 c2 w2 ho2 hg2 hn2; have hw2 := below_own hw hg2 hw.size (fun b hb => (ho.os.lt hb).1); have hi2 := OI.snoc ho2 ho.all (z := 4) ⟨by omega, by omega⟩; clear ho2 hg2 hn2))
  go_ret
  exact ⟨_, _, _, rfl, by rw [HL.out]; exact hi2, hw2⟩
set_option maxRecDepth 100000 in
set_option maxHeartbeats 1000000 in
theorem impl_failsT1 (v k l : Int) (w : World) (h : inRng v k l = true) (hr : okR v k l = true) (hb : okB v k l = true) (hv : (nB v k l == v) = true) (h4 : v % 4 = 1) (hs : solves (k - l) l = true) (hL : fails v k l = []) :
    Calls Try.prog 26 #[.int .i64 v, .int .i64 k, .int .i64 l] w (RetI w 2 (fails v k l)) := by
  have HL := Lib.hid hL
  clear hL
  obtain ⟨v1, v2, k1, k2, l1, l2⟩ := inRng_true h
  go_enter Try.func26, Try.ntmps26
  go_wp2_with fail
  refine (blockNumbers_any v k l _ h).mono ?_
  rintro e w1 ⟨rfl, hb1⟩
  have ho := OI.nil_ w1 w.heap.size 2
  have hw := hb1
  have hle : v ≤ nB v k l := by simp at hv; omega
  have h2 : (v % 2 == 0) = false := by simp; omega
  have h2' : (v % 2 == 1) = true := by simp; omega
  go_wp2_with fail
  refine (impl_SolvesTernary _ _ _).mono ?_
  rintro e w3 ⟨rfl, hb3⟩
  have ho3 := ho.below hb3
  have hw3 := hw.trans (hb3.mono hw.size)
  go_wp2_with fail
  go_ret
  exact ⟨_, _, _, rfl, by rw [HL.out]; exact ho3, hw3⟩
set_option maxRecDepth 100000 in
set_option maxHeartbeats 1000000 in
theorem impl_fails51 (v k l : Int) (w : World) (h : inRng v k l = true) (hr : okR v k l = true) (hb : okB v k l = true) (hv : (nB v k l == v) = true) (h4 : v % 4 = 1) (hs : solves (k - l) l = false) (hL : fails v k l = [5]) :
    Calls Try.prog 26 #[.int .i64 v, .int .i64 k, .int .i64 l] w (RetI w 2 (fails v k l)) := by
  have HL := Lib.hid hL
  clear hL
  obtain ⟨v1, v2, k1, k2, l1, l2⟩ := inRng_true h
  go_enter Try.func26, Try.ntmps26
  go_wp2_with fail
  refine (blockNumbers_any v k l _ h).mono ?_
  rintro e w1 ⟨rfl, hb1⟩
  have ho := OI.nil_ w1 w.heap.size 2
  have hw := hb1
  have hle : v ≤ nB v k l := by simp at hv; omega
  have h2 : (v % 2 == 0) = false := by simp; omega
  have h2' : (v % 2 == 1) = true := by simp; omega
  go_wp2_with fail
  refine (impl_SolvesTernary _ _ _).mono ?_
  rintro e w3 ⟨rfl, hb3⟩
  have ho3 := ho.below hb3
  have hw3 := hw.trans (hb3.mono hw.size)
  go_wp2_with (at_builtin; refine wpList_app1' _ rfl (.tmp 81) (.tmp 82) 32 rfl 2 (.int .i64 0) 8 Try.underlying32 int_infoG rfl (by omega) w.heap.size none 0 0 (ints []) rfl ho3.os (.int .i64 5) _ rfl (by simp) rfl (by omega) hw3.size ?_; intro A2 c2 w2 ho2 hg2 hn2; have hw2 := below_own hw3 hg2 hw3.size (fun b hb => (ho3.os.lt hb).1); have hi2 := OI.snoc ho2 ho3.all (z := 5) ⟨by omega, by omega⟩; clear ho2 hg2 hn2)
  go_ret
  exact ⟨_, _, _, rfl, by rw [HL.out]; exact hi2, hw2⟩
set_option maxRecDepth 100000 in
set_option maxHeartbeats 1000000 in
theorem impl_failsT3 (v k l : Int) (w : World) (h : inRng v k l = true) (hr : okR v k l = true) (hb : okB v k l = true) (hv : (nB v k l == v) = true) (h4 : v % 4 = 3) (hs : solves (k - l) (-l) = true) (hL : fails v k l = []) :
    Calls Try.prog 26 #[.int .i64 v, .int .i64 k, .int .i64 l] w (RetI w 2 (fails v k l)) := by
  have HL := Lib.hid hL
  clear hL
  obtain ⟨v1, v2, k1, k2, l1, l2⟩ := inRng_true h
  go_enter Try.func26, Try.ntmps26
  go_wp2_with fail
  refine (blockNumbers_any v k l _ h).mono ?_
  rintro e w1 ⟨rfl, hb1⟩
  have ho := OI.nil_ w1 w.heap.size 2
  have hw := hb1
  have hle : v ≤ nB v k l := by simp at hv; omega
  have h2 : (v % 2 == 0) = false := by simp; omega
  have h2' : (v % 2 == 1) = true := by simp; omega
  go_wp2_with fail
  refine (impl_SolvesTernary _ _ _).mono ?_
  rintro e w3 ⟨rfl, hb3⟩
  have ho3 := ho.below hb3
  have hw3 := hw.trans (hb3.mono hw.size)
  go_wp2_with fail
  go_ret
  exact ⟨_, _, _, rfl, by rw [HL.out]; exact ho3, hw3⟩
set_option maxRecDepth 100000 in
set_option maxHeartbeats 1000000 in
theorem impl_fails53 (v k l : Int) (w : World) (h : inRng v k l = true) (hr : okR v k l = true) (hb : okB v k l = true) (hv : (nB v k l == v) = true) (h4 : v % 4 = 3) (hs : solves (k - l) (-l) = false) (hL : fails v k l = [5]) :
    Calls Try.prog 26 #[.int .i64 v, .int .i64 k, .int .i64 l] w (RetI w 2 (fails v k l)) := by
  have HL := Lib.hid hL
  clear hL
  obtain ⟨v1, v2, k1, k2, l1, l2⟩ := inRng_true h
  go_enter Try.func26, Try.ntmps26
  go_wp2_with fail
  refine (blockNumbers_any v k l _ h).mono ?_
  rintro e w1 ⟨rfl, hb1⟩
  have ho := OI.nil_ w1 w.heap.size 2
  have hw := hb1
  have hle : v ≤ nB v k l := by simp at hv; omega
  have h2 : (v % 2 == 0) = false := by simp; omega
  have h2' : (v % 2 == 1) = true := by simp; omega
  go_wp2_with fail
  refine (impl_SolvesTernary _ _ _).mono ?_
  rintro e w3 ⟨rfl, hb3⟩
  have ho3 := ho.below hb3
  have hw3 := hw.trans (hb3.mono hw.size)
  go_wp2_with (at_builtin; refine wpList_app1' _ rfl (.tmp 81) (.tmp 82) 32 rfl 2 (.int .i64 0) 8 Try.underlying32 int_infoG rfl (by omega) w.heap.size none 0 0 (ints []) rfl ho3.os (.int .i64 5) _ rfl (by simp) rfl (by omega) hw3.size ?_; intro A2 c2 w2 ho2 hg2 hn2; have hw2 := below_own hw3 hg2 hw3.size (fun b hb => (ho3.os.lt hb).1); have hi2 := OI.snoc ho2 ho3.all (z := 5) ⟨by omega, by omega⟩; clear ho2 hg2 hn2)
  go_ret
  exact ⟨_, _, _, rfl, by rw [HL.out]; exact hi2, hw2⟩
theorem impl_fails (v k l : Int) (w : World) (h : inRng v k l = true) : Calls Try.prog 26 #[.int .i64 v, .int .i64 k, .int .i64 l] w (RetI w 2 (fails v k l)) := by
  cases hr : okR v k l <;> cases hb : okB v k l
  · exact impl_fails12 v k l w h hr hb (by simp [fails, hr, hb])
  · exact impl_fails1 v k l w h hr hb (by simp [fails, hr, hb])
  · exact impl_fails2 v k l w h hr hb (by simp [fails, hr, hb])
  · by_cases h1 : nB v k l < v
    · exact impl_fails3 v k l w h hr hb h1 (by simp [fails, hr, hb, h1])
    · by_cases h2 : nB v k l = v
      · have h2' : (nB v k l == v) = true := by simp [h2]
        by_cases h3 : v % 2 = 0
        · have h3' : (v % 2 == 0) = true := by simp [h3]
          cases hs : isSq (k - l)
          · exact impl_fails4 v k l w h hr hb h2' h3' hs (by simp [fails, hr, hb, h2, h3, hs])
          · exact impl_failsS v k l w h hr hb h2' h3' hs (by simp [fails, hr, hb, h2, h3, hs])
        · have h4 : v % 4 = 1 ∨ v % 4 = 3 := by omega
          rcases h4 with h4 | h4
          · cases hs : solves (k - l) l
            · exact impl_fails51 v k l w h hr hb h2' h4 hs (by simp [fails, hr, hb, h2, h3, h4, hs])
            · exact impl_failsT1 v k l w h hr hb h2' h4 hs (by simp [fails, hr, hb, h2, h3, h4, hs])
          · cases hs : solves (k - l) (-l)
            · exact impl_fails53 v k l w h hr hb h2' h4 hs (by simp [fails, hr, hb, h2, h3, h4, hs])
            · exact impl_failsT3 v k l w h hr hb h2' h4 hs (by simp [fails, hr, hb, h2, h3, h4, hs])
      · exact impl_fails0 v k l w h hr hb (by omega) (by simp [fails, hr, hb, h1, h2])
def poss (v k l : Int) : Bool := inRng v k l && ((fails v k l).length : Int) == 0
def condL (v k l : Int) : List Int := if inRng v k l then fails v k l else []
def condC (v k l : Int) : Int := if inRng v k l then 0 else 2
set_option maxHeartbeats 400000 in
theorem impl_IsPossible (v k l : Int) (w : World) :
    Calls Try.prog 11 #[.int .i64 v, .int .i64 k, .int .i64 l] w fun en w' => en = .returned (.bool (poss v k l)) ∧ Below w.heap.size w w' := by
  by_cases h : inRng v k l = true
  · have HP := Lib.hid (show poss v k l = (((fails v k l).length : Int) == 0) by simp [poss, h])
    go_enter Try.func11, Try.ntmps11
    go_wp2_with (go_at_call 25; refine (inRange_any _ _ _ _).mono ?_; rintro e w' ⟨rfl, rfl⟩)
    refine (impl_fails v k l _ h).mono ?_
    rintro e w1 ⟨A, n, c, rfl, ho, hb⟩
    have hl := Lib.hid ho.len
    go_wp2
    go_ret
    refine ⟨?_, hb⟩
    rw [HP.out, hl.out]
    first | done | rfl
  · have h' := inRng_false h
    have HP := Lib.hid (show poss v k l = false by simp [poss, h'])
    clear h
    go_enter Try.func11, Try.ntmps11
    go_wp2_with (go_at_call 25; refine (inRange_any _ _ _ _).mono ?_; rintro e w' ⟨rfl, rfl⟩)
    go_ret
    exact ⟨by rw [HP.out]; rfl, Below.refl _ _⟩
set_option maxHeartbeats 400000 in
theorem impl_ConditionsOf (v k l : Int) (w : World) :
    Calls Try.prog 9 #[.int .i64 v, .int .i64 k, .int .i64 l] w (RetIC w 2 (condL v k l) (condC v k l)) := by
  by_cases h : inRng v k l = true
  · have HP := Lib.hid (show condL v k l = fails v k l ∧ condC v k l = 0 by simp [condL, condC, h])
    go_enter Try.func9, Try.ntmps9
    go_wp2_with (go_at_call 25; refine (inRange_any _ _ _ _).mono ?_; rintro e w' ⟨rfl, rfl⟩)
    refine (impl_fails v k l _ h).mono ?_
    rintro e w1 ⟨A, n, c, rfl, ho, hb⟩
    go_wp2
    go_ret2
    exact ⟨A, n, c, by rw [HP.out.2]; rfl, by rw [HP.out.1]; exact ho, hb⟩
  · have h' := inRng_false h
    have HP := Lib.hid (show condL v k l = [] ∧ condC v k l = 2 by simp [condL, condC, h'])
    clear h
    go_enter Try.func9, Try.ntmps9
    go_wp2_with (go_at_call 25; refine (inRange_any _ _ _ _).mono ?_; rintro e w' ⟨rfl, rfl⟩)
    go_ret2
    exact ⟨none, 0, 0, by rw [HP.out.2]; rfl, by rw [HP.out.1]; exact OI.nil_ _ _ _, Below.refl _ _⟩
end Go.Proofs.Ytgnilbbblpkcoaa
