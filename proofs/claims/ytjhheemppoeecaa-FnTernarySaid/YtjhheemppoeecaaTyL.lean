/- The law on ternary equations with small numbers. No condition beyond those stated. -/
import Derived.Test.YtjhheemppoeecaaTyP
import Derived.Test.YtjhheemppoeecaaDnm
import Derived.Test.YtjhheemppoeecaaTern
namespace Go.Proofs.Ytjhheemppoeecaa
open Go.RowKit

/-! what is found so far -/
def hitB (a b : Int) (x y : Nat) : Bool := decide (0 < x + y) && sqB (a * x * x + b * y * y)
def fndTo (a b : Int) (i : Nat) : Bool := (List.range i).any fun x => (List.range 9).any fun y => hitB a b x y
def fndAt (a b : Int) (x j : Nat) : Bool := fndTo a b x || (List.range j).any fun y => hitB a b x y
theorem fndAt_zero (a b : Int) (x : Nat) : fndAt a b x 0 = fndTo a b x := by simp [fndAt]
theorem fndAt_all (a b : Int) (x : Nat) : fndAt a b x 9 = fndTo a b (x + 1) := by
  unfold fndAt fndTo
  rw [List.range_succ (n := x), List.any_append]
  simp
theorem fndAt_yes {a b : Int} {x j : Nat} (h : hitB a b x j = true) : fndAt a b x (j + 1) = true := by
  unfold fndAt
  rw [List.range_succ, List.any_append]
  simp [h]
theorem fndAt_no {a b : Int} {x j : Nat} (h : hitB a b x j = false) : fndAt a b x (j + 1) = fndAt a b x j := by
  unfold fndAt
  rw [List.range_succ, List.any_append]
  simp [h]
theorem fndTo_all (a b : Int) : fndTo a b 9 = fndB a b := rfl
theorem mulb {a x A X : Int} (h1 : -A ≤ a) (h2 : a ≤ A) (h3 : 0 ≤ x) (h4 : x ≤ X) (h5 : 0 ≤ A) : -(A * X) ≤ a * x ∧ a * x ≤ A * X := by
  have e1 : a * x ≤ A * x := Int.mul_le_mul_of_nonneg_right h2 h3
  have e2 : -A * x ≤ a * x := Int.mul_le_mul_of_nonneg_right h1 h3
  have e3 : A * x ≤ A * X := Int.mul_le_mul_of_nonneg_left h4 h5
  rw [Int.neg_mul] at e2
  omega
theorem sqB_no {n : Int} {x : Nat} (h : ∀ j : Nat, j < x → (j : Int) * j ≠ n) (hx : n < (x : Int) * x) : sqB n = false := by
  unfold sqB
  rw [List.any_eq_false]
  intro j _ hj
  rw [beq_iff_eq] at hj
  rcases Nat.lt_or_ge j x with h1 | h1
  · exact h j h1 hj
  · have : (x : Int) * x ≤ (j : Int) * j := Int.mul_le_mul (by omega) (by omega) (by omega) (by omega)
    omega
theorem sqB_yes {n : Int} {x : Nat} (hx : x < 88) (h : (x : Int) * x = n) : sqB n = true := by
  unfold sqB
  exact List.any_eq_true.2 ⟨x, List.mem_range.2 hx, by rw [beq_iff_eq]; exact h⟩
set_option maxHeartbeats 400000 in
theorem b10Root_any (n : Int) (w : World) (h1 : -7700 ≤ n) (h2 : n ≤ 7700) :
    Calls Try.prog 8 #[.int .i64 n] w fun en w' => en = .returned (.bool (sqB n)) ∧ w = w' := by
  go_enter Try.func8, Try.ntmps8
  go_wp2
  go_loop [3] (fun i => ∃ x : Nat, i = .int .i64 x ∧ x ≤ 88 ∧ ∀ j : Nat, j < x → (j : Int) * j ≠ n) (fun i => 89 - (intOf i).toNat)
  case atStart => exact ⟨0, rfl, by omega, fun j h => absurd h (by omega)⟩
  case round =>
    obtain ⟨x, rfl, hx, hn⟩ := hrel
    have hm := mulb (a := (x : Int)) (x := (x : Int)) (A := 88) (X := 88) (by omega) (by omega) (by omega) (by omega) (by omega)
    have m1 := hm.1
    have m2 := hm.2
    clear hm
    by_cases hle : (x : Int) * x ≤ n
    · have hx2 : x ≤ 87 := by
        rcases Nat.lt_or_ge x 88 with h | h
        · omega
        · have : (88 : Int) * 88 ≤ (x : Int) * x := Int.mul_le_mul (by omega) (by omega) (by omega) (by omega)
          omega
      by_cases he : (x : Int) * x = n
      · have HE := Lib.hid (sqB_yes (x := x) (by omega) he)
        have he' : ((x : Int) * x == n) = true := by simp [he]
        clear he hn
        go_wp2
        go_ret
        exact ⟨by rw [HE.out]; rfl, rfl⟩
      · have he' : ((x : Int) * x == n) = false := by simp [he]
        have HN := Lib.hid (show ∀ j : Nat, j < x + 1 → (j : Int) * j ≠ n from fun j hj => by
          rcases Nat.lt_succ_iff_lt_or_eq.1 hj with h | h
          · exact hn j h
          · rw [h]; exact he)
        clear he hn
        go_wp2
        go_round
        case rel => exact ⟨x + 1, by go_num, by omega, HN.out⟩
        case measure => simp [intOf]; omega
    · have HE := Lib.hid (sqB_no hn (by omega))
      clear hn
      go_wp2
      go_ret
      exact ⟨by rw [HE.out]; rfl, rfl⟩
theorem freeF_iff : ∀ (l : List Int), freeF l = true ↔ ∀ i, i + 1 < l.length → nth l (i + 1) ≠ nth l i
  | [] => by simp [freeF]
  | [x] => by simp [freeF]
  | x :: y :: r => by
    rw [freeF, Bool.and_eq_true, freeF_iff (y :: r)]
    constructor
    · rintro ⟨h1, h2⟩ i hi
      cases i with
      | zero => simpa [nth] using fun e => by simp at h1; exact h1 e.symm
      | succ i => exact h2 i (by simpa using hi)
    · intro h
      refine ⟨?_, fun i hi => h (i + 1) (by simpa using hi)⟩
      have := h 0 (by simp)
      simp [nth] at this ⊢
      exact fun e => this e.symm
theorem free_no {l : List Int} {k : Nat} (hk : k + 1 < l.length) (h : nth l (k + 1) = nth l k) : freeF l = false := by
  cases hf : freeF l with
  | false => rfl
  | true => exact absurd h ((freeF_iff l).1 hf k hk)
theorem free_yes {l : List Int} (h : ∀ i, i + 1 < l.length → nth l (i + 1) ≠ nth l i) : freeF l = true := (freeF_iff l).2 h
set_option maxHeartbeats 1000000 in
theorem free_loop (a : Int) (w : World) (z : Int) (hz : z = ab a) (ha : -1000 ≤ a ∧ a ≤ 1000) (hneg : (a < 0 ∧ z = -a) ∨ (¬ a < 0 ∧ z = a)) :
    Calls Try.prog 10 #[.int .i64 a] w fun e w' => e = .returned (.bool (freeB a)) ∧ Below w.heap.size w w' := by
  have HZ := Lib.hid (show freeB a = freeF (facsOf z) by rw [freeB, hz])
  obtain ⟨h0, h1⟩ := ha
  clear hz
  rcases hneg with ⟨hn, rfl⟩ | ⟨hn, rfl⟩
  all_goals
    go_enter Try.func10, Try.ntmps10
    go_wp2_with fail
    refine (spec_FactorsOf _ w).mono ?_
    rintro e w1 ⟨A, n, c, rfl, ho, hb⟩
    have hla := Lib.hid ho.len
    have hn19 : n ≤ 19 := by rw [← ho.len]; exact facsOf_len _
    generalize facsOf _ = l at *
    go_wp2
    go_loopw [4] (fun i wr => ∃ k : Nat, i = .int .i64 ((k : Int) + 1) ∧ k ≤ n ∧ (∀ j, j < k → j + 1 < l.length → nth l (j + 1) ≠ nth l j) ∧ Drawn w1 wr) (fun i _ => n + 1 - (intOf i).toNat)
    case atStart => exact ⟨0, by go_num, by omega, fun j h => by omega, Drawn.refl _⟩
    case round =>
      obtain ⟨k, rfl, hk, hno, hd⟩ := hrel
      have HN := Lib.hid hno
      clear hno
      by_cases hlt : k + 1 < n
      · obtain ⟨g, rfl, hc1, -⟩ := (ho.below hd.below).cell (k := k + 1) hlt
        obtain ⟨g2, e2, hc0, -⟩ := (ho.below hd.below).cell (k := k) (by omega)
        cases e2
        have e1 : IntKind.i64.wrap (k : Int) = (k : Int) := IntWalk.i64_in _ (by omega)
        have hkn : k < n := by omega
        have e3 : (0 : Int) ≤ (k : Int) + 1 := by omega
        have hlt2 : (k : Int) + 1 < n := by omega
        by_cases he : nth l (k + 1) = nth l k
        · have HE := Lib.hid (free_no (by rw [hla.out]; exact hlt) he)
          have he' : (nth l (k + 1) == nth l k) = true := by simp [he]
          clear he
          generalize nth l (k + 1) = x at *
          generalize nth l k = y at *
          go_wp2
          go_quiet (fail)
          clear e1
          go_wp2
          go_ret
          exact ⟨by rw [HZ.out, HE.out]; rfl, hb.trans ((hd.more _).below.mono hb.size)⟩
        · have HE := Lib.hid (show ∀ j, j < k + 1 → j + 1 < l.length → nth l (j + 1) ≠ nth l j from fun j hj hjl => by
            by_cases e : j = k
            · rw [e]; exact he
            · exact HN.out j (by omega) hjl)
          have he' : (nth l (k + 1) == nth l k) = false := by simp [he]
          clear he
          generalize nth l (k + 1) = x at *
          generalize nth l k = y at *
          go_wp2
          go_quiet (fail)
          clear e1
          go_wp2
          go_roundw
          case rel => exact ⟨k + 1, by go_num, by omega, HE.out, hd.more _⟩
          case measure => simp [intOf]; omega
      · have hlt2 : ¬ (k : Int) + 1 < n := by omega
        have HE := Lib.hid (free_yes (l := l) fun i hi => HN.out i (by rw [hla.out] at hi; omega) hi)
        go_wp2
        go_ret
        exact ⟨by rw [HZ.out, HE.out]; rfl, hb.trans (hd.below.mono hb.size)⟩
theorem b10Free_any (a : Int) (w : World) (ha : -1000 ≤ a ∧ a ≤ 1000) :
    Calls Try.prog 10 #[.int .i64 a] w fun e w' => e = .returned (.bool (freeB a)) ∧ Below w.heap.size w w' := by
  by_cases h : a < 0
  · exact free_loop a w (-a) (by simp [ab, h]) ha (.inl ⟨h, rfl⟩)
  · exact free_loop a w a (by simp [ab, h]) ha (.inr ⟨h, rfl⟩)
set_option maxHeartbeats 1000000 in
theorem l02Gcd_any (a b : Int) (w : World) (ha : -1000 ≤ a ∧ a ≤ 1000) (hb : -1000 ≤ b ∧ b ≤ 1000) :
    Calls Try.prog 29 #[.int .i64 a, .int .i64 b] w fun e w' => e = .returned (.int .i64 (Nat.gcd a.natAbs b.natAbs)) ∧ w = w' := by
  obtain ⟨a0, a1⟩ := ha
  obtain ⟨b0, b1⟩ := hb
  have HA := Lib.hid (show (a < 0 ∧ (a.natAbs : Int) = -a) ∨ (¬ a < 0 ∧ (a.natAbs : Int) = a) by omega)
  have HB := Lib.hid (show (b < 0 ∧ (b.natAbs : Int) = -b) ∨ (¬ b < 0 ∧ (b.natAbs : Int) = b) by omega)
  have HG := Lib.hid (show Nat.gcd a.natAbs b.natAbs = Nat.gcd a.natAbs b.natAbs from rfl)
  have hA : a.natAbs ≤ 1000 := by omega
  have hB : b.natAbs ≤ 1000 := by omega
  generalize a.natAbs = x0 at *
  generalize b.natAbs = y0 at *
  rcases HA.out with ⟨p1, p2⟩ | ⟨p1, p2⟩ <;> rcases HB.out with ⟨p3, p4⟩ | ⟨p3, p4⟩
  all_goals
    have P2 := Lib.hid p2.symm
    have P4 := Lib.hid p4.symm
    clear p2 p4 HA HB
    go_enter Try.func29, Try.ntmps29
    go_wp2
    go_loop [0, 1, 5] (fun s t _ => ∃ x y : Nat, s = .int .i64 x ∧ t = .int .i64 y ∧ Nat.gcd x y = Nat.gcd x0 y0 ∧ x ≤ 1000 ∧ y ≤ 1000) (fun _ t _ => (intOf t).toNat)
    case atStart => exact ⟨x0, y0, by rw [P2.out], by rw [P4.out], rfl, hA, hB⟩
    case round =>
      obtain ⟨x, y, rfl, rfl, hg, hx, hy⟩ := hrel
      have HG2 := Lib.hid hg
      clear hg
      by_cases h0 : 0 < y
      · have h0' : (y : Int) > 0 := by omega
        have HN := Lib.hid (show Nat.gcd y (x % y) = Nat.gcd x0 y0 by rw [Nat.gcd_comm, ← Nat.gcd_rec, Nat.gcd_comm]; exact HG2.out)
        have HM := Lib.hid (Nat.mod_lt x h0)
        go_wp2
        go_round
        case rel => exact ⟨y, x % y, rfl, by simp, HN.out, hy, by have := HM.out; omega⟩
        case measure => have := HM.out; simp [intOf]; omega
      · have h0' : ¬ (y : Int) > 0 := by omega
        have HE := Lib.hid (show x = Nat.gcd x0 y0 by rw [← HG2.out, show y = 0 by omega, Nat.gcd_zero_right])
        go_wp2
        go_ret
        exact ⟨by rw [← HE.out]; rfl, rfl⟩
set_option maxHeartbeats 400000 in
theorem l02Number_any (a : Int) (w : World) : Calls Try.prog 28 #[.int .i64 a] w fun e w' => e = .returned (.bool (inB a (-1000000) 1000000)) ∧ w = w' := by
  go_enter Try.func28, Try.ntmps28
  go_wp2_with fail
  refine (l00In_any _ _ _ _).mono ?_
  rintro e w' ⟨rfl, rfl⟩
  go_wp2
  go_ret
  exact ⟨rfl, rfl⟩
set_option maxHeartbeats 400000 in
theorem gcd_any (a b : Int) (w : World) (ha : -1000 ≤ a ∧ a ≤ 1000) (hb : -1000 ≤ b ∧ b ≤ 1000) :
    Calls Try.prog 11 #[.int .i64 a, .int .i64 b] w fun e w' => e = .returned (.int .i64 (Nat.gcd a.natAbs b.natAbs)) ∧ w = w' := by
  have h1 : inB a (-1000000) 1000000 = true := inB_mk ⟨by omega, by omega⟩
  have h2 : inB b (-1000000) 1000000 = true := inB_mk ⟨by omega, by omega⟩
  go_enter Try.func11, Try.ntmps11
  go_wp2_with fail
  refine (l02Number_any a _).mono ?_
  rintro e w' ⟨rfl, rfl⟩
  rw [h1]
  go_wp2_with fail
  refine (l02Number_any b _).mono ?_
  rintro e w' ⟨rfl, rfl⟩
  rw [h2]
  go_wp2_with fail
  refine (l02Gcd_any a b _ ha hb).mono ?_
  rintro e w' ⟨rfl, rfl⟩
  go_wp2
  go_ret
  exact ⟨rfl, rfl⟩
theorem ty_sum {a b : Int} {x y : Nat} (h1 : -60 ≤ a) (h2 : a ≤ 60) (h3 : -60 ≤ b) (h4 : b ≤ 60) (hx : x ≤ 8) (hy : y ≤ 8) :
    ((-480 ≤ a * x ∧ a * x ≤ 480) ∧ (-3840 ≤ a * x * x ∧ a * x * x ≤ 3840)) ∧ ((-480 ≤ b * y ∧ b * y ≤ 480) ∧ (-3840 ≤ b * y * y ∧ b * y * y ≤ 3840)) := by
  have e1 := mulb (a := a) (x := (x : Int)) (A := 60) (X := 8) h1 h2 (by omega) (by omega) (by omega)
  have e2 := mulb (a := a * x) (x := (x : Int)) (A := 480) (X := 8) (by omega) (by omega) (by omega) (by omega) (by omega)
  have e3 := mulb (a := b) (x := (y : Int)) (A := 60) (X := 8) h3 h4 (by omega) (by omega) (by omega)
  have e4 := mulb (a := b * y) (x := (y : Int)) (A := 480) (X := 8) (by omega) (by omega) (by omega) (by omega) (by omega)
  omega
set_option maxRecDepth 100000 in
set_option maxHeartbeats 4000000 in
theorem law_Ternary_ok (A : Option Addr) (n c : Nat) (zs : List Int) (w : World) (ha : RS EByte w A n zs) (hn : n ≤ 1048576) :
    Calls Try.prog 3 #[.slice A n c] w fun e w' => e = .returned (.bool true) ∧ Below w.heap.size w w' := by
  go_enter Try.func3, Try.ntmps3
  go_wp2_with fail
  refine (b10Long_no A n c _ hn).mono ?_
  rintro e w' ⟨rfl, rfl⟩
  go_wp2_with fail
  refine (drawTernary_any A n c zs w ha (by omega)).mono ?_
  rintro e w1 ⟨a, b, rfl, da, db, hb1⟩
  obtain ⟨da1, da2⟩ := da.bd
  obtain ⟨db1, db2⟩ := db.bd
  clear da db
  by_cases e0 : a = 0
  · have q0 : (a == 0) = true := by simp [e0]
    clear e0
    go_wp2
    go_ret
    exact ⟨rfl, hb1⟩
  have q0 : (a == 0) = false := by simp [e0]
  by_cases e1 : b = 0
  · have q1 : (b == 0) = true := by simp [e1]
    clear e0 e1
    go_wp2
    go_ret
    exact ⟨rfl, hb1⟩
  have q1 : (b == 0) = false := by simp [e1]
  by_cases e2 : 60 < a
  · have q2 : decide (60 < a) = true := by simp [e2]
    clear e0 e1 e2
    go_wp2
    go_ret
    exact ⟨rfl, hb1⟩
  have q2 : decide (60 < a) = false := by simp; omega
  by_cases e3 : a < -60
  · have q3 : decide (a < -60) = true := by simp [e3]
    clear e0 e1 e2 e3
    go_wp2
    go_ret
    exact ⟨rfl, hb1⟩
  have q3 : decide (a < -60) = false := by simp; omega
  by_cases e4 : 60 < b
  · have q4 : decide (60 < b) = true := by simp [e4]
    clear e0 e1 e2 e3 e4
    go_wp2
    go_ret
    exact ⟨rfl, hb1⟩
  have q4 : decide (60 < b) = false := by simp; omega
  by_cases e5 : b < -60
  · have q5 : decide (b < -60) = true := by simp [e5]
    clear e0 e1 e2 e3 e4 e5
    go_wp2
    go_ret
    exact ⟨rfl, hb1⟩
  have q5 : decide (b < -60) = false := by simp; omega
  have ha1 : -60 ≤ a := by omega
  have ha2 : a ≤ 60 := by omega
  have hb2 : -60 ≤ b := by omega
  have hb3 : b ≤ 60 := by omega
  have HA0 := Lib.hid e0
  have HB0 := Lib.hid e1
  clear e0 e1 e2 e3 e4 e5
  go_wp2
  go_loop [5, 6, 7] (fun f i _ => ∃ x : Nat, x ≤ 9 ∧ i = .int .i64 x ∧ f = .bool (fndTo a b x)) (fun _ i _ => 9 - (intOf i).toNat)
  case atStart => exact ⟨0, by omega, rfl, rfl⟩
  case round =>
    obtain ⟨x, hx, rfl, rfl⟩ := hrel
    by_cases hlx : x < 9
    · have HZ := Lib.hid (fndAt_zero a b x)
      have HE := Lib.hid (fndAt_all a b x)
      have hlx' : (x : Int) < 9 := by omega
      go_wp2
      go_loop [5, 7] (fun f j => ∃ y : Nat, y ≤ 9 ∧ j = .int .i64 y ∧ f = .bool (fndAt a b x y)) (fun _ j => 9 - (intOf j).toNat)
      case atStart => exact ⟨0, by omega, rfl, by rw [HZ.out]⟩
      case round =>
        obtain ⟨y, hy, rfl, rfl⟩ := hrel
        by_cases hly : y < 9
        · have hly' : (y : Int) < 9 := by omega
          obtain ⟨⟨⟨b1, b2⟩, b3, b4⟩, ⟨b5, b6⟩, b7, b8⟩ := ty_sum (x := x) (y := y) ha1 ha2 hb2 hb3 (by omega) (by omega)
          by_cases h0 : 0 < x + y
          · have h0' : (x : Int) + (y : Int) > 0 := by omega
            have HH := Lib.hid (show hitB a b x y = sqB (a * x * x + b * y * y) by simp [hitB, h0])
            cases hs : sqB (a * x * x + b * y * y) with
            | true =>
              have HN := Lib.hid (fndAt_yes (HH.out.trans hs))
              have hroot := b10Root_any (a * x * x + b * y * y) w1 (by omega) (by omega)
              rw [hs] at hroot
              clear hs
              go_wp2_with fail
              refine hroot.mono ?_
              rintro e w' ⟨rfl, rfl⟩
              go_wp2
              go_round
              case rel => exact ⟨y + 1, by omega, by go_num, by rw [HN.out]⟩
              case measure => simp [intOf]; omega
            | false =>
              have HN := Lib.hid (fndAt_no (HH.out.trans hs))
              have hroot := b10Root_any (a * x * x + b * y * y) w1 (by omega) (by omega)
              rw [hs] at hroot
              clear hs
              go_wp2_with fail
              refine hroot.mono ?_
              rintro e w' ⟨rfl, rfl⟩
              go_wp2
              go_round
              case rel => exact ⟨y + 1, by omega, by go_num, by rw [HN.out]⟩
              case measure => simp [intOf]; omega
          · have h0' : ¬ (x : Int) + (y : Int) > 0 := by omega
            have HN := Lib.hid (fndAt_no (a := a) (b := b) (x := x) (j := y) (by simp [hitB, h0]))
            go_wp2
            go_round
            case rel => exact ⟨y + 1, by omega, by go_num, by rw [HN.out]⟩
            case measure => simp [intOf]; omega
        · obtain rfl : y = 9 := by omega
          have hly' : ¬ ((9 : Nat) : Int) < 9 := by omega
          go_wp2
          go_round
          case rel => exact ⟨x + 1, by omega, by go_num, by rw [← HE.out]⟩
          case measure => simp [intOf]; omega
    · obtain rfl : x = 9 := by omega
      have hq : fndTo a b 9 = fndB a b := rfl
      have hlx' : ¬ ((9 : Nat) : Int) < 9 := by omega
      rw [hq]
      cases hF : fndB a b with
      | true =>
        have hsol := ty_found ha1 ha2 hb2 hb3 HA0.out HB0.out hF
        have himp := impl_SolvesTernary a b w1
        rw [hsol] at himp
        clear hF hq hsol
        go_wp2_with fail
        refine himp.mono ?_
        rintro e w2 ⟨rfl, hb4⟩
        go_wp2
        go_ret
        exact ⟨rfl, hb1.trans (hb4.mono hb1.size)⟩
      | false =>
        have hfa := b10Free_any a w1 ⟨by omega, by omega⟩
        cases hA : freeB a with
        | false =>
          rw [hA] at hfa
          clear hF hq hA
          go_wp2_with fail
          refine hfa.mono ?_
          rintro e w2 ⟨rfl, hb4⟩
          go_wp2
          go_ret
          exact ⟨rfl, hb1.trans (hb4.mono hb1.size)⟩
        | true =>
          rw [hA] at hfa
          have HFA := Lib.hid hA
          have HF := Lib.hid hF
          clear hq hA
          clear hF
          go_wp2_with fail
          refine hfa.mono ?_
          rintro e w2 ⟨rfl, hb4⟩
          have hw2 := hb1.trans (hb4.mono hb1.size)
          have hfb := b10Free_any b w2 ⟨by omega, by omega⟩
          cases hB : freeB b with
          | false =>
            rw [hB] at hfb
            clear hB
            go_wp2_with fail
            refine hfb.mono ?_
            rintro e w3 ⟨rfl, hb5⟩
            go_wp2
            go_ret
            exact ⟨rfl, hw2.trans (hb5.mono hw2.size)⟩
          | true =>
            rw [hB] at hfb
            have HFB := Lib.hid hB
            clear hB
            go_wp2_with fail
            refine hfb.mono ?_
            rintro e w3 ⟨rfl, hb5⟩
            have hw3 := hw2.trans (hb5.mono hw2.size)
            have hgc := gcd_any a b w3 ⟨by omega, by omega⟩ ⟨by omega, by omega⟩
            by_cases hg : Nat.gcd a.natAbs b.natAbs = 1
            · have hsol := ty_none ha1 ha2 hb2 hb3 HA0.out HB0.out HF.out HFA.out HFB.out hg
              rw [hg] at hgc
              clear hg
              go_wp2_with fail
              refine hgc.mono ?_
              rintro e w' ⟨rfl, rfl⟩
              have himp := impl_SolvesTernary a b w3
              rw [hsol] at himp
              clear hsol
              go_wp2_with fail
              refine himp.mono ?_
              rintro e w4 ⟨rfl, hb6⟩
              go_wp2
              go_ret
              exact ⟨rfl, hw3.trans (hb6.mono hw3.size)⟩
            · have hg' : (((Nat.gcd a.natAbs b.natAbs : Nat) : Int) != 1) = true := by simp; omega
              clear hg
              generalize ((Nat.gcd a.natAbs b.natAbs : Nat) : Int) = G at *
              go_wp2_with fail
              refine hgc.mono ?_
              rintro e w' ⟨rfl, rfl⟩
              go_wp2
              go_ret
              exact ⟨rfl, hw3⟩
theorem law_Ternary (A : Option Addr) (n c : Nat) (zs : List Int) (w : World) (ha : RS EByte w A n zs) (hn : n ≤ c) (hc : c ≤ 9223372036854775807) :
    Calls Try.prog 3 #[.slice A n c] w fun e w' => e = .returned (.bool true) ∧ Below w.heap.size w w' := by
  by_cases h1 : n ≤ 1048576
  · exact law_Ternary_ok A n c zs w ha h1
  · go_enter Try.func3, Try.ntmps3
    go_wp2_with fail
    refine (b10Long_yes A n c _ (by omega)).mono ?_
    rintro e w' ⟨rfl, rfl⟩
    go_wp2
    go_ret
    exact ⟨rfl, Below.refl _ _⟩
end Go.Proofs.Ytjhheemppoeecaa
