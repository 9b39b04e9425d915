/- Powers, digits, numbers, polynomials: the functions of the reference. No condition beyond those stated. -/
import Derived.Test.YtnmcmologlgccaaGreatSZAN
set_option linter.unusedVariables false
set_option linter.unusedSimpArgs false
namespace Go.Proofs.YtnmcmologlgccaaGreat
open Go.RowKit
set_option maxHeartbeats 400000 in
theorem l03Power_any (p : Int) (k : Nat) (w : World) (hp : 2 ≤ p) (hp2 : p ≤ 64) (hk : k ≤ 6) :
    Calls Tryz.prog 79 #[.int .i64 p, .int .i64 k] w fun e w' => e = .returned (.int .i64 (p ^ k)) ∧ w = w' := by
  go_enter Tryz.func79, Tryz.ntmps79
  go_wp2
  go_loop [1, 5] (fun i x => ∃ j : Nat, j ≤ k ∧ i = .int .i64 ((k : Int) - j) ∧ x = .int .i64 (p ^ j)) (fun i _ => (intOf i).toNat)
  case atStart => exact ⟨0, by omega, by go_num, by rw [Int.pow_zero]⟩
  case round =>
    obtain ⟨j, hj, rfl, rfl⟩ := hrel
    have h0 : 0 ≤ p ^ j := Int.le_of_lt (Int.pow_pos (by omega))
    have h64 : ∀ j : Nat, p ^ j ≤ 64 ^ j := fun j => by
      induction j with
      | zero => simp
      | succ j ih =>
        rw [Int.pow_succ, Int.pow_succ]
        exact Int.mul_le_mul ih hp2 (by omega) (Int.le_of_lt (Int.pow_pos (by omega)))
    have h6 : p ^ j ≤ 68719476736 := Int.le_trans (h64 j) (Int.le_trans (pow_mono (by omega) (show j ≤ 6 by omega)) (by decide))
    clear h64
    by_cases hlt : j < k
    · have HS := Lib.hid (show p ^ (j + 1) = p ^ j * p from Int.pow_succ _ _)
      obtain ⟨m1, m2⟩ := mul_bdF (a := p ^ j) (b := p) (x := 68719476736) (y := 64) h0 h6 (by omega) hp2
      have hlt' : 0 < (k : Int) - j := by omega
      generalize p ^ j = x at *
      go_wp2
      go_round
      case rel => exact ⟨j + 1, by omega, by go_num, by rw [HS.out]⟩
      case measure => simp [intOf]; omega
    · obtain rfl : j = k := by omega
      have hlt' : (j : Int) - j ≤ 0 := by omega
      go_wp2
      go_ret
      exact ⟨rfl, rfl⟩
set_option maxHeartbeats 800000 in
theorem l03Digits_any (a p : Int) (n : Nat) (w : World) (ha : 0 ≤ a) (ha2 : a ≤ 1000000) (hp : 2 ≤ p) (hp2 : p ≤ 1000000) (hn : n ≤ 1000) :
    Calls Tryz.prog 193 #[.int .i64 a, .int .i64 p, .int .i64 n] w (RetI w 2 (digsP a p n)) := by
  go_enter Tryz.func193, Tryz.ntmps193
  go_wp2
  have hb1 := below_alloc w (.cells #[] 2)
  have ho0 : OI (w.alloc (.cells #[] 2)) w.heap.size 2 (some ⟨w.heap.size, 0, none⟩) 0 0 ((digsP a p n).take 0) := by simpa [ints] using OI.lit w w.heap.size 2 [] (Nat.le_refl _) (by simp) (by simp [All64])
  go_loopw [0, 2, 7] (fun x i l wr => ∃ (j : Nat) (A' : Option Addr) (c' : Nat), j ≤ n ∧ i = .int .i64 ((n : Int) - j) ∧ x = .int .i64 (divN a p j) ∧ l = .slice A' j c' ∧ OI wr w.heap.size 2 A' j c' ((digsP a p n).take j) ∧ Below w.heap.size w wr) (fun _ i _ _ => (intOf i).toNat)
  case atStart => exact ⟨0, _, 0, Nat.zero_le _, by go_num, rfl, rfl, ho0, hb1⟩
  case round =>
    clear ho0 hb1
    obtain ⟨j, A', c', hj, rfl, rfl, rfl, ho, hw⟩ := hrel
    by_cases hlt : j < n
    · obtain ⟨d0, d1⟩ := divN_bd (p := p) ha (by omega) j
      have HS := Lib.hid (digs_take (a := a) (p := p) hlt)
      have HD := Lib.hid (show divN a p (j + 1) = divN a p j / p from rfl)
      have m0 := Int.emod_nonneg (divN a p j) (show p ≠ 0 by omega)
      have m1 := Int.emod_lt_of_pos (divN a p j) (show 0 < p by omega)
      have hi64 : I64 (divN a p j % p) := ⟨by omega, by omega⟩
      have hlt' : 0 < (n : Int) - j := by omega
      have hws := hw.size
      clear m0 m1
      generalize divN a p j = x at *
      go_wp2_with (at_builtin; refine app_int _ rfl (.tmp 13) (.tmp 17) rfl w.heap.size A' j c' _ rfl ho (x % p) wr.heap.size rfl rfl hi64 (by omega) hws ?_; intro A4 c4 w4 ho4 hg4 hf4; have hb4 := below_own hw hg4 hws (fun q hq => (ho.os.lt hq).1))
      rw [← HS.out] at ho4
      go_roundw
      case rel => exact ⟨j + 1, A4, c4, by omega, by go_num, by rw [HD.out], rfl, ho4, hb4⟩
      case measure => simp [intOf]; omega
    · obtain rfl : j = n := by omega
      rw [List.take_of_length_le (by rw [digs_len]; exact Nat.le_refl _)] at ho
      have hlt' : (j : Int) - j ≤ 0 := by omega
      go_wp2
      go_ret
      exact ⟨_, _, _, rfl, ho, hw⟩
set_option maxHeartbeats 800000 in
theorem l03Number_any (A : Option Addr) (n c : Nat) (l : List Int) (p : Int) (w : World) (ha : RI w A n l) (hd : Dg p l) (hp : 2 ≤ p) (hp2 : p ≤ 1000000) (hb : p ^ l.length ≤ 1000000) (hn : n ≤ 1000) :
    Calls Tryz.prog 195 #[.slice A n c, .int .i64 p] w fun e w' => e = .returned (.int .i64 (numR l p)) ∧ w = w' := by
  have hla := Lib.hid ha.len
  go_enter Tryz.func195, Tryz.ntmps195
  go_wp2
  go_loop [5, 6] (fun x i => ∃ j : Nat, j ≤ n ∧ i = .int .i64 ((j : Int) - 1) ∧ x = .int .i64 (numR (l.drop j) p)) (fun _ i => (intOf i + 1).toNat)
  case atStart => exact ⟨n, Nat.le_refl _, by go_num, by rw [List.drop_eq_nil_of_le (by rw [hla.out]; exact Nat.le_refl _)]; rfl⟩
  case round =>
    obtain ⟨j, hj, rfl, rfl⟩ := hrel
    obtain ⟨b1, b2⟩ := num_bd (p := p) (by omega) (dg_drop hd j)
    have b3 := Int.lt_of_lt_of_le b2 (pow_mono (p := p) (by omega) (show (l.drop j).length ≤ l.length by rw [List.length_drop]; omega))
    have b4 : numR (l.drop j) p ≤ 1000000 := by omega
    clear b2 b3
    by_cases h0 : 0 < j
    · obtain ⟨i, rfl⟩ : ∃ i, j = i + 1 := ⟨j - 1, by omega⟩
      have HS := Lib.hid (num_drop (l := l) (p := p) (k := i) (by rw [hla.out]; omega))
      obtain ⟨ad, rfl, hc, -⟩ := ha.get (k := i) (by omega)
      obtain ⟨c0, c1⟩ := hd i
      have hbm := mul_bdF (a := numR (l.drop (i + 1)) p) (b := p) b1 b4 (by omega) hp2
      obtain ⟨hb1, hb2⟩ := hbm
      have e1 : ((i + 1 : Nat) : Int) - 1 = (i : Int) := by omega
      rw [e1]
      generalize nth l i = d at *
      generalize numR (l.drop (i + 1)) p = x at *
      clear e1
      go_wp2
      go_round
      case rel => exact ⟨i, by omega, by go_num, by rw [HS.out]⟩
      case measure => simp [intOf]
    · obtain rfl : j = 0 := by omega
      rw [List.drop_zero]
      go_wp2
      go_ret
      exact ⟨rfl, rfl⟩
theorem rest_step {x c b p : Int} (hp : 2 ≤ p) (hp2 : p ≤ 1000000) (hx : 0 ≤ x) (hx2 : x < p) (hc : 0 ≤ c) (hc2 : c < p) (hb : 0 ≤ b) (hb2 : b < p) :
    IntKind.i64.wrap (p - c) = p - c ∧ IntKind.i64.wrap ((p - c) * b) = (p - c) * b ∧ IntKind.i64.wrap (x + (p - c) * b) = x + (p - c) * b ∧ (x + (p - c) * b).tmod p = (x + (p - c) * b) % p ∧
      0 ≤ (x + (p - c) * b) % p ∧ (x + (p - c) * b) % p < p ∧ ¬ p = 0 := by
  obtain ⟨m1, m2⟩ := mul_bdF (a := p - c) (b := b) (x := 1000000) (y := 1000000) (by omega) (by omega) hb (by omega)
  refine ⟨IntWalk.i64_in _ (by omega), IntWalk.i64_in _ (by omega), IntWalk.i64_in _ (by omega), Int.tmod_eq_emod_of_nonneg (by omega), Int.emod_nonneg _ (by omega), Int.emod_lt_of_pos _ (by omega), by omega⟩
set_option maxRecDepth 100000 in
set_option maxHeartbeats 800000 in
theorem l03Rest_any (A : Option Addr) (n c : Nat) (u : List Int) (B : Option Addr) (m d : Nat) (g : List Int) (p : Int) (w : World) (ha : RI w A n u) (hb : RI w B m g) (hu : Dg p u) (hg : Dg p g) (hp : 2 ≤ p) (hp2 : p ≤ 1000000) (hn : n ≤ 1000) (hn1 : 0 < n) (hm : m ≤ 1000) (hm1 : 1 ≤ m) :
    Calls Tryz.prog 196 #[.slice A n c, .slice B m d, .int .i64 p] w (fun e w' => ∃ A' c', e = .returned (.slice A' (min (m - 1) n) c') ∧ OI w' w.heap.size 2 A' (min (m - 1) n) c' (remP p g u) ∧ Below w.heap.size w w' ∧ Dg p (remP p g u)) := by
  have hla := Lib.hid ha.len
  have hlb := Lib.hid hb.len
  go_enter Tryz.func196, Tryz.ntmps196
  go_wp2_with fail
  refine (l00Own_any A n c u w ha (by omega)).mono ?_
  rintro e w1 ⟨A1, n1, c1, rfl, ho1, hb1⟩
  obtain rfl : n1 = n := by rw [← ho1.len, hla.out]
  have hDg0 : Dg p (remTo p g u 0) := hu
  have ho1 : OI w1 w.heap.size 2 A1 n1 c1 (remTo p g u 0) := ho1
  obtain ⟨gA, rfl, -, -, -⟩ := ho1.cell (k := 0) (by omega)
  go_wp2
  go_loopw [9, 10, 11, 12] (fun i _ _ _ wr => ∃ r : Nat, r ≤ n1 - (m - 1) ∧ i = .int .i64 ((n1 : Int) - 1 - r) ∧ OI wr w.heap.size 2 (some ⟨gA, 0, none⟩) n1 c1 (remTo p g u r) ∧ Below w.heap.size w wr ∧ Dg p (remTo p g u r)) (fun i _ _ _ _ => (intOf i + 1).toNat)
  case atStart => exact ⟨0, Nat.zero_le _, by go_num, ho1, hb1, hDg0⟩
  case round =>
    clear ho1 hb1 hDg0
    obtain ⟨r, hr, rfl, ho, hw, hD⟩ := hrel
    by_cases hlt : r < n1 - (m - 1)
    · obtain ⟨ga, hga, hc, -, -⟩ := ho.cell (k := n1 - 1 - r) (by omega)
      cases hga
      obtain ⟨t, ht⟩ : ∃ t : Nat, t = n1 - 1 - r := ⟨_, rfl⟩
      have hti : (n1 : Int) - 1 - r = (t : Int) := by omega
      have htm : m - 1 ≤ t := by omega
      have htn : t < n1 := by omega
      have htmI : (m : Int) - 1 ≤ t := by omega
      have hS : remTo p g u (r + 1) = stepTo p g (nth (remTo p g u r) t) (t - (m - 1)) (remTo p g u r) m := by
        rw [remTo, hla.out, hlb.out, ← ht]
      have HS := Lib.hid hS
      have HL := Lib.hid (remTo_len p g u r)
      have HR := Lib.hid (show r + 1 ≤ n1 - (m - 1) ∧ (n1 : Int) - 1 - ((r + 1 : Nat) : Int) = (t : Int) - 1 from ⟨by omega, by omega⟩)
      have HDg := Lib.hid hD
      rw [← ht] at hc
      rw [hti]
      obtain ⟨f0, f1⟩ := hD t
      generalize remTo p g u r = z at *
      generalize hcc : nth z t = cc at *
      have ho : OI wr w.heap.size 2 (some ⟨gA, 0, none⟩) n1 c1 (stepTo p g cc (t - (m - 1)) z 0) := ho
      clear hcc hS ht hti hlt hr hD
      go_wp2
      obtain ⟨wo, rfl⟩ : ∃ wo : World, wo = wr := ⟨_, rfl⟩
      go_loopw [11, 12] (fun i _ wi => ∃ j : Nat, j ≤ m ∧ i = .int .i64 j ∧ OI wi w.heap.size 2 (some ⟨gA, 0, none⟩) n1 c1 (stepTo p g cc (t - (m - 1)) z j) ∧ Below w.heap.size w wi) (fun i _ _ => m - (intOf i).toNat)
      case atStart => exact ⟨0, Nat.zero_le _, rfl, ho, hw⟩
      case round =>
        clear ho hw
        obtain ⟨j, hj, rfl, ho, hw⟩ := hrel
        by_cases hjl : j < m
        · have hw0 := hw.trans (below_drewn' _ wr 1)
          have ho0 := ho.below (below_drewn wr 1)
          obtain ⟨ad, rfl, hcg, -⟩ := (hb.keep hw0).get hjl
          have hzl : (stepTo p g cc (t - (m - 1)) z j).length = n1 := by rw [stepTo_len, HL.out, hla.out]
          have hDj := stepTo_dg (p := p) (by omega) (by_ := g) (c := cc) (o := t - (m - 1)) (j := j) HDg.out (by have := HL.out; have := hla.out; omega)
          obtain ⟨g0, g1⟩ := hg j
          obtain ⟨z0, z1⟩ := hDj (t - (m - 1) + j)
          have hai : t - (m - 1) + j < n1 := by omega
          have ei : (t : Int) - (m : Int) + 1 + (j : Int) = ((t - (m - 1) + j : Nat) : Int) := by omega
          obtain ⟨ga, hga, hcz, hfz, hiz⟩ := ho0.cell hai
          cases hga
          obtain ⟨q1, q2, q3, q4, q5, q6, q7⟩ := rest_step (x := nth (stepTo p g cc (t - (m - 1)) z j) (t - (m - 1) + j)) (c := cc) (b := nth g j) hp hp2 z0 z1 f0 f1 g0 g1
          have HN := Lib.hid (show stepTo p g cc (t - (m - 1)) z (j + 1) = (stepTo p g cc (t - (m - 1)) z j).set (t - (m - 1) + j) ((nth (stepTo p g cc (t - (m - 1)) z j) (t - (m - 1) + j) + (p - cc) * nth g j) % p) from rfl)
          have ho2 := ho0.set (t - (m - 1) + j) (u := (nth (stepTo p g cc (t - (m - 1)) z j) (t - (m - 1) + j) + (p - cc) * nth g j) % p) ⟨by omega, by omega⟩
          have hlo := (ho.os.lt (k := gA) rfl).1
          have hw2 := hw0.setCell (p := ⟨gA, t - (m - 1) + j, none⟩) hlo (.int .i64 ((nth (stepTo p g cc (t - (m - 1)) z j) (t - (m - 1) + j) + (p - cc) * nth g j) % p))
          rw [← HN.out] at ho2
          have EI := Lib.hid ei
          simp only [← World.drew_is_drewN] at hcg hcz hfz ho2 hw2
          clear HN hzl hDj ho hw ei ho0 hw0 q5 q6
          generalize nth (stepTo p g cc (t - (m - 1)) z j) (t - (m - 1) + j) = x at *
          generalize nth g j = b at *
          generalize hat : t - (m - 1) + j = at_ at *
          have ei : (t : Int) - (m : Int) + 1 + (j : Int) = (at_ : Int) := EI.out
          clear hat EI
          have hat0 : 0 ≤ (at_ : Int) := by omega
          have hai1 : (at_ : Int) < n1 := by omega
          have hj1 : (j : Int) < m := by omega
          go_wp2
          refine region_last (P := Tryz.prog) (S := fun w' => w'.cell? ⟨gA, at_, none⟩ = some (.int .i64 x) ∧ w'.cell? (ad.add j) = some (.int .i64 b)) (by kernel_rfl) (by simp only [List.getLast?_cons_cons, List.getLast?_singleton]; rfl) (by dsimp only [List.dropLast]) (by kernel_rfl) ⟨hcz, hcg⟩ ?_
          intro hS
          refine wpAnyH_take (i := 0) (v := ?_) rfl (by kernel_rfl) (by kernel_rfl) (by kernel_rfl) (fun _ _ _ h => h) (Or.inl ⟨by rfl, ?_⟩) (by assumption) ?_
          rotate_left
          · (intro w hSw; (try dsimp only at hSw); go_simp; (try with_reducible rfl))
          simp only [Act.put, List.setIfInBounds_toArray, List.set_cons_zero, List.set_cons_succ]
          refine wpAnyH_take (i := 1) (v := ?_) rfl (by kernel_rfl) (by kernel_rfl) (by kernel_rfl) (fun _ _ _ h => h) (Or.inl ⟨by rfl, ?_⟩) (by assumption) ?_
          rotate_left
          · (intro w hSw; (try dsimp only at hSw); go_simp; (try with_reducible rfl))
          simp only [Act.put, List.setIfInBounds_toArray, List.set_cons_zero, List.set_cons_succ]
          refine wpAnyH_take (i := 2) (v := ?_) rfl (by kernel_rfl) (by kernel_rfl) (by kernel_rfl) (fun _ _ _ h => h) (Or.inl ⟨by rfl, ?_⟩) (by assumption) ?_
          rotate_left
          · (intro w hSw; (try dsimp only at hSw); go_simp; (try with_reducible rfl))
          simp only [Act.put, List.setIfInBounds_toArray, List.set_cons_zero, List.set_cons_succ]
          refine wpAnyH_take (i := 3) (v := ?_) rfl (by kernel_rfl) (by kernel_rfl) (by kernel_rfl) (fun _ _ _ h => h) (Or.inl ⟨by rfl, ?_⟩) (by assumption) ?_
          rotate_left
          · (intro w hSw; (try dsimp only at hSw); go_simp; (try with_reducible rfl))
          simp only [Act.put, List.setIfInBounds_toArray, List.set_cons_zero, List.set_cons_succ]
          refine wpAnyH_take (i := 4) (v := ?_) rfl (by kernel_rfl) (by kernel_rfl) (by kernel_rfl) (fun _ _ _ h => h) (Or.inl ⟨by rfl, ?_⟩) (by assumption) ?_
          rotate_left
          · (intro w hSw; (try dsimp only at hSw); go_simp; (try with_reducible rfl))
          simp only [Act.put, List.setIfInBounds_toArray, List.set_cons_zero, List.set_cons_succ]
          refine wpAnyH_take (i := 5) (v := ?_) rfl (by kernel_rfl) (by kernel_rfl) (by kernel_rfl) (fun _ _ _ h => h) (Or.inl ⟨by rfl, ?_⟩) (by assumption) ?_
          rotate_left
          · (intro w hSw; (try dsimp only at hSw); go_simp; (try with_reducible rfl))
          simp only [Act.put, List.setIfInBounds_toArray, List.set_cons_zero, List.set_cons_succ]
          refine wpAnyH_take (i := 6) (v := ?_) rfl (by kernel_rfl) (by kernel_rfl) (by kernel_rfl) (fun _ _ _ h => h) (Or.inl ⟨by rfl, ?_⟩) (by assumption) ?_
          rotate_left
          · (intro w hSw; (try dsimp only at hSw); go_simp; (try with_reducible rfl))
          simp only [Act.put, List.setIfInBounds_toArray, List.set_cons_zero, List.set_cons_succ]
          refine wpAnyH_take (i := 7) (v := ?_) rfl (by kernel_rfl) (by kernel_rfl) (by kernel_rfl) (fun _ _ _ h => h) (Or.inl ⟨by rfl, ?_⟩) (by assumption) ?_
          rotate_left
          · (intro w hSw; (try dsimp only at hSw); go_simp; (try with_reducible rfl))
          simp only [Act.put, List.setIfInBounds_toArray, List.set_cons_zero, List.set_cons_succ]
          refine wpAnyH_take (i := 8) (v := ?_) rfl (by kernel_rfl) (by kernel_rfl) (by kernel_rfl) (fun _ _ _ h => h) (Or.inl ⟨by rfl, ?_⟩) (by assumption) ?_
          rotate_left
          · (intro w hSw; (try dsimp only at hSw); go_simp; (try with_reducible rfl))
          simp only [Act.put, List.setIfInBounds_toArray, List.set_cons_zero, List.set_cons_succ]
          refine wpAnyH_take (i := 9) (v := ?_) rfl (by kernel_rfl) (by kernel_rfl) (by kernel_rfl) (fun _ _ _ h => h) (Or.inl ⟨by rfl, ?_⟩) (by assumption) ?_
          rotate_left
          · (intro w hSw; (try dsimp only at hSw); go_simp; (try with_reducible rfl))
          simp only [Act.put, List.setIfInBounds_toArray, List.set_cons_zero, List.set_cons_succ]
          refine wpAnyH_take (i := 10) (v := ?_) rfl (by kernel_rfl) (by kernel_rfl) (by kernel_rfl) (fun _ _ _ h => h) (Or.inl ⟨by rfl, ?_⟩) (by assumption) ?_
          rotate_left
          · (intro w hSw; (try dsimp only at hSw); go_simp; (try with_reducible rfl))
          simp only [Act.put, List.setIfInBounds_toArray, List.set_cons_zero, List.set_cons_succ]
          refine wpAnyH_take (i := 11) (v := ?_) rfl (by kernel_rfl) (by kernel_rfl) (by kernel_rfl) (fun _ _ _ h => h) (Or.inl ⟨by rfl, ?_⟩) (by assumption) ?_
          rotate_left
          · (intro w hSw; (try dsimp only at hSw); go_simp; (try with_reducible rfl))
          simp only [Act.put, List.setIfInBounds_toArray, List.set_cons_zero, List.set_cons_succ]
          refine wpAnyH_take (i := 12) (v := ?_) rfl (by kernel_rfl) (by kernel_rfl) (by kernel_rfl) (fun _ _ _ h => h) (Or.inl ⟨by rfl, ?_⟩) (by assumption) ?_
          rotate_left
          · (intro w hSw; (try dsimp only at hSw); go_simp; (try with_reducible rfl))
          simp only [Act.put, List.setIfInBounds_toArray, List.set_cons_zero, List.set_cons_succ]
          refine wpAnyH_take (i := 13) (v := ?_) rfl (by kernel_rfl) (by kernel_rfl) (by kernel_rfl) (fun _ _ _ h => h) (Or.inl ⟨by rfl, ?_⟩) (by assumption) ?_
          rotate_left
          · (intro w hSw; (try dsimp only at hSw); go_simp; (try with_reducible rfl))
          simp only [Act.put, List.setIfInBounds_toArray, List.set_cons_zero, List.set_cons_succ]
          refine wpAnyH_take (i := 14) (v := ?_) rfl (by kernel_rfl) (by kernel_rfl) (by kernel_rfl) (fun _ _ _ h => h) (Or.inl ⟨by rfl, ?_⟩) (by assumption) ?_
          rotate_left
          · (intro w hSw; (try dsimp only at hSw); go_simp; (try with_reducible rfl))
          simp only [Act.put, List.setIfInBounds_toArray, List.set_cons_zero, List.set_cons_succ]
          refine wpAnyH_take (i := 15) (v := ?_) rfl (by kernel_rfl) (by kernel_rfl) (by kernel_rfl) (fun _ _ _ h => h) (Or.inl ⟨by rfl, ?_⟩) (by assumption) ?_
          rotate_left
          · (intro w hSw; (try dsimp only at hSw); go_simp; (try with_reducible rfl))
          simp only [Act.put, List.setIfInBounds_toArray, List.set_cons_zero, List.set_cons_succ]
          refine wpAnyH_take (i := 16) (v := ?_) rfl (by kernel_rfl) (by kernel_rfl) (by kernel_rfl) (fun _ _ _ h => h) (Or.inl ⟨by rfl, ?_⟩) (by assumption) ?_
          rotate_left
          · (intro w hSw; (try dsimp only at hSw); go_simp; (try with_reducible rfl))
          simp only [Act.put, List.setIfInBounds_toArray, List.set_cons_zero, List.set_cons_succ]
          refine wpAnyH_take (i := 17) (v := ?_) rfl (by kernel_rfl) (by kernel_rfl) (by kernel_rfl) (fun _ _ _ h => h) (Or.inl ⟨by rfl, ?_⟩) (by assumption) ?_
          rotate_left
          · (intro w hSw; (try dsimp only at hSw); go_simp; (try with_reducible rfl))
          simp only [Act.put, List.setIfInBounds_toArray, List.set_cons_zero, List.set_cons_succ]
          simp only [List.getElem_toArray, List.getElem_cons_succ, List.getElem_cons_zero]
          refine wpAnyH_done (by kernel_rfl) ?_ _
          dsimp only [atEnd]
          clear hS q1 q2 q3 q4 q7
          generalize wr.drew = W at *
          go_wp2
          go_roundw
          case rel => exact ⟨j + 1, by omega, by go_num, ho2, hw2⟩
          case measure => simp [intOf]; omega
        · obtain rfl : j = m := by omega
          have hD2 := stepTo_dg (p := p) (by omega) (by_ := g) (c := cc) (o := t - (j - 1)) (j := j) HDg.out (by have := HL.out; have := hla.out; omega)
          rw [← HS.out] at ho hD2
          have HD2 := Lib.hid hD2
          clear hD2
          go_wp2
          go_roundw
          case rel => exact ⟨r + 1, HR.out.1, by rw [HR.out.2], ho, hw, HD2.out⟩
          case measure => simp [intOf] <;> omega
    · obtain rfl : r = n1 - (m - 1) := by omega
      have HRem := Lib.hid (show remP p g u = (remTo p g u (n1 - (m - 1))).take (m - 1) from by unfold remP; rw [hla.out, hlb.out])
      have HL := Lib.hid (show (remTo p g u (n1 - (m - 1))).length = n1 from by rw [remTo_len, hla.out])
      have hDR : Dg p (remP p g u) := fun t => by
        rw [HRem.out, nth_takeI]
        split
        · exact hD t
        · omega
      have HDR := Lib.hid hDR
      have hgo : (n1 : Int) - 1 - ((n1 - (m - 1) : Nat) : Int) < (m : Int) - 1 := by omega
      have hlo : -9000000 ≤ (n1 : Int) - 1 - ((n1 - (m - 1) : Nat) : Int) := by omega
      generalize remTo p g u (n1 - (m - 1)) = z at *
      clear hDR hD hlt hr ho1
      generalize (n1 : Int) - 1 - ((n1 - (m - 1) : Nat) : Int) = i at *
      go_wp2
      go_loopw [7] (fun v wi => ∃ L : Nat, L ≤ n1 ∧ min (m - 1) n1 ≤ L ∧ v = .slice (some ⟨gA, 0, none⟩) L c1 ∧ OI wi w.heap.size 2 (some ⟨gA, 0, none⟩) L c1 (z.take L) ∧ Below w.heap.size w wi) (fun v _ => match v with | .slice _ n _ => n | _ => 0)
      case atStart => exact ⟨n1, Nat.le_refl _, by omega, rfl, by rw [List.take_of_length_le (by rw [HL.out]; exact Nat.le_refl _)]; exact ho, hw⟩
      case round =>
        clear ho hw
        obtain ⟨L, hL, hL2, rfl, ho, hw⟩ := hrel
        obtain ⟨cap1, cap2⟩ := ho.os.cap
        by_cases hgm : m ≤ L
        · have ho2 := ho.shortF (k := L - 1) (by omega) (by omega)
          rw [List.take_take, Nat.min_eq_left (show L - 1 ≤ L by omega)] at ho2
          have e2 : (L : Int) - 1 = ((L - 1 : Nat) : Int) := by omega
          have k1 : ((L - 1 : Nat) : Int) ≤ (c1 : Int) := by omega
          have k2 : L - 1 ≤ c1 := by omega
          clear ho
          go_wp2
          go_roundw
          case rel => exact ⟨L - 1, by omega, by omega, rfl, ho2, hw⟩
          case measure => simp; omega
        · have E1 := Lib.hid (show min (m - 1) n1 = L by omega)
          have HT := Lib.hid (show z.take L = remP p g u from by
            rw [HRem.out]
            by_cases e : m - 1 ≤ n1
            · rw [show L = m - 1 by omega]
            · rw [List.take_of_length_le (by rw [HL.out]; omega), List.take_of_length_le (by rw [HL.out]; omega)])
          rw [HT.out] at ho
          go_wp2
          go_ret
          exact ⟨_, _, by rw [E1.out]; rfl, by rw [E1.out]; exact ho, hw, HDR.out⟩
set_option maxRecDepth 100000 in
set_option maxHeartbeats 800000 in
theorem l03Irreducible_any (A : Option Addr) (n c : Nat) (f : List Int) (p : Int) (k : Nat) (w : World) (ha : RI w A n f) (hnk : n = k + 1) (hf : Dg p f) (hp : 2 ≤ p) (hp2 : p ≤ 64) (hq : p ^ k ≤ 64) (hk : k ≤ 6) :
    Calls Tryz.prog 194 #[.slice A n c, .int .i64 p] w (RetB w (tB (IrrC p k f))) := by
  have hla := Lib.hid ha.len
  have HNK := Lib.hid hnk
  have hnk1 : (n : Int) - 1 = (k : Int) := by omega
  have hn7 : n ≤ 7 := by omega
  have hn1 : 0 < n := by omega
  clear hnk
  go_enter Tryz.func194, Tryz.ntmps194
  go_wp2
  go_loopw [6, 7, 8, 9] (fun i _ _ _ wr => ∃ d : Nat, 1 ≤ d ∧ d ≤ 7 ∧ i = .int .i64 d ∧ Below w.heap.size w wr ∧ IrrTo p k f d) (fun i _ _ _ _ => 8 - (intOf i).toNat)
  case atStart => exact ⟨1, by omega, by omega, rfl, Below.refl _ _, fun e h1 h2 => by omega⟩
  case round =>
    obtain ⟨d, hd1, hd7, rfl, hw, hI⟩ := hrel
    have HI := Lib.hid hI
    clear hI
    by_cases hlt : 2 * d ≤ k
    · have hlt' : 2 * (d : Int) ≤ (k : Int) := by omega
      have hpd : p ^ d ≤ 64 := Int.le_trans (pow_mono (by omega) (show d ≤ k by omega)) hq
      have hpd0 : 0 < p ^ d := Int.pow_pos (by omega)
      have hpw := fun (W : World) => l03Power_any p d W hp hp2 (by omega)
      have HK := Lib.hid (show 1 ≤ d + 1 ∧ d + 1 ≤ 7 from ⟨by omega, by omega⟩)
      have HLT := Lib.hid hlt
      generalize hq' : p ^ d = q at *
      have HQE := Lib.hid hq'
      clear hq' hlt
      go_wp2
      obtain ⟨wo, rfl⟩ : ∃ wo : World, wo = wr := ⟨_, rfl⟩
      go_loopw [7, 8, 9] (fun i _ _ wi => ∃ x : Int, 0 ≤ x ∧ x ≤ q ∧ i = .int .i64 x ∧ Below w.heap.size w wi ∧ ∀ y : Int, 0 ≤ y → y < x → DivN p f d y) (fun i _ _ _ => (q - intOf i).toNat)
      case atStart => exact ⟨0, by omega, by omega, rfl, hw, fun y h1 h2 => by omega⟩
      case round =>
        clear hw
        obtain ⟨x, hx0, hxq, rfl, hw, hno⟩ := hrel
        have HN := Lib.hid hno
        clear hno
        by_cases hxl : x < q
        · go_wp2_with fail
          refine (hpw wr).mono ?_
          rintro e w' ⟨rfl, rfl⟩
          go_wp2_with fail
          refine (l03Digits_any x p d wr hx0 (by omega) hp (by omega) (by omega)).mono ?_
          rintro e w2 ⟨A2, n2, c2, rfl, ho2, hb2⟩
          obtain rfl : n2 = d := by rw [← ho2.len, digs_len]
          have hw2 := hw.trans (hb2.mono hw.size)
          have ho2 := ho2.more hw.size
          clear hb2
          have hws := hw2.size
          go_wp2_with (at_builtin; refine app_int _ rfl (.tmp 29) (.tmp 30) rfl w.heap.size A2 n2 c2 _ rfl ho2 1 w2.heap.size rfl rfl ⟨by omega, by omega⟩ (by omega) hws ?_; intro A4 c4 w4 ho4 hg4 hf4; have hb4 := below_own hw2 hg4 hws (fun q hq => (ho2.os.lt hq).1))
          have hri := ho4.reads
          have hDg4 := dg_snoc hp (digs_dg (p := p) (by omega) x n2)
          have hrm := l03Rest_any A n c f A4 (n2 + 1) c4 (digsP x p n2 ++ [1]) p w4 (ha.keep hb4) hri hf hDg4 hp (by omega) (by omega) hn1 (by omega) (by omega)
          have HL4 := Lib.hid (show min (n2 + 1 - 1) n ≤ 7 by omega)
          clear ho2 hg4 hf4 ho4 hri hDg4 hw2 hws
          go_wp2_with fail
          refine hrm.mono ?_
          rintro e w5 ⟨A5, c5, rfl, ho5, hb5, hD5⟩
          have hw5 := hb4.trans (hb5.mono hb4.size)
          have hiz := l03Number_any A5 (min (n2 + 1 - 1) n) c5 _ p w5 ho5.reads hD5 hp (by omega) (by rw [ho5.len]; exact Int.le_trans (pow_mono (by omega) (show min (n2 + 1 - 1) n ≤ n2 by omega)) (by rw [HQE.out]; omega)) (by have := HL4.out; omega)
          have hnz := num_zero (p := p) (by omega) hD5
          have hnb := num_bd (p := p) (by omega) hD5
          have hnb2 := Int.lt_of_lt_of_le hnb.2 (Int.le_trans (pow_mono (p := p) (by omega) (show (remP p (digsP x p n2 ++ [1]) f).length ≤ n2 by rw [ho5.len]; omega)) (show p ^ n2 ≤ 64 by rw [HQE.out]; omega))
          have hnb1 := hnb.1
          clear hnb
          have hll := ho5.len
          clear hrm hb5 hb4 ho5
          by_cases hz : allZero (remP p (digsP x p n2 ++ [1]) f)
          · have hz0 : numR (remP p (digsP x p n2 ++ [1]) f) p = 0 := hnz.2 fun t => by
              by_cases hl : t < (remP p (digsP x p n2 ++ [1]) f).length
              · exact hz t hl
              · exact nth_beyond (by omega)
            rw [hz0] at hiz
            have HF := Lib.hid (show tB (IrrC p k f) = false from tB_no fun hall => by
              obtain ⟨t, ht⟩ := hall n2 hd1 HLT.out x hx0 (by rw [HQE.out]; exact hxl)
              by_cases hl : t < (remP p (digsP x p n2 ++ [1]) f).length
              · exact ht (hz t hl)
              · exact ht (nth_beyond (by omega)))
            clear hz hll hD5 hnz hnb1 hnb2
            go_wp2_with fail
            refine hiz.mono ?_
            rintro e w' ⟨rfl, rfl⟩
            go_wp2
            go_ret
            exact ⟨by rw [HF.out]; rfl, hw5⟩
          · have hz0 : (numR (remP p (digsP x p n2 ++ [1]) f) p == 0) = false := by
              simp only [beq_eq_false_iff_ne, ne_eq]
              exact fun e => hz fun t _ => hnz.1 e t
            have HNX := Lib.hid (show ∀ y : Int, 0 ≤ y → y < x + 1 → DivN p f n2 y from fun y h1 h2 => by
              by_cases e : y = x
              · subst e
                refine Classical.byContradiction fun hno => hz fun t _ => Classical.byContradiction fun hne => hno ⟨t, hne⟩
              · exact HN.out y h1 (by omega))
            clear hz hll hD5 hnz hnb1 hnb2
            go_wp2_with fail
            refine hiz.mono ?_
            rintro e w' ⟨rfl, rfl⟩
            go_wp2
            go_roundw
            case rel => exact ⟨x + 1, by omega, by omega, by go_num, hw5, HNX.out⟩
            case measure => simp [intOf]; omega
        · have HI2 := Lib.hid (show IrrTo p k f (d + 1) from fun e h1 h2 h3 => by
            by_cases ed : e = d
            · subst ed
              intro y hy0 hy1
              rw [HQE.out] at hy1
              exact HN.out y hy0 (by omega)
            · exact HI.out e h1 (by omega) h3)
          have hxl' : q ≤ x := by omega
          go_wp2_with fail
          refine (hpw wr).mono ?_
          rintro e w' ⟨rfl, rfl⟩
          go_wp2
          go_roundw
          case rel => exact ⟨d + 1, HK.out.1, HK.out.2, by go_num, hw, HI2.out⟩
          case measure => simp [intOf]; omega
    · have hlt' : ¬ 2 * (d : Int) ≤ (k : Int) := by omega
      have HT := Lib.hid (show tB (IrrC p k f) = true from tB_true.2 fun e h1 h2 => HI.out e h1 (by omega) h2)
      clear hnk1
      go_wp2
      go_ret
      exact ⟨by rw [HT.out]; rfl, hw⟩
end Go.Proofs.YtnmcmologlgccaaGreat
namespace Go.Proofs.YtnmcmologlgccaaGreat
def expoF : Nat → Int → Int → Nat
  | 0, _, _ => 0
  | f + 1, a, p => if a.tmod p = 0 then expoF f (a.tdiv p) p + 1 else 0
def cofF : Nat → Int → Int → Int
  | 0, a, _ => a
  | f + 1, a, p => if a.tmod p = 0 then cofF f (a.tdiv p) p else a
def expo (a p : Int) : Nat := expoF a.natAbs a p
def cof (a p : Int) : Int := cofF a.natAbs a p
theorem tdiv_lt {a p : Int} (ha : a ≠ 0) (hp : 2 ≤ p) (h : a.tmod p = 0) : (a.tdiv p).natAbs < a.natAbs ∧ a.tdiv p ≠ 0 ∧ a = p * a.tdiv p := by
  have h1 : p * a.tdiv p = a := by have := Int.mul_tdiv_add_tmod a p; omega
  have h0 : a.tdiv p ≠ 0 := fun e => by rw [e] at h1; simp at h1; exact ha h1.symm
  refine ⟨?_, h0, h1.symm⟩
  have h2 : a.natAbs = p.natAbs * (a.tdiv p).natAbs := by rw [← Int.natAbs_mul, h1]
  have h3 : 0 < (a.tdiv p).natAbs := by omega
  have h4 : 2 ≤ p.natAbs := by omega
  rw [h2]
  calc (a.tdiv p).natAbs < 2 * (a.tdiv p).natAbs := by omega
    _ ≤ p.natAbs * (a.tdiv p).natAbs := Nat.mul_le_mul_right _ h4
theorem expoF_more {p : Int} (hp : 2 ≤ p) : ∀ (f g : Nat) (a : Int), a ≠ 0 → a.natAbs ≤ f → a.natAbs ≤ g → expoF f a p = expoF g a p ∧ cofF f a p = cofF g a p := by
  intro f
  induction f with
  | zero => intro g a ha h1 _; omega
  | succ f ih =>
    intro g a ha h1 h2
    cases g with
    | zero => omega
    | succ g =>
      unfold expoF cofF
      by_cases h : a.tmod p = 0
      · obtain ⟨h3, h4, _⟩ := tdiv_lt ha hp h
        have := ih g _ h4 (by omega) (by omega)
        rw [if_pos h, if_pos h, if_pos h, if_pos h, this.1, this.2]
        exact ⟨rfl, rfl⟩
      · rw [if_neg h, if_neg h, if_neg h, if_neg h]
        exact ⟨rfl, rfl⟩
theorem expo_yes {a p : Int} (ha : a ≠ 0) (hp : 2 ≤ p) (h : a.tmod p = 0) : expo a p = expo (a.tdiv p) p + 1 ∧ cof a p = cof (a.tdiv p) p := by
  obtain ⟨h3, h4, _⟩ := tdiv_lt ha hp h
  obtain ⟨f, hf⟩ : ∃ f, a.natAbs = f + 1 := ⟨a.natAbs - 1, by omega⟩
  have := expoF_more hp f (a.tdiv p).natAbs (a.tdiv p) h4 (by omega) (Nat.le_refl _)
  unfold expo cof
  rw [hf, show expoF (f + 1) a p = if a.tmod p = 0 then expoF f (a.tdiv p) p + 1 else 0 from rfl, show cofF (f + 1) a p = if a.tmod p = 0 then cofF f (a.tdiv p) p else a from rfl,
    if_pos h, if_pos h, this.1, this.2]
  exact ⟨rfl, rfl⟩
theorem expo_no {a p : Int} (h : a.tmod p ≠ 0) : expo a p = 0 ∧ cof a p = a := by
  unfold expo cof
  cases a.natAbs with
  | zero => exact ⟨rfl, rfl⟩
  | succ f => unfold expoF cofF; rw [if_neg h, if_neg h]; exact ⟨rfl, rfl⟩
theorem expo_ind {p : Int} (hp : 2 ≤ p) (Q : Int → Prop) (no : ∀ a, a ≠ 0 → a.tmod p ≠ 0 → Q a) (yes : ∀ a, a ≠ 0 → a.tmod p = 0 → Q (a.tdiv p) → Q a) : ∀ a, a ≠ 0 → Q a := by
  intro a
  generalize hn : a.natAbs = n
  induction n using Nat.strongRecOn generalizing a with
  | _ n ih =>
    intro ha
    by_cases h : a.tmod p = 0
    · obtain ⟨h3, h4, _⟩ := tdiv_lt ha hp h
      exact yes a ha h (ih _ (by omega) _ rfl h4)
    · exact no a ha h
theorem expo_spec {a p : Int} (ha : a ≠ 0) (hp : 2 ≤ p) : a = cof a p * p ^ expo a p ∧ (cof a p).tmod p ≠ 0 ∧ cof a p ≠ 0 := by
  refine expo_ind hp (fun a => a = cof a p * p ^ expo a p ∧ (cof a p).tmod p ≠ 0 ∧ cof a p ≠ 0) ?_ ?_ a ha
  · intro a h0 h
    rw [(expo_no h).1, (expo_no h).2]
    exact ⟨by simp, h, h0⟩
  · intro a h0 h ih
    obtain ⟨_, _, h5⟩ := tdiv_lt h0 hp h
    rw [(expo_yes h0 hp h).1, (expo_yes h0 hp h).2]
    refine ⟨?_, ih.2⟩
    rw [Int.pow_succ, ← Int.mul_assoc, ← ih.1, Int.mul_comm]
    exact h5
theorem expo_le {a p : Int} (ha : a ≠ 0) (hp : 2 ≤ p) : (2 : Nat) ^ expo a p ≤ a.natAbs ∧ (cof a p).natAbs ≤ a.natAbs := by
  refine expo_ind hp (fun a => (2 : Nat) ^ expo a p ≤ a.natAbs ∧ (cof a p).natAbs ≤ a.natAbs) ?_ ?_ a ha
  · intro a h0 h
    rw [(expo_no h).1, (expo_no h).2]
    exact ⟨by simp; omega, Nat.le_refl _⟩
  · intro a h0 h ih
    obtain ⟨h3, h4, h5⟩ := tdiv_lt h0 hp h
    rw [(expo_yes h0 hp h).1, (expo_yes h0 hp h).2]
    have h6 : a.natAbs = p.natAbs * (a.tdiv p).natAbs := by rw [← Int.natAbs_mul, ← h5]
    refine ⟨?_, by omega⟩
    rw [Nat.pow_succ, h6, Nat.mul_comm]
    exact Nat.mul_le_mul (by omega) ih.1
def facF : Nat → Int → Int → List Int
  | 0, _, _ => []
  | f + 1, p, n => if p * p ≤ n then List.replicate (expo n p) p ++ facF f (p + 1) (cof n p) else if 1 < n then [n] else []
def facs (p n : Int) : List Int := facF (n.toNat + 1) p n
theorem cof_pos {n p : Int} (hn : 0 < n) (hp : 2 ≤ p) : 0 < cof n p := by
  refine (expo_ind hp (fun a => 0 < a → 0 < cof a p) ?_ ?_ n (by omega)) hn
  · intro a h0 h ha; rw [(expo_no h).2]; exact ha
  · intro a h0 h ih ha
    rw [(expo_yes h0 hp h).2]
    refine ih ?_
    obtain ⟨_, h4, h5⟩ := tdiv_lt h0 hp h
    have : 0 ≤ a.tdiv p := Int.tdiv_nonneg (by omega) (by omega)
    omega
theorem cof_le {n p : Int} (hn : 0 < n) (hp : 2 ≤ p) : cof n p ≤ n := by
  have h1 := (expo_le (a := n) (p := p) (by omega) hp).2
  have h2 := cof_pos hn hp
  omega
theorem facF_more : ∀ (f g : Nat) (p n : Int), 2 ≤ p → 0 < n → (n + 1 - p).toNat < f → (n + 1 - p).toNat < g → facF f p n = facF g p n := by
  intro f
  induction f with
  | zero => intro g p n _ _ h _; omega
  | succ f ih =>
    intro g p n hp hn h1 h2
    cases g with
    | zero => omega
    | succ g =>
      unfold facF
      by_cases h : p * p ≤ n
      · have hpn : p ≤ n := by
          have : p * 1 ≤ p * p := Int.mul_le_mul_of_nonneg_left (by omega) (by omega)
          omega
        have h3 := cof_pos hn hp
        have h4 := cof_le hn hp
        rw [if_pos h, if_pos h, ih g (p + 1) (cof n p) (by omega) h3 (by omega) (by omega)]
      · rw [if_neg h, if_neg h]
theorem facs_eq {p n : Int} (hp : 2 ≤ p) (hn : 0 < n) : facs p n = if p * p ≤ n then List.replicate (expo n p) p ++ facs (p + 1) (cof n p) else if 1 < n then [n] else [] := by
  have h3 := cof_pos hn hp
  have h4 := cof_le hn hp
  unfold facs
  rw [show n.toNat + 1 = n.toNat.succ from rfl]
  conv => lhs; unfold facF
  by_cases h : p * p ≤ n
  · have hpn : p ≤ n := by
      have : p * 1 ≤ p * p := Int.mul_le_mul_of_nonneg_left (by omega) (by omega)
      omega
    rw [if_pos h, if_pos h, facF_more _ ((cof n p).toNat + 1) (p + 1) (cof n p) (by omega) h3 (by omega) (by omega)]
  · rw [if_neg h, if_neg h]
theorem facs_mem : ∀ (f : Nat) (p n : Int), 2 ≤ p → 0 < n → (n + 1 - p).toNat < f → (∀ d, 2 ≤ d → d < p → n.tmod d ≠ 0) → ∀ q ∈ facF f p n, 2 ≤ q ∧ q ≤ n := by
  intro f
  induction f with
  | zero => intro p n _ _ _ _ q hq; simp [facF] at hq
  | succ f ih =>
    intro p n hp hn h1 h2 q hq
    unfold facF at hq
    by_cases h : p * p ≤ n
    · have hpn : p ≤ n := by
        have : p * 1 ≤ p * p := Int.mul_le_mul_of_nonneg_left (by omega) (by omega)
        omega
      have h3 := cof_pos hn hp
      have h4 := cof_le hn hp
      rw [if_pos h] at hq
      rcases List.mem_append.1 hq with hq | hq
      · have := List.eq_of_mem_replicate hq
        omega
      · have hs := expo_spec (a := n) (p := p) (by omega) hp
        have := ih (p + 1) (cof n p) (by omega) h3 (by omega) (fun d hd1 hd2 => ?_) q hq
        · omega
        · by_cases e : d = p
          · subst e; exact hs.2.1
          · intro hd
            refine h2 d hd1 (by omega) ?_
            have hdv : d ∣ cof n p := Int.dvd_of_tmod_eq_zero hd
            rw [hs.1]
            exact Int.tmod_eq_zero_of_dvd (Int.dvd_trans hdv (Int.dvd_mul_right _ _))
    · rw [if_neg h] at hq
      by_cases h' : 1 < n
      · rw [if_pos h'] at hq
        simp at hq
        omega
      · rw [if_neg h'] at hq
        simp at hq
theorem facs_ge {n q : Int} (hn : 0 < n) (hq : q ∈ facs 2 n) : 2 ≤ q ∧ q ≤ n :=
  facs_mem _ 2 n (by omega) hn (by omega) (fun d h1 h2 => by omega) q hq
end Go.Proofs.YtnmcmologlgccaaGreat
namespace Go.Proofs.YtnmcmologlgccaaGreat
def noDivF : Nat → Int → Int → Bool
  | 0, _, _ => true
  | f + 1, d, n => if d * d ≤ n then (if n % d = 0 then false else noDivF f (d + 1) n) else true
def noDiv (d n : Int) : Bool := noDivF (n.toNat + 1) d n
theorem noDivF_more : ∀ (f g : Nat) (d n : Int), 2 ≤ d → (n + 1 - d).toNat < f → (n + 1 - d).toNat < g → noDivF f d n = noDivF g d n := by
  intro f
  induction f with
  | zero => intro g d n _ h _; omega
  | succ f ih =>
    intro g d n hd h1 h2
    cases g with
    | zero => omega
    | succ g =>
      unfold noDivF
      by_cases h : d * d ≤ n
      · have hpn : d ≤ n := by
          have : d * 1 ≤ d * d := Int.mul_le_mul_of_nonneg_left (by omega) (by omega)
          omega
        rw [if_pos h, if_pos h, ih g (d + 1) n (by omega) (by omega) (by omega)]
      · rw [if_neg h, if_neg h]
theorem noDiv_eq {d n : Int} (hd : 2 ≤ d) : noDiv d n = if d * d ≤ n then (if n % d = 0 then false else noDiv (d + 1) n) else true := by
  unfold noDiv
  conv => lhs; unfold noDivF
  by_cases h : d * d ≤ n
  · have hpn : d ≤ n := by
      have : d * 1 ≤ d * d := Int.mul_le_mul_of_nonneg_left (by omega) (by omega)
      omega
    rw [if_pos h, if_pos h, noDivF_more _ (n.toNat + 1) (d + 1) n (by omega) (by omega) (by omega)]
  · rw [if_neg h, if_neg h]
theorem tmod_emod {n d : Int} (hn : 0 ≤ n) : n.tmod d = n % d := Int.tmod_eq_emod_of_nonneg hn
theorem facs_ne {p n : Int} (hp : 2 ≤ p) (hn : 1 < n) : facs p n ≠ [] := by
  generalize hk : (n + 1 - p).toNat = k
  induction k using Nat.strongRecOn generalizing p n with
  | _ k ih =>
    rw [facs_eq hp (by omega)]
    by_cases h : p * p ≤ n
    · have hpn : p ≤ n := by
        have : p * 1 ≤ p * p := Int.mul_le_mul_of_nonneg_left (by omega) (by omega)
        omega
      rw [if_pos h]
      by_cases hd : n.tmod p = 0
      · rw [(expo_yes (by omega) hp hd).1, List.replicate_succ]
        simp
      · rw [(expo_no hd).1, (expo_no hd).2]
        simpa using ih _ (by omega) (by omega) hn rfl
    · rw [if_neg h, if_pos hn]
      simp
theorem noDiv_facs {p n : Int} (hp : 2 ≤ p) (hn : 1 < n) : noDiv p n = decide ((facs p n).length = 1) := by
  generalize hk : (n + 1 - p).toNat = k
  induction k using Nat.strongRecOn generalizing p n with
  | _ k ih =>
    rw [facs_eq hp (by omega), noDiv_eq hp]
    by_cases h : p * p ≤ n
    · have hpn : p ≤ n := by
        have : p * 1 ≤ p * p := Int.mul_le_mul_of_nonneg_left (by omega) (by omega)
        omega
      rw [if_pos h, if_pos h]
      by_cases hd : n.tmod p = 0
      · rw [if_pos (by rw [← tmod_emod (by omega)]; exact hd), (expo_yes (by omega) hp hd).1, (expo_yes (by omega) hp hd).2]
        obtain ⟨_, h4, h5⟩ := tdiv_lt (a := n) (p := p) (by omega) hp hd
        have hm : 0 ≤ n.tdiv p := Int.tdiv_nonneg (by omega) (by omega)
        have hge : p ≤ n.tdiv p := by
          have : p * p ≤ p * n.tdiv p := by omega
          exact Int.le_of_mul_le_mul_left this (by omega)
        symm
        simp only [decide_eq_false_iff_not, List.length_append, List.length_replicate]
        by_cases he : expo (n.tdiv p) p = 0
        · have h6 : cof (n.tdiv p) p = n.tdiv p := by
            by_cases h7 : (n.tdiv p).tmod p = 0
            · have := (expo_yes (by omega) hp h7).1
              omega
            · exact (expo_no h7).2
          have h8 := facs_ne (p := p + 1) (n := n.tdiv p) (by omega) (by omega)
          rw [h6]
          intro h9
          have : (facs (p + 1) (n.tdiv p)).length = 0 := by omega
          exact h8 (List.eq_nil_of_length_eq_zero this)
        · omega
      · rw [if_neg (by rw [← tmod_emod (by omega)]; exact hd), (expo_no hd).1, (expo_no hd).2]
        simpa using ih _ (by omega) (by omega) hn rfl
    · rw [if_neg h, if_neg h, if_pos hn]
      rfl
theorem facF_prime : ∀ (f : Nat) (p n : Int), 2 ≤ p → 0 < n → (n + 1 - p).toNat < f → (∀ d, 2 ≤ d → d < p → n.tmod d ≠ 0) → ∀ q ∈ facF f p n, ∀ d, 2 ≤ d → d < q → q.tmod d ≠ 0 := by
  intro f
  induction f with
  | zero => intro p n _ _ _ _ q hq; simp [facF] at hq
  | succ f ih =>
    intro p n hp hn h1 h2 q hq d hd1 hd2
    unfold facF at hq
    by_cases h : p * p ≤ n
    · have hpn : p ≤ n := by
        have : p * 1 ≤ p * p := Int.mul_le_mul_of_nonneg_left (by omega) (by omega)
        omega
      have h3 := cof_pos hn hp
      have h4 := cof_le hn hp
      have hs := expo_spec (a := n) (p := p) (by omega) hp
      rw [if_pos h] at hq
      rcases List.mem_append.1 hq with hq | hq
      · have e := List.eq_of_mem_replicate hq
        subst e
        intro hdq
        have hne : expo n q ≠ 0 := fun e0 => by rw [e0] at hq; simp at hq
        refine h2 d hd1 hd2 ?_
        have hqn : q ∣ n := by
          rw [hs.1]
          obtain ⟨k, hk⟩ : ∃ k, expo n q = k + 1 := ⟨expo n q - 1, by omega⟩
          rw [hk, Int.pow_succ, ← Int.mul_assoc]
          exact Int.dvd_mul_left _ _
        exact Int.tmod_eq_zero_of_dvd (Int.dvd_trans (Int.dvd_of_tmod_eq_zero hdq) hqn)
      · refine ih (p + 1) (cof n p) (by omega) h3 (by omega) (fun c hc1 hc2 => ?_) q hq d hd1 hd2
        by_cases e : c = p
        · subst e; exact hs.2.1
        · intro hc
          refine h2 c hc1 (by omega) ?_
          rw [hs.1]
          exact Int.tmod_eq_zero_of_dvd (Int.dvd_trans (Int.dvd_of_tmod_eq_zero hc) (Int.dvd_mul_right _ _))
    · rw [if_neg h] at hq
      by_cases h' : 1 < n
      · rw [if_pos h'] at hq
        simp at hq
        subst hq
        by_cases hdp : d < p
        · exact h2 d hd1 hdp
        · intro hdq
          obtain ⟨_, h6, h7⟩ := tdiv_lt (a := q) (p := d) (by omega) hd1 hdq
          have h8 : 0 ≤ q.tdiv d := Int.tdiv_nonneg (by omega) (by omega)
          have h9 : q.tdiv d < p := by
            rcases (show q.tdiv d < p ∨ p ≤ q.tdiv d by omega) with h9 | h9
            · exact h9
            · exfalso
              have a1 : p * p ≤ p * q.tdiv d := Int.mul_le_mul_of_nonneg_left h9 (by omega)
              have a2 : p * q.tdiv d ≤ d * q.tdiv d := Int.mul_le_mul_of_nonneg_right (by omega) h8
              omega
          have h10 : 2 ≤ q.tdiv d := by
            rcases (show q.tdiv d < 2 ∨ 2 ≤ q.tdiv d by omega) with h10 | h10
            · have : q.tdiv d = 1 := by omega
              rw [this] at h7; omega
            · exact h10
          refine h2 (q.tdiv d) h10 h9 ?_
          refine Int.tmod_eq_zero_of_dvd ⟨d, ?_⟩
          rw [Int.mul_comm]; exact h7
      · rw [if_neg h'] at hq
        simp at hq
def Prime (q : Int) : Prop := 2 ≤ q ∧ ∀ d, 2 ≤ d → d < q → q.tmod d ≠ 0
theorem facs_prime {n q : Int} (hn : 0 < n) (hq : q ∈ facs 2 n) : Prime q :=
  ⟨(facs_ge hn hq).1, facF_prime _ 2 n (by omega) hn (by omega) (fun d h1 h2 => by omega) q hq⟩
theorem facF_len : ∀ (f : Nat) (p n : Int), 2 ≤ p → 0 < n → (n + 1 - p).toNat < f → ((2 : Nat) ^ (facF f p n).length) ≤ n.toNat := by
  intro f
  induction f with
  | zero => intro p n _ _ h; omega
  | succ f ih =>
    intro p n hp hn h1
    unfold facF
    by_cases h : p * p ≤ n
    · have hpn : p ≤ n := by
        have : p * 1 ≤ p * p := Int.mul_le_mul_of_nonneg_left (by omega) (by omega)
        omega
      have h3 := cof_pos hn hp
      have h4 := cof_le hn hp
      have h5 := ih (p + 1) (cof n p) (by omega) h3 (by omega)
      have hs := (expo_spec (a := n) (p := p) (by omega) hp).1
      rw [if_pos h, List.length_append, List.length_replicate, Nat.pow_add]
      have h6 : n.toNat = (cof n p).toNat * p.toNat ^ expo n p := by
        have e1 : ((p.toNat ^ expo n p : Nat) : Int) = p ^ expo n p := by rw [Int.natCast_pow, Int.toNat_of_nonneg (by omega)]
        have e2 : (((cof n p).toNat * p.toNat ^ expo n p : Nat) : Int) = n := by rw [Int.natCast_mul, e1, Int.toNat_of_nonneg (by omega)]; exact hs.symm
        omega
      rw [h6, Nat.mul_comm]
      exact Nat.mul_le_mul h5 (Nat.pow_le_pow_left (by omega) _)
    · rw [if_neg h]
      split
      · simp; omega
      · simp; omega
theorem facs_len {n : Int} (hn : 0 < n) (h : n ≤ 1000000) : (facs 2 n).length ≤ 19 := by
  have := facF_len _ 2 n (by omega) hn (show (n + 1 - 2).toNat < n.toNat + 1 by omega)
  unfold facs
  rcases Nat.lt_or_ge (facF (n.toNat + 1) 2 n).length 20 with h1 | h1
  · omega
  · have h2 := Nat.pow_le_pow_right (n := 2) (by omega) h1
    omega
theorem sq_bd {p m : Int} (hp : 0 ≤ p) (h : p * p ≤ m) (hm : m ≤ 1000000) : p ≤ 1000 := by
  rcases (show p ≤ 1000 ∨ 1001 ≤ p by omega) with h1 | h1
  · exact h1
  · have : 1001 * 1001 ≤ p * p := Int.mul_le_mul h1 h1 (by omega) (by omega)
    omega
def powF : Nat → Int → Int → Int → Int → Int
  | 0, o, _, _, _ => o
  | f + 1, o, a, e, m => if 0 < e then powF f (if e % 2 = 1 then o * a % m else o) (a * a % m) (e / 2) m else o
def pw (o a e m : Int) : Int := powF (e.toNat + 1) o a e m
def md (a m : Int) : Int := (a.tmod m + m) % m
def leg (u p : Int) : Int := if pw 1 (md u p) ((p - 1) / 2) p = 1 then 0 else 1
def fl (b : Bool) : Int := if b then 1 else 0
def thr (x : Int) : Int := fl (md x 4 == 3)
def mid (x : Int) : Int := fl (decide (3 ≤ md x 8) && decide (md x 8 ≤ 5))
def hv (a b p : Int) : Int :=
  if p = 0 then fl (decide (a < 0) && decide (b < 0))
  else if 2 < p then (expo a p : Int) * expo b p * ((p - 1) / 2) + expo b p * leg (cof a p) p + expo a p * leg (cof b p) p
  else thr (cof a p) * thr (cof b p) + expo a p * mid (cof b p) + expo b p * mid (cof a p)
end Go.Proofs.YtnmcmologlgccaaGreat
