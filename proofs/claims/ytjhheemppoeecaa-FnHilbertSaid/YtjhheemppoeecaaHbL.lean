/- The law on Hilbert symbols of drawn numbers. No condition beyond those stated. -/
import Derived.Test.YtjhheemppoeecaaHbR
import Derived.Test.YtjhheemppoeecaaBel
namespace Go.Proofs.Ytjhheemppoeecaa
open Go.RowKit

theorem int_info'' : (Try.prog.info? 2).map (fun i => (i.zero, i.size, i.bytes)) = some (some (.int .i64 0), 1, 8) := by kernel_rfl
set_option maxHeartbeats 400000 in
theorem b10Symbol_ok (a b p : Int) (w : World) (h : symOk a b p = true) :
    Calls Try.prog 14 #[.int .i64 a, .int .i64 b, .int .i64 p] w fun e w' => e = .returned (.int .i64 (sgn (hv a b p))) ∧ Below w.heap.size w w' := by
  have hc : symC a b p = 0 := by simp [symC, h]
  have hv' : symV a b p = sgn (hv a b p) := by simp [symV, h]
  have hi := impl_HilbertSymbol a b p w
  rw [hc, hv'] at hi
  generalize sgn (hv a b p) = s at *
  clear hc hv' h
  go_enter Try.func14, Try.ntmps14
  go_wp2_with fail
  refine hi.mono ?_
  rintro e w1 ⟨rfl, hb⟩
  go_wp2
  go_ret
  exact ⟨rfl, hb⟩
theorem sym_ok {a b p : Int} (ha : a ≠ 0 ∧ -1000000 ≤ a ∧ a ≤ 1000000) (hb : b ≠ 0 ∧ -1000000 ≤ b ∧ b ≤ 1000000) (hp : p ∈ P18) : symOk a b p = true := by
  have ea : entB a = true := by simp [entB, ha.1, inB_mk ha.2]
  have eb : entB b = true := by simp [entB, hb.1, inB_mk hb.2]
  have ep : (p == 0 || isP p) = true := by
    unfold P18 at hp
    rcases List.mem_cons.1 hp with rfl | hp
    · rfl
    · rcases List.mem_cons.1 hp with rfl | hp
      · rw [two_p]; rfl
      · rw [(op_prime hp).2.2.2]; simp
  simp only [symOk, ea, eb, ep, Bool.and_true]
set_option maxRecDepth 100000 in
set_option maxHeartbeats 2000000 in
theorem b10Odd_any (B : Nat) (A : Option Addr) (n c : Nat) (l : List Int) (a : Int) (w : World) (ho : OI w B 2 A n c l) (hB : B ≤ w.heap.size) (hn : n ≤ 100) (ha : -1000000 ≤ a ∧ a ≤ 1000000) :
    Calls Try.prog 13 #[.slice A n c, .int .i64 a] w (fun e w' => ∃ A' n' c', e = .returned (.slice A' n' c') ∧ OI w' B 2 A' n' c' (oddF l (facsOf (ab a))) ∧ Below B w w') := by
  obtain ⟨a0, a1⟩ := ha
  have HZ := Lib.hid (show (a < 0 ∧ ab a = -a) ∨ (¬ a < 0 ∧ ab a = a) by unfold ab; split <;> simp_all)
  have hlo := Lib.hid ho.len
  obtain ⟨z, hz⟩ : ∃ z, ab a = z := ⟨_, rfl⟩
  rw [hz] at HZ ⊢
  clear hz
  have HO := Lib.hid ho
  rcases HZ.out with ⟨hneg, rfl⟩ | ⟨hneg, rfl⟩
  all_goals
    clear HZ
    go_enter Try.func13, Try.ntmps13
    go_wp2_with fail
    refine (spec_FactorsOf _ w).mono ?_
    rintro e w1 ⟨F, m, d, rfl, hof, hb⟩
    have hlf := Lib.hid hof.len
    have hm19 : m ≤ 19 := by rw [← hof.len]; exact facsOf_len _
    have hFb : ∀ b, blk F = some b → w.heap.size ≤ b ∧ b < w1.heap.size := fun b hb => hof.os.lt hb
    have hAb : ∀ b, blk A = some b → b < w.heap.size ∨ w1.heap.size ≤ b := fun b hb => .inl (HO.out.os.lt hb).2
    generalize hfs : facsOf _ = fs at *
    have HFS := Lib.hid hfs
    have HFB := Lib.hid hFb
    have HOF := Lib.hid hof
    have HAB := Lib.hid hAb
    clear hfs hFb hof hAb
    have ho1 := HO.out.below hb
    have hsz1 := hb.size
    go_wp2
    go_loopw [0, 6] (fun t i wr => ∃ (k : Nat) (A' : Option Addr) (n' c' : Nat), k ≤ m ∧ i = .int .i64 k ∧ t = .slice A' n' c' ∧ OI wr B 2 A' n' c' (oddF l (fs.take k)) ∧ n' ≤ n + k ∧ OI wr w.heap.size 2 F m d fs ∧ (∀ b, blk A' = some b → b < w.heap.size ∨ w1.heap.size ≤ b) ∧ w1.heap.size ≤ wr.heap.size ∧ Below B w wr) (fun _ i _ => m - (intOf i).toNat)
    case atStart => exact ⟨0, A, n, c, Nat.zero_le _, rfl, rfl, ho1, by omega, HOF.out, HAB.out, Nat.le_refl _, hb.mono hB⟩
    case round =>
      clear ho1
      obtain ⟨k, A', n', c', hk, rfl, rfl, hok, hnk, hrf, hAb, hsz, hw⟩ := hrel
      have HAb := Lib.hid hAb
      clear hAb
      by_cases hlt : k < m
      · obtain ⟨f, rfl, hcf, -, hif⟩ := hrf.cell hlt
        have HT : oddF l (fs.take (k + 1)) = odd1 (oddF l (fs.take k)) (nth fs k) := by
          rw [List.take_succ_eq_append_getElem (by rw [hlf.out]; exact hlt), oddF_snoc, nth_get (by rw [hlf.out]; exact hlt)]
        have HT := Lib.hid HT
        generalize nth fs k = q at *
        by_cases h2 : 2 < q
        · have hq2 : q > 2 := h2
          have hhas := b10Has_any A' n' c' (oddF l (fs.take k)) q wr hok.reads (by omega)
          by_cases hin : q ∈ oddF l (fs.take k)
          · have hb1 : hasB (oddF l (fs.take k)) q = true := List.contains_iff_mem.2 hin
            have HS := Lib.hid (show oddF l (fs.take (k + 1)) = oddF l (fs.take k) by rw [HT.out, odd1, if_neg (fun h => h.2 hin)])
            rw [hb1] at hhas
            clear hin hb1
            go_wp2_with fail
            refine hhas.mono ?_
            rintro e w' ⟨rfl, rfl⟩
            go_wp2
            go_roundw
            case rel => exact ⟨k + 1, A', n', c', by omega, by go_num, rfl, by rw [HS.out]; exact hok, by omega, hrf, HAb.out, hsz, hw⟩
            case measure => simp [intOf]; omega
          · have hb1 : hasB (oddF l (fs.take k)) q = false := by
              cases hq : hasB (oddF l (fs.take k)) q with
              | false => rfl
              | true => exact absurd (List.contains_iff_mem.1 hq) hin
            have HS := Lib.hid (show oddF l (fs.take (k + 1)) = oddF l (fs.take k) ++ [q] by rw [HT.out, odd1, if_pos ⟨h2, hin⟩])
            have HK := Lib.hid hok
            rw [hb1] at hhas
            clear hin hb1
            go_wp2_with fail
            refine hhas.mono ?_
            rintro e w' ⟨rfl, rfl⟩
            go_wp2_with (at_builtin; refine wpList_app1 _ rfl _ _ 30 rfl 2 (.int .i64 0) 8 Try.underlying30 int_info'' rfl (by omega) B A' n' c' (ints (oddF l (fs.take k))) rfl HK.out.os (.int .i64 q) rfl rfl (by omega) (Nat.le_trans hB (Nat.le_trans hsz1 hsz)) ?_; intro A2 c2 w2 ho2 hg2 hn2)
            have hw2 := below_own hw hg2 (Nat.le_trans hB (Nat.le_trans hsz1 hsz)) (fun b hb => (HK.out.os.lt hb).1)
            have hi2 := OI.snoc ho2 HK.out.all hif
            rw [← HS.out] at hi2
            have hrf2 := hrf.kept hg2 (.inr fun e => by
              cases hb : blk A' with
              | none => rw [hb] at e; cases e
              | some b =>
                have h3 := HFB.out b (by rw [e]; exact hb)
                have h4 := HAb.out b hb
                omega)
            have HA2 := Lib.hid (fun (b : Nat) (hb : blk A2 = some b) => show b < w.heap.size ∨ w1.heap.size ≤ b from by
              rcases hn2 with h | ⟨q, h, h'⟩
              · exact HAb.out b (by rw [← h]; exact hb)
              · rw [h] at hb; injection hb with hb; omega)
            have hsz2 := Nat.le_trans hsz hg2.size
            clear ho2 hg2 hn2 hok hrf hw
            go_wp2
            go_roundw
            case rel => exact ⟨k + 1, A2, n' + 1, c2, by omega, by go_num, rfl, hi2, by omega, hrf2, HA2.out, hsz2, hw2⟩
            case measure => simp [intOf]; omega
        · have hq2 : ¬ q > 2 := h2
          have HS := Lib.hid (show oddF l (fs.take (k + 1)) = oddF l (fs.take k) by rw [HT.out, odd1, if_neg (fun h => h2 h.1)])
          clear h2
          go_wp2
          go_roundw
          case rel => exact ⟨k + 1, A', n', c', by omega, by go_num, rfl, by rw [HS.out]; exact hok, by omega, hrf, HAb.out, hsz, hw⟩
          case measure => simp [intOf]; omega
      · obtain rfl : k = m := by omega
        rw [List.take_of_length_le (by rw [hlf.out]; exact Nat.le_refl _)] at hok
        go_wp2
        go_ret
        exact ⟨_, _, _, rfl, by rw [HFS.out]; exact hok, hw⟩
def okS (a b : Int) (l : List Int) : Bool := l.all (good a b)
theorem okS_snoc (a b : Int) (l : List Int) (p : Int) : okS a b (l ++ [p]) = (okS a b l && good a b p) := by simp [okS]
theorem sgn_pm (h : Int) : sgn h = 1 ∨ sgn h = -1 := by unfold sgn; split <;> simp
theorem good_sgn (a b p : Int) : good a b p = (sgn (hv a b p) == 1) := by
  unfold good sgn
  by_cases h : hv a b p % 2 = 0
  · simp [h]
  · simp [h]
theorem take_snoc_ {l : List Int} {j : Nat} (h : j < l.length) : l.take (j + 1) = l.take j ++ [nth l j] := by rw [List.take_succ_eq_append_getElem h, nth_get h]
theorem mul_small {b x : Int} (h1 : -16807 ≤ b) (h2 : b ≤ 16807) (h3 : -10 ≤ x) (h4 : x ≤ 9) : -1000000 ≤ b * x ∧ b * x ≤ 1000000 := by
  rcases (show 0 ≤ x ∨ x < 0 by omega) with h | h
  · have e1 : b * x ≤ 16807 * x := Int.mul_le_mul_of_nonneg_right h2 h
    have e2 : -16807 * x ≤ b * x := Int.mul_le_mul_of_nonneg_right h1 h
    omega
  · have e1 : b * (-x) ≤ 16807 * (-x) := Int.mul_le_mul_of_nonneg_right h2 (by omega)
    have e2 : -16807 * (-x) ≤ b * (-x) := Int.mul_le_mul_of_nonneg_right h1 (by omega)
    have e3 := Int.mul_neg b x
    omega
set_option maxRecDepth 100000 in
set_option maxHeartbeats 4000000 in
theorem law_Hilbert_ok (A : Option Addr) (n c : Nat) (zs : List Int) (B : Option Addr) (m d : Nat) (ys : List Int) (w : World) (ha : RS EByte w A n zs) (hb : RS EByte w B m ys) (hn : n ≤ 1048576) (hm : m ≤ 1048576) :
    Calls Try.prog 4 #[.slice A n c, .slice B m d] w fun e w' => e = .returned (.bool true) ∧ Below w.heap.size w w' := by
  go_enter Try.func4, Try.ntmps4
  go_wp2_with fail
  refine (b10Long_no A n c _ hn).mono ?_
  rintro e w' ⟨rfl, rfl⟩
  go_wp2_with fail
  refine (b10Long_no B m d _ hm).mono ?_
  rintro e w' ⟨rfl, rfl⟩
  go_wp2_with fail
  refine (drawTernary_any A n c zs w ha (by omega)).mono ?_
  rintro e w1 ⟨a, b, rfl, da, db, hb1⟩
  obtain ⟨da1, da2⟩ := da.bd
  obtain ⟨db1, db2⟩ := db.bd
  obtain ⟨t0, t1⟩ := atP_bd (zs := ys) (i := 0) (k := 20) (by omega)
  have hat : Calls Try.prog 12 #[.slice B m d, .int .i64 0, .int .i64 20] w1 fun e w' => e = .returned (.int .i64 (atP ys 0 20)) ∧ w1 = w' := b10At_any B m d ys 0 20 w1 (EBytes.keep hb hb1) (by omega) (by omega) (by omega)
  generalize atP ys 0 20 = t at *
  have HDA := Lib.hid da
  have HDB := Lib.hid db
  clear da db
  go_wp2_with fail
  refine hat.mono ?_
  rintro e w' ⟨rfl, rfl⟩
  obtain ⟨x, hx⟩ : ∃ x, t - 10 = x := ⟨_, rfl⟩
  obtain rfl : t = x + 10 := by omega
  have hx10 : x + 10 - 10 = x := by omega
  rw [hx10] at *
  clear hat hx hx10
  by_cases e0 : a = 0
  · have q0 : (a == 0) = true := by simp [e0]
    clear e0
    go_wp2
    go_ret
    exact ⟨rfl, hb1⟩
  have q0 : (a == 0) = false := by simp [e0]
  by_cases e1 : b = 0
  · have q1 : (b == 0) = true := by simp [e1]
    clear e0 e1
    go_wp2
    go_ret
    exact ⟨rfl, hb1⟩
  have q1 : (b == 0) = false := by simp [e1]
  by_cases e2 : x = 0
  · have q2 : (x == 0) = true := by simp [e2]
    clear e0 e1 e2
    go_wp2
    go_ret
    exact ⟨rfl, hb1⟩
  have q2 : (x == 0) = false := by simp [e2]
  by_cases e3 : 100000 < a
  · have q3 : decide (100000 < a) = true := by simp [e3]
    clear e0 e1 e2 e3
    go_wp2
    go_ret
    exact ⟨rfl, hb1⟩
  have q3 : decide (100000 < a) = false := by simp; omega
  by_cases e4 : a < -100000
  · have q4 : decide (a < -100000) = true := by simp [e4]
    clear e0 e1 e2 e3 e4
    go_wp2
    go_ret
    exact ⟨rfl, hb1⟩
  have q4 : decide (a < -100000) = false := by simp; omega
  by_cases e5 : 100000 < b
  · have q5 : decide (100000 < b) = true := by simp [e5]
    clear e0 e1 e2 e3 e4 e5
    go_wp2
    go_ret
    exact ⟨rfl, hb1⟩
  have q5 : decide (100000 < b) = false := by simp; omega
  by_cases e6 : b < -100000
  · have q6 : decide (b < -100000) = true := by simp [e6]
    clear e0 e1 e2 e3 e4 e5 e6
    go_wp2
    go_ret
    exact ⟨rfl, hb1⟩
  have q6 : decide (b < -100000) = false := by simp; omega
  have hA := HDA.out.list e0 (by omega) (by omega)
  have hB := HDB.out.list e1 (by omega) (by omega)
  obtain ⟨a0, a1, a2⟩ := DL_small hA
  obtain ⟨b0, b1, b2⟩ := DL_small hB
  have hbx := mul_small (b := b) (x := x) b1 b2 (by omega) (by omega)
  have hbx0 : b * x ≠ 0 := Int.mul_ne_zero e1 e2
  obtain ⟨bx1, bx2⟩ := hbx
  have HS := Lib.hid (fun (p : Int) (hp : p ∈ P18) (W : World) => b10Symbol_ok a b p W (sym_ok ⟨a0, by omega, by omega⟩ ⟨b0, by omega, by omega⟩ hp))
  have HS2 := Lib.hid (fun (p : Int) (hp : p ∈ P18) (W : World) => b10Symbol_ok b a p W (sym_ok ⟨b0, by omega, by omega⟩ ⟨a0, by omega, by omega⟩ hp))
  have HS3 := Lib.hid (fun (p : Int) (hp : p ∈ P18) (W : World) => b10Symbol_ok a (-a) p W (sym_ok ⟨a0, by omega, by omega⟩ ⟨by omega, by omega, by omega⟩ hp))
  have HS4 := Lib.hid (fun (p : Int) (hp : p ∈ P18) (W : World) => b10Symbol_ok a (b * x) p W (sym_ok ⟨a0, by omega, by omega⟩ ⟨hbx0, by omega, by omega⟩ hp))
  have HS5 := Lib.hid (fun (p : Int) (hp : p ∈ P18) (W : World) => b10Symbol_ok a x p W (sym_ok ⟨a0, by omega, by omega⟩ ⟨e2, by omega, by omega⟩ hp))
  have HC := Lib.hid (fun p => hv_comm b a p)
  have HN := Lib.hid (fun (p : Int) (hp : p ∈ P18) => hv_neg hA hp)
  have HM := Lib.hid (fun (p : Int) (hp : p ∈ P18) => hv_mul hp a0 b0 e2)
  have HSub := Lib.hid (fun (p : Int) (hp : p ∈ plL a b) => plL_sub hA hB hp)
  have HP := Lib.hid (prod_all hA hB)
  have HSP := Lib.hid (solves_places' hA hB)
  have R0 : OI (w1.alloc (.cells #[.int .i64 0, .int .i64 2] 2)) w1.heap.size 2 (some ⟨w1.heap.size, 0, none⟩) 2 2 [0, 2] := OI.lit w1 w1.heap.size 2 [0, 2] (Nat.le_refl _) (by simp) (fun z hz => by simp at hz; constructor <;> omega)
  have hal := below_alloc w1 (.cells #[.int .i64 0, .int .i64 2] 2)
  have hf1 := fun (W : World) (A : Option Addr) (n c : Nat) (l : List Int) (ho : OI W w1.heap.size 2 A n c l) (h1 : w1.heap.size ≤ W.heap.size) (h2 : n ≤ 100) => b10Odd_any w1.heap.size A n c l a W ho h1 h2 ⟨by omega, by omega⟩
  have hf2 := fun (W : World) (A : Option Addr) (n c : Nat) (l : List Int) (ho : OI W w1.heap.size 2 A n c l) (h1 : w1.heap.size ≤ W.heap.size) (h2 : n ≤ 100) => b10Odd_any w1.heap.size A n c l b W ho h1 h2 ⟨by omega, by omega⟩
  have HF1 := Lib.hid hf1
  have HF2 := Lib.hid hf2
  have E2 := Lib.hid e2
  clear e0 e1 e2 e3 e4 e5 e6 hf1 hf2 hbx0 hA hB HDA HDB a0 b0
  go_wp2_with fail
  refine (HF1.out _ _ 2 2 _ R0 hal.size (by omega)).mono ?_
  rintro e w2 ⟨A2, n2, c2, rfl, ho2, hb2⟩
  have hl2 : n2 ≤ 40 := by
    have h1 := ho2.len
    have h2 := oddF_len (facsOf (ab a)) [0, 2]
    have h3 := facsOf_len (ab a)
    simp at h2; omega
  have hz2 : w1.heap.size ≤ w2.heap.size := Nat.le_trans hal.size hb2.size
  have hb12 : Below w1.heap.size w1 w2 := hal.trans hb2
  go_wp2_with fail
  refine (HF2.out _ A2 n2 c2 _ ho2 hz2 (by omega)).mono ?_
  rintro e w3 ⟨A3, n3, c3, rfl, ho3, hb3⟩
  have hb13 : Below w1.heap.size w1 w3 := hb12.trans hb3
  have hw3 := hb1.trans (hb13.mono hb1.size)
  have hl3 : n3 ≤ 100 := by
    have h1 := ho3.len
    have h2 := oddF_len (facsOf (ab b)) (oddF [0, 2] (facsOf (ab a)))
    have h3 := facsOf_len (ab b)
    have h4 := ho2.len
    omega
  have hri : RI w3 A3 n3 (plL a b) := ho3.reads
  have hlen := Lib.hid hri.len
  clear ho2 ho3 hb2 hb12 hb3 HF1 HF2 R0 hal hl2 hz2 hb13
  generalize hL : plL a b = L at *
  clear hL
  go_wp2
  go_loopw [9, 10, 11, 12] (fun s u i _ wr => ∃ j : Nat, j ≤ n3 ∧ i = .int .i64 j ∧ s = .int .i64 (prodS a b (L.take j)) ∧ u = .bool (okS a b (L.take j)) ∧ Below w3.heap.size w3 wr) (fun _ _ i _ _ => n3 - (intOf i).toNat)
  case atStart => exact ⟨0, Nat.zero_le _, rfl, rfl, rfl, Below.refl _ _⟩
  case round =>
    obtain ⟨j, hj, rfl, rfl, rfl, hw⟩ := hrel
    by_cases hlt : j < n3
    · obtain ⟨ad, rfl, hc, -⟩ := (hri.keep hw).get hlt
      have hjl : j < L.length := by rw [hlen.out]; exact hlt
      have hpP := HSub.out (nth L j) (by rw [nth_get hjl]; exact List.getElem_mem hjl)
      have HT := Lib.hid (take_snoc_ hjl)
      have k1 := HS.out _ hpP
      have k2 := HS2.out _ hpP
      have k3 := HS3.out _ hpP
      have k4 := HS4.out _ hpP
      have k5 := HS5.out _ hpP
      rw [HC.out] at k2
      rw [show sgn (hv a (-a) (nth L j)) = 1 by rw [sgn, if_pos (HN.out _ hpP)]] at k3
      rw [sgn_of (HM.out _ hpP), sgn_add] at k4
      have hPS := Lib.hid (prodS_snoc a b (L.take j) (nth L j))
      have hOS := Lib.hid (okS_snoc a b (L.take j) (nth L j))
      have hGS := Lib.hid (good_sgn a b (nth L j))
      have hq := sgn_pm (tot a b (L.take j))
      rw [show sgn (tot a b (L.take j)) = prodS a b (L.take j) from rfl] at hq
      have hqb : -1 ≤ prodS a b (L.take j) ∧ prodS a b (L.take j) ≤ 1 := by omega
      obtain ⟨qb1, qb2⟩ := hqb
      have hs1 := sgn_pm (hv a b (nth L j))
      have hs2 := sgn_pm (hv a x (nth L j))
      clear hpP hjl hq
      generalize good a b (nth L j) = gd at *
      generalize sgn (hv a b (nth L j)) = s1 at *
      generalize sgn (hv a x (nth L j)) = s2 at *
      generalize hqq : prodS a b (L.take j) = q at *
      generalize huu : okS a b (L.take j) = u at *
      generalize hp : nth L j = p at *
      have HPP := Lib.hid hp
      have HQQ := Lib.hid hqq
      have HUU := Lib.hid huu
      clear hp hqq huu
      rcases hs1 with rfl | rfl <;> rcases hs2 with rfl | rfl
      all_goals
        go_wp2_with fail
        refine (k1 wr).mono ?_
        rintro e w4 ⟨rfl, hb4⟩
        have hc4 := below_cell hb4 hc
        have hw4 := hw.trans (hb4.mono hw.size)
        clear hc
        go_wp2_with fail
        refine (k2 w4).mono ?_
        rintro e w5 ⟨rfl, hb5⟩
        have hc5 := below_cell hb5 hc4
        have hw5 := hw4.trans (hb5.mono hw4.size)
        clear hc4
        go_wp2_with fail
        refine (k3 w5).mono ?_
        rintro e w6 ⟨rfl, hb6⟩
        have hc6 := below_cell hb6 hc5
        have hw6 := hw5.trans (hb6.mono hw5.size)
        clear hc5 k1 k2 k3
        go_wp2
        have Q0 := cell_bel hc6
        have ew : IntKind.i64.wrap (b * x) = b * x := IntWalk.i64_in _ (by omega)
        have k4' : ∀ P : Bel w6, Calls Try.prog 14 #[.int .i64 a, .int .i64 (b * x), .int .i64 p] P.w _ := fun P => k4 P.w
        have k5' : ∀ P : Bel w6, Calls Try.prog 14 #[.int .i64 a, .int .i64 x, .int .i64 p] P.w _ := fun P => k5 P.w
        clear hc6
        refine wp_region_bel (by kernel_rfl) (by kernel_rfl) ?_
        repeat (first | go_big_quiet_step (((first | (go_at_call 14; with_reducible exact Calls.bel (k4' _)) | (go_at_call 14; with_reducible exact Calls.bel (k5' _))))) | quiet_step (((first | (go_at_call 14; with_reducible exact Calls.bel (k4' _)) | (go_at_call 14; with_reducible exact Calls.bel (k5' _))))))
        refine wpQuiet_nil ?_
        rintro _ ⟨⟨w7, hb7⟩, rfl⟩
        have hw7 := hw6.trans (hb7.mono hw6.size)
        clear Q0 ew k4 k5 k4' k5'
        cases u with
        | true =>
          go_wp2
          go_roundw
          case rel => exact ⟨j + 1, by omega, by go_num, by rw [HT.out, hPS.out]; simp, by rw [HT.out, hOS.out, hGS.out]; simp, hw7⟩
          case measure => simp [intOf]; omega
        | false =>
          go_wp2
          go_roundw
          case rel => exact ⟨j + 1, by omega, by go_num, by rw [HT.out, hPS.out]; simp, by rw [HT.out, hOS.out, hGS.out]; simp, hw7⟩
          case measure => simp [intOf]; omega
    · obtain rfl : j = n3 := by omega
      have hte : L.take j = L := List.take_of_length_le (by rw [hlen.out]; exact Nat.le_refl _)
      rw [hte, HP.out]
      have hsol := impl_SolvesTernary a b wr
      rw [HSP.out] at hsol
      rw [show okS a b L = L.all (good a b) from rfl]
      generalize L.all (good a b) = u at *
      have hww := hw3.trans (hw.mono hw3.size)
      clear hte
      cases u with
      | true =>
        go_wp2_with fail
        refine hsol.mono ?_
        rintro e w4 ⟨rfl, hb4⟩
        go_wp2
        go_ret
        exact ⟨rfl, hww.trans (hb4.mono hww.size)⟩
      | false =>
        go_wp2_with fail
        refine hsol.mono ?_
        rintro e w4 ⟨rfl, hb4⟩
        go_wp2
        go_ret
        exact ⟨rfl, hww.trans (hb4.mono hww.size)⟩
theorem law_Hilbert (A : Option Addr) (n c : Nat) (zs : List Int) (B : Option Addr) (m d : Nat) (ys : List Int) (w : World) (ha : RS EByte w A n zs) (hn : n ≤ c) (hc : c ≤ 9223372036854775807) (hb : RS EByte w B m ys) (hm : m ≤ d) (hd : d ≤ 9223372036854775807) :
    Calls Try.prog 4 #[.slice A n c, .slice B m d] w fun e w' => e = .returned (.bool true) ∧ Below w.heap.size w w' := by
  by_cases h1 : n ≤ 1048576
  · by_cases h2 : m ≤ 1048576
    · exact law_Hilbert_ok A n c zs B m d ys w ha hb h1 h2
    · go_enter Try.func4, Try.ntmps4
      go_wp2_with fail
      refine (b10Long_no A n c _ h1).mono ?_
      rintro e w' ⟨rfl, rfl⟩
      go_wp2_with fail
      refine (b10Long_yes B m d _ (by omega)).mono ?_
      rintro e w' ⟨rfl, rfl⟩
      go_wp2
      go_ret
      exact ⟨rfl, Below.refl _ _⟩
  · go_enter Try.func4, Try.ntmps4
    go_wp2_with fail
    refine (b10Long_yes A n c _ (by omega)).mono ?_
    rintro e w' ⟨rfl, rfl⟩
    go_wp2
    go_ret
    exact ⟨rfl, Below.refl _ _⟩
end Go.Proofs.Ytjhheemppoeecaa
