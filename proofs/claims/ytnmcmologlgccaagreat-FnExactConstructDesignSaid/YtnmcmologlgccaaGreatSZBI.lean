/- Hadamard matrices by products: the reference's side. No condition beyond those stated. -/
import Derived.Test.YtnmcmologlgccaaGreatSZBG
set_option linter.unusedVariables false
set_option linter.unusedSimpArgs false
namespace Go.Proofs.YtnmcmologlgccaaGreat
open Go.RowKit
theorem divH {m i k : Nat} (h : k < m) : (i * m + k) / m = i ∧ (i * m + k) % m = k := by
  constructor
  · rw [Nat.add_comm, Nat.add_mul_div_right _ _ (by omega), Nat.div_eq_of_lt h, Nat.zero_add]
  · rw [Nat.add_comm, Nat.add_mul_mod_self_right, Nat.mod_eq_of_lt h]
set_option maxRecDepth 100000 in
set_option maxHeartbeats 8000000 in
theorem l15Product_any (A B : Option Addr) (n c m d : Nat) (a b : List (List Int)) (w : World) (hra : RR w A n a) (hrb : RR w B m b) (ha : SqP n a) (hb : SqP m b) (hm : 1 ≤ m) (hnm : n * m ≤ 32) (hn : n ≤ 32) (hm2 : m ≤ 32) :
    Calls Tryz.prog 168 #[.slice A n c, .slice B m d] w (RetR w 36 2 (prodH a b)) := by
  have G0 := Grw.start w w (Below.refl _ _)
  obtain ⟨N, hN⟩ : ∃ N, N = n * m := ⟨_, rfl⟩
  have HN := Lib.hid hN
  have HPH : Hid (prodH a b = fillS (prodF a b m) N N) := Lib.hid (by rw [prodH, ha.1, hb.1, hN])
  have hN32 : N ≤ 32 := by omega
  have HF := Lib.hid (fun (i k x y : Nat) (hk : k < m) (hy : y < m) => show prodF a b m (i * m + k) (x * m + y) = nth (row a i) x * nth (row b k) y from by
    obtain ⟨e1, e2⟩ := divH (i := i) hk
    obtain ⟨e3, e4⟩ := divH (i := x) hy
    unfold prodF atS
    rw [e1, e2, e3, e4])
  have HPM := Lib.hid (fun (i k x y : Nat) (hi : i < n) (hk : k < m) (hx : x < n) (hy : y < m) => pm_two ((ha.2 i hi).2 x hx) ((hb.2 k hk).2 y hy))
  have HA := Lib.hid (fun (W : World) (h : Below w.heap.size w W) => hra.keep h)
  have HB := Lib.hid (fun (W : World) (h : Below w.heap.size w W) => hrb.keep h)
  have HAL := Lib.hid (fun i (hi : i < n) => (ha.2 i hi).1)
  have HBL := Lib.hid (fun i (hi : i < m) => (hb.2 i hi).1)
  have HSM := Lib.hid (fun (i : Nat) (h : i < n) => show (i + 1) * m ≤ N from by rw [hN]; exact Nat.mul_le_mul h (Nat.le_refl _))
  have HSU := Lib.hid (fun (i : Nat) => Nat.succ_mul i m)
  rw [HPH.out]
  generalize prodF a b m = F at *
  clear hra hrb ha hb hN hnm HPH
  go_enter Tryz.func168, Tryz.ntmps168
  go_wp2
  go_loopw [5, 6] (fun ov iv wr => ∃ (i : Nat) (P : Option Addr) (pn pc : Nat), i ≤ n ∧ Hid (pn = i * m) ∧ iv = .int .i64 i ∧ ov = .slice P pn pc ∧ Grw w wr P pn pc (fillS F N pn)) (fun _ iv _ => n - (intOf iv).toNat)
  case atStart => exact ⟨0, _, 0, 0, Nat.zero_le _, Lib.hid (by simp), rfl, rfl, G0⟩
  case round =>
    clear G0
    obtain ⟨i, P, pn, pc, hi, HPN, rfl, rfl, G⟩ := hrel
    by_cases hli : i < n
    · have hs1 := HSM.out i hli
      have hs2 := HSU.out i
      rw [hs2, ← HPN.out] at hs1
      clear hs2
      go_wp2
      go_loopw [5, 7] (fun ov kv wr => ∃ (k : Nat) (P : Option Addr) (qn pc : Nat), k ≤ m ∧ Hid (qn = pn + k) ∧ kv = .int .i64 k ∧ ov = .slice P qn pc ∧ Grw w wr P qn pc (fillS F N qn)) (fun _ kv _ => m - (intOf kv).toNat)
      case atStart => exact ⟨0, P, pn, pc, Nat.zero_le _, Lib.hid rfl, rfl, rfl, G⟩
      case round =>
        clear G
        obtain ⟨k, P, qn, pc, hk, HQ, rfl, rfl, G⟩ := hrel
        by_cases hlk : k < m
        · have hb2 := below_alloc wr (.cells #[] 2)
          have ho2 := OI.lit0 wr 2
          have HQN : Hid (qn = i * m + k) := Lib.hid (by rw [HQ.out, HPN.out])
          have hqN : qn < N := by have := HQ.out; omega
          go_wp2
          generalize hW : wr = W1 at *
          clear hW
          generalize W1.alloc (.cells #[] 2) = W2 at *
          go_loopw [8, 9] (fun rv xv wr => ∃ (x : Nat) (R : Option Addr) (rn rc : Nat), x ≤ n ∧ Hid (rn = x * m) ∧ xv = .int .i64 x ∧ rv = .slice R rn rc ∧ OI wr W1.heap.size 2 R rn rc (fillR F qn rn) ∧ Below W1.heap.size W1 wr) (fun _ xv _ => n - (intOf xv).toNat)
          case atStart => exact ⟨0, _, 0, 0, Nat.zero_le _, Lib.hid (by simp), rfl, rfl, ho2, hb2⟩
          case round =>
            clear ho2 hb2
            obtain ⟨x, R, rn, rc, hx, HRN, rfl, rfl, hor, hbr⟩ := hrel
            by_cases hlx : x < n
            · have hs3 := HSM.out x hlx
              have hs4 := HSU.out x
              rw [hs4, ← HRN.out] at hs3
              clear hs4
              go_wp2
              go_loopw [8, 10] (fun rv yv wr => ∃ (y : Nat) (R : Option Addr) (sn rc : Nat), y ≤ m ∧ Hid (sn = rn + y) ∧ yv = .int .i64 y ∧ rv = .slice R sn rc ∧ OI wr W1.heap.size 2 R sn rc (fillR F qn sn) ∧ Below W1.heap.size W1 wr) (fun _ yv _ => m - (intOf yv).toNat)
              case atStart => exact ⟨0, R, rn, rc, Nat.zero_le _, Lib.hid rfl, rfl, rfl, hor, hbr⟩
              case round =>
                clear hor hbr
                obtain ⟨y, R, sn, rc, hy, HSN, rfl, rfl, hor, hbr⟩ := hrel
                by_cases hly : y < m
                · have hsN : sn < N := by have := HSN.out; omega
                  have hbG := G.2
                  have hwr := hbG.trans (hbr.mono hbG.size)
                  obtain ⟨ada, S1, n1, c1, rfl, cs1, _, _, hr1⟩ := (HA.out _ hwr).get hli
                  obtain ⟨adb, S2, n2, c2, rfl, cs2, _, _, hr2⟩ := (HB.out _ hwr).get hlk
                  have hn1 : n1 = n := by rw [← hr1.len, HAL.out i hli]
                  have hn2 : n2 = m := by rw [← hr2.len, HBL.out k hlk]
                  subst hn1; subst hn2
                  obtain ⟨a1, rfl, x1, _⟩ := hr1.get hlx
                  obtain ⟨a2, rfl, x2, _⟩ := hr2.get hly
                  have hpm := HPM.out i k x y hli hlk hlx hly
                  have hf := HF.out i k x y hlk hly
                  rw [← HQN.out, ← HRN.out, ← HSN.out] at hf
                  have HST : Hid (fillR F qn (sn + 1) = fillR F qn sn ++ [nth (row a i) x * nth (row b k) y]) := Lib.hid (by rw [fillR_step, hf])
                  clear hf hr1 hr2
                  generalize nth (row a i) x = u at *
                  generalize nth (row b k) y = v at *
                  have hpl : -1 ≤ u * v ∧ u * v ≤ 1 := by omega
                  clear hpm
                  have hdr : Below wr.heap.size wr wr.drew := by have := below_drewn wr 1; rwa [← World.drew_is_drewN] at this
                  have hbd := hbr.trans (hdr.mono hbr.size)
                  have hod := hor.below hdr
                  have hbs := hbd.size
                  go_wp2
                  refine region_sufX (P := Tryz.prog) (n := 15) (i := 0) (v := .slice R sn rc) (S := fun w' => w'.cell? (ada.add i) = some (.slice (some a1) n1 c1) ∧ w'.cell? (adb.add k) = some (.slice (some a2) n2 c2) ∧ w'.cell? (a1.add x) = some (.int .i64 u) ∧ w'.cell? (a2.add y) = some (.int .i64 v) ∧ w' = wr.drew) (by kernel_rfl) (by simp only [List.take_succ_cons, List.take_zero]; rfl) (by simp only [List.drop_succ_cons, List.drop_zero]; rfl) (by kernel_rfl) rfl (by decide) (by kernel_rfl) (by kernel_rfl) (by kernel_rfl) (by kernel_rfl) (fun _ _ _ h => h) (Or.inl ⟨by rfl, ?_⟩) ⟨below_cell hdr cs1, below_cell hdr cs2, below_cell hdr x1, below_cell hdr x2, rfl⟩ ?_
                  · intro w5
                    go_simp
                  intro hS
                  simp only [Act.put, List.setIfInBounds_toArray, List.set_cons_zero, List.set_cons_succ]
                  generalize wr.drew = W5 at *
                  clear hdr cs1 cs2 x1 x2 hor hbr
                  refine wpAnyH_take (i := 1) (v := ?_) rfl (by kernel_rfl) (by kernel_rfl) (by kernel_rfl) (fun _ _ _ h => h) (Or.inl ⟨by rfl, ?_⟩) (by assumption) ?_
                  rotate_left
                  · (intro w hSw; (try dsimp only at hSw); go_simp; (try with_reducible rfl))
                  simp only [Act.put, List.setIfInBounds_toArray, List.set_cons_zero, List.set_cons_succ]
                  refine wpAnyH_take (i := 2) (v := ?_) rfl (by kernel_rfl) (by kernel_rfl) (by kernel_rfl) (fun _ _ _ h => h) (Or.inl ⟨by rfl, ?_⟩) (by assumption) ?_
                  rotate_left
                  · (intro w hSw; (try dsimp only at hSw); go_simp; (try with_reducible rfl))
                  simp only [Act.put, List.setIfInBounds_toArray, List.set_cons_zero, List.set_cons_succ]
                  refine wpAnyH_take (i := 3) (v := ?_) rfl (by kernel_rfl) (by kernel_rfl) (by kernel_rfl) (fun _ _ _ h => h) (Or.inl ⟨by rfl, ?_⟩) (by assumption) ?_
                  rotate_left
                  · (intro w hSw; (try dsimp only at hSw); go_simp; (try with_reducible rfl))
                  simp only [Act.put, List.setIfInBounds_toArray, List.set_cons_zero, List.set_cons_succ]
                  refine wpAnyH_take (i := 4) (v := ?_) rfl (by kernel_rfl) (by kernel_rfl) (by kernel_rfl) (fun _ _ _ h => h) (Or.inl ⟨by rfl, ?_⟩) (by assumption) ?_
                  rotate_left
                  · (intro w hSw; (try dsimp only at hSw); go_simp; (try with_reducible rfl))
                  simp only [Act.put, List.setIfInBounds_toArray, List.set_cons_zero, List.set_cons_succ]
                  refine wpAnyH_take (i := 5) (v := ?_) rfl (by kernel_rfl) (by kernel_rfl) (by kernel_rfl) (fun _ _ _ h => h) (Or.inl ⟨by rfl, ?_⟩) (by assumption) ?_
                  rotate_left
                  · (intro w hSw; (try dsimp only at hSw); go_simp; (try with_reducible rfl))
                  simp only [Act.put, List.setIfInBounds_toArray, List.set_cons_zero, List.set_cons_succ]
                  refine wpAnyH_take (i := 6) (v := ?_) rfl (by kernel_rfl) (by kernel_rfl) (by kernel_rfl) (fun _ _ _ h => h) (Or.inl ⟨by rfl, ?_⟩) (by assumption) ?_
                  rotate_left
                  · (intro w hSw; (try dsimp only at hSw); go_simp; (try with_reducible rfl))
                  simp only [Act.put, List.setIfInBounds_toArray, List.set_cons_zero, List.set_cons_succ]
                  refine wpAnyH_take (i := 7) (v := ?_) rfl (by kernel_rfl) (by kernel_rfl) (by kernel_rfl) (fun _ _ _ h => h) (Or.inl ⟨by rfl, ?_⟩) (by assumption) ?_
                  rotate_left
                  · (intro w hSw; (try dsimp only at hSw); go_simp; (try with_reducible rfl))
                  simp only [Act.put, List.setIfInBounds_toArray, List.set_cons_zero, List.set_cons_succ]
                  refine wpAnyH_take (i := 8) (v := ?_) rfl (by kernel_rfl) (by kernel_rfl) (by kernel_rfl) (fun _ _ _ h => h) (Or.inl ⟨by rfl, ?_⟩) (by assumption) ?_
                  rotate_left
                  · (intro w hSw; (try dsimp only at hSw); go_simp; (try with_reducible rfl))
                  simp only [Act.put, List.setIfInBounds_toArray, List.set_cons_zero, List.set_cons_succ]
                  refine wpAnyH_take (i := 9) (v := ?_) rfl (by kernel_rfl) (by kernel_rfl) (by kernel_rfl) (fun _ _ _ h => h) (Or.inl ⟨by rfl, ?_⟩) (by assumption) ?_
                  rotate_left
                  · (intro w hSw; (try dsimp only at hSw); go_simp; (try with_reducible rfl))
                  simp only [Act.put, List.setIfInBounds_toArray, List.set_cons_zero, List.set_cons_succ]
                  refine wpAnyH_take (i := 10) (v := ?_) rfl (by kernel_rfl) (by kernel_rfl) (by kernel_rfl) (fun _ _ _ h => h) (Or.inl ⟨by rfl, ?_⟩) (by assumption) ?_
                  rotate_left
                  · (intro w hSw; (try dsimp only at hSw); go_simp; (try with_reducible rfl))
                  simp only [Act.put, List.setIfInBounds_toArray, List.set_cons_zero, List.set_cons_succ]
                  refine wpAnyH_take (i := 11) (v := ?_) rfl (by kernel_rfl) (by kernel_rfl) (by kernel_rfl) (fun _ _ _ h => h) (Or.inl ⟨by rfl, ?_⟩) (by assumption) ?_
                  rotate_left
                  · (intro w hSw; (try dsimp only at hSw); go_simp; (try with_reducible rfl))
                  simp only [Act.put, List.setIfInBounds_toArray, List.set_cons_zero, List.set_cons_succ]
                  refine wpAnyH_take (i := 12) (v := ?_) rfl (by kernel_rfl) (by kernel_rfl) (by kernel_rfl) (fun _ _ _ h => h) (Or.inl ⟨by rfl, ?_⟩) (by assumption) ?_
                  rotate_left
                  · (intro w hSw; (try dsimp only at hSw); go_simp; (try with_reducible rfl))
                  simp only [Act.put, List.setIfInBounds_toArray, List.set_cons_zero, List.set_cons_succ]
                  refine wpAnyH_take (i := 13) (v := ?_) rfl (by kernel_rfl) (by kernel_rfl) (by kernel_rfl) (fun _ _ _ h => h) (Or.inl ⟨by rfl, ?_⟩) (by assumption) ?_
                  rotate_left
                  · (intro w hSw; (try dsimp only at hSw); go_simp; (try with_reducible rfl))
                  simp only [Act.put, List.setIfInBounds_toArray, List.set_cons_zero, List.set_cons_succ]
                  refine wpAnyH_take (i := 14) (v := ?_) rfl (by kernel_rfl) (by kernel_rfl) (by kernel_rfl) (fun _ _ _ h => h) (Or.inl ⟨by rfl, ?_⟩) (by assumption) ?_
                  rotate_left
                  · (intro w hSw; (try dsimp only at hSw); go_simp; (try with_reducible rfl))
                  simp only [Act.put, List.setIfInBounds_toArray, List.set_cons_zero, List.set_cons_succ]
                  simp only [List.getElem_toArray, List.getElem_cons_succ, List.getElem_cons_zero]
                  refine wpAnyH_done (by kernel_rfl) ?_ _
                  dsimp only [atEnd]
                  clear hS
                  go_wp2_with (at_builtin; refine app_int _ rfl _ _ rfl W1.heap.size R sn rc _ rfl hod (u * v) W5.heap.size rfl rfl ⟨by omega, by omega⟩ (by omega) (by omega) ?_; intro A5 c5 w5 ho5 hg5 hf5; have hb5 := below_own hbd hg5 (by omega) (fun b hb => (hod.os.lt hb).1); rw [← HST.out] at ho5)
                  exact ⟨⟨y + 1, A5, sn + 1, c5, by omega, Lib.hid (by have := HSN.out; omega), by go_num, rfl, ho5, hb5⟩, by simp only [intOf]; omega⟩
                · obtain rfl : y = m := by omega
                  have hr1 : Hid (sn = (x + 1) * y) := Lib.hid (by rw [HSU.out x, ← HRN.out, HSN.out])
                  go_wp2
                  exact ⟨⟨x + 1, R, sn, rc, by omega, hr1, by go_num, rfl, hor, hbr⟩, by simp only [intOf]; omega⟩
            · obtain rfl : x = n := by omega
              have hrN : rn = N := by rw [HRN.out, HN.out]
              clear HRN
              subst hrN
              obtain ⟨vs, G⟩ := G.row hor hbr
              have hlw := G.b.size
              have HST := Lib.hid (fillS_step F rn qn)
              clear hor hbr
              generalize fillR F qn rn = tr at *
              go_wp2_with (at_builtin; refine app_row _ rfl _ _ rfl w.heap.size P qn pc vs _ rfl G.o (R, rn, rc) tr G.r G.ap _ rfl rfl (by omega) hlw ?_; intro A7 c7 w7 ho7 hg7 hn7)
              have G := G.done ho7 hg7
              clear ho7 hg7 hn7
              exact ⟨⟨k + 1, A7, qn + 1, c7, by omega, Lib.hid (by have := HQ.out; omega), by go_num, rfl, by rw [HST.out]; exact G⟩, by simp only [intOf]; omega⟩
        · obtain rfl : k = m := by omega
          have hr1 : Hid (qn = (i + 1) * k) := Lib.hid (by rw [HSU.out i, ← HPN.out, HQ.out])
          go_wp2
          exact ⟨⟨i + 1, P, qn, pc, by omega, hr1, by go_num, rfl, G⟩, by simp only [intOf]; omega⟩
    · obtain rfl : i = n := by omega
      have hpN : pn = N := by rw [HPN.out, HN.out]
      clear HPN
      subst hpN
      obtain ⟨ho, hb⟩ := G
      go_wp2
      go_ret
      exact ⟨_, _, _, rfl, ho, hb⟩
theorem sylQ_le (k : Nat) (h : k ≤ 5) : 2 ^ k ≤ 32 := by
  have := Nat.pow_le_pow_right (n := 2) (by omega) h
  simpa using this
set_option maxRecDepth 100000 in
set_option maxHeartbeats 4000000 in
theorem l15Sylvester_any (k : Nat) (w : World) (hk : k ≤ 5) : Calls Tryz.prog 129 #[.int .i64 k] w (RetR w 36 2 (sylP k)) := by
  go_enter Tryz.func129, Tryz.ntmps129
  go_wp2
  go_loopw [0, 3] (fun kv lv wr => ∃ (j : Nat) (A : Option Addr) (n c : Nat), j ≤ k ∧ kv = .int .i64 ((k : Int) - j) ∧ n = 2 ^ j ∧ lv = .slice A n c ∧ OR wr w.heap.size 36 2 A n c (sylP j) ∧ Below w.heap.size w wr) (fun kv _ _ => (intOf kv).toNat)
  case atStart =>
    have ho1 : OI (w.alloc (.cells #[.int .i64 1] 2)) w.heap.size 2 (some ⟨w.heap.size, 0, none⟩) 1 1 [1] :=
      OI.lit w w.heap.size 2 [1] (Nat.le_refl _) (by simp) (fun u hu => by simp at hu; rw [hu]; unfold I64; omega)
    have hz : (w.alloc (.cells #[.int .i64 1] 2)).heap.size = w.heap.size + 1 := by simp
    have ho2 := ORv.litH (v := (some ⟨w.heap.size, 0, none⟩, 1, 1)) ho1 (by omega)
    rw [hz] at ho2
    have hb1 := below_alloc w (.cells #[.int .i64 1] 2)
    exact ⟨0, _, 1, 1, Nat.zero_le _, by simp, rfl, rfl, ⟨_, ho2⟩, hb1.alloc (by omega) _⟩
  case round =>
    obtain ⟨j, A, n, c, hj, rfl, hn, rfl, ho, hb⟩ := hrel
    have hbs := hb.size
    by_cases hlj : j < k
    · have hle := sylQ_le (j + 1) (by omega)
      have hle2 : 2 ^ (j + 1) = 2 * 2 ^ j := by rw [Nat.pow_succ, Nat.mul_comm]
      have h1 : 1 ≤ n := by rw [hn]; exact Nat.pow_pos (by omega)
      have h16 : 2 * n ≤ 32 := by rw [hn]; omega
      have hsq := sylP_sq j
      rw [← hn] at hsq
      have HPW := Lib.hid (show 2 * n = 2 ^ (j + 1) by rw [hn, hle2])
      have HLL := Lib.hid (show (prodH sylB (sylP j)).length = 2 * n from (prodH_sq sylB_sq hsq h1).1)
      have HK := Lib.hid (show sylP (j + 1) = prodH sylB (sylP j) from rfl)
      have hl1 := OI.lit wr wr.heap.size 2 [1, 1] (Nat.le_refl _) (by simp) (fun u hu => by simp at hu; rw [hu]; unfold I64; omega)
      have hl2 := OI.lit (wr.alloc (.cells #[.int .i64 1, .int .i64 1] 2)) (wr.heap.size + 1) 2 [1, -1] (by simp) (by simp) (fun u hu => by simp at hu; rcases hu with rfl | rfl <;> (unfold I64; omega))
      have z1 : (wr.alloc (.cells #[.int .i64 1, .int .i64 1] 2)).heap.size = wr.heap.size + 1 := by simp
      have hb1 := below_alloc wr (.cells #[.int .i64 1, .int .i64 1] 2)
      have hb2 := below_alloc (wr.alloc (.cells #[.int .i64 1, .int .i64 1] 2)) (.cells #[.int .i64 1, .int .i64 (-1)] 2)
      have hr3 := RR.twoH ((hl1.reads).keep hb2) (hl2.reads) (n1 := 2) (n2 := 2) (c1 := 2) (c2 := 2) (by omega) (by omega) (by omega) (by omega)
      have hb12 := below_then hb1 hb2
      rw [z1] at hr3
      have hb3 := below_alloc ((wr.alloc (.cells #[.int .i64 1, .int .i64 1] 2)).alloc (.cells #[.int .i64 1, .int .i64 (-1)] 2)) (.cells #[.slice (some ⟨wr.heap.size, 0, none⟩) 2 2, .slice (some ⟨wr.heap.size + 1, 0, none⟩) 2 2] 36)
      have hb123 := below_then hb12 hb3
      clear hn hle hle2
      have z2 : ((wr.alloc (.cells #[.int .i64 1, .int .i64 1] 2)).alloc (.cells #[.int .i64 1, .int .i64 (-1)] 2)).heap.size = wr.heap.size + 1 + 1 := by simp
      rw [z2] at hr3
      have hph := l15Product_any (some ⟨wr.heap.size + 1 + 1, 0, none⟩) A 2 2 n c sylB (sylP j) _ hr3 ((ho.reads).keep hb123) sylB_sq hsq h1 (by omega) (by omega) (by omega)
      have hw3 := hb.trans (hb123.mono hbs)
      have hws := hw3.size
      rw [← HK.out] at hph HLL
      clear hl1 hl2 z1 z2 hb1 hb2 hr3 hb12 hb3 hb123
      go_wp2_with fail
      refine hph.mono ?_
      rintro e w5 ⟨R, rn, rc, rfl, hor, hb5⟩
      have hrl := OR.len hor
      rw [HLL.out] at hrl
      have hor5 := hor.more hws
      have hw5 := hw3.trans (hb5.mono hws)
      clear hph hor hb5 hw3 hws ho hb
      go_wp2
      go_round
      case rel => exact ⟨j + 1, R, rn, rc, by omega, by go_num, by rw [← hrl]; exact HPW.out, rfl, hor5, hw5⟩
      case measure => simp only [intOf]; omega
    · obtain rfl : j = k := by omega
      go_wp2
      go_ret
      exact ⟨A, n, c, rfl, ho, hb⟩
set_option maxRecDepth 100000 in
set_option maxHeartbeats 4000000 in
theorem specSylvester_any (k : Nat) (w : World) (hk : k ≤ 5) : Calls Tryz.prog 80 #[.int .i64 k] w (RetRC w 36 2 (sylP k) 0) := by
  have hin := l00In_any k 0 5 w
  rw [inB_mk ⟨by omega, by omega⟩] at hin
  have hsy := l15Sylvester_any k w (by omega)
  go_enter Tryz.func80, Tryz.ntmps80
  go_wp2_with fail
  refine hin.mono ?_
  rintro e w1 ⟨rfl, rfl⟩
  clear hin
  go_wp2_with fail
  refine hsy.mono ?_
  rintro e w1 ⟨A, n, c, rfl, ho, hb⟩
  clear hsy
  go_wp2
  go_ret2
  exact ⟨_, _, _, rfl, ho, hb⟩
/-! squares of the field of 27 elements -/
def fsqS (a : Nat) : List Int := match a with
  | 0 => []
  | a + 1 => putG sgnI (fsqS a) (mulP 3 3 [1, 2, 0, 1] ((a : Int) + 1) ((a : Int) + 1))
theorem fsqS_len (a : Nat) : (fsqS a).length ≤ a := by
  induction a with
  | zero => exact Nat.le_refl _
  | succ a ih => have := putG_len (c := sgnI) (fsqS a) (mulP 3 3 [1, 2, 0, 1] ((a : Int) + 1) ((a : Int) + 1)); rw [fsqS]; omega
theorem fsqS_mem : ((List.range 27).all fun z => memB (fsqS 26) (z : Int) == memB L26 (z : Int)) = true := by decide +kernel
theorem fsqS_at {z : Int} (h0 : 0 ≤ z) (h : z < 27) : memB (fsqS 26) z = memB L26 z := by
  have := List.all_eq_true.1 fsqS_mem z.toNat (List.mem_range.2 (by omega))
  rw [Int.toNat_of_nonneg h0] at this
  exact of_decide_eq_true (by simpa using this)
set_option maxRecDepth 100000 in
set_option maxHeartbeats 4000000 in
theorem l03Squares_27 (g : Nat) (A : Option Addr) (n c : Nat) (w : World) (h : FAt w g 3 (3 : Nat) A n c [1, 2, 0, 1]) (hf : FldOk 3 3 [1, 2, 0, 1]) :
    Calls Tryz.prog 169 #[.pointer (some ⟨g, 0, none⟩)] w (RetI w 2 (fsqS 26)) := by
  have hb0 := below_alloc w (.cells #[] 2)
  have ho0 := OI.lit0 w 2
  have HSZ := Lib.hid (fun (W : World) (hb : Below w.heap.size w W) => show Calls Tryz.prog 197 #[.pointer (some ⟨g, 0, none⟩)] W (Quiet W (.int .i64 27)) from l03Size_any g 3 3 A n c _ W (h.keep hb) (by omega) (by omega) (by omega))
  have HMU := Lib.hid (fun (W : World) (x : Int) (hb : Below w.heap.size w W) (h0 : 0 ≤ x) (h1 : x ≤ 64) => l03Mul_any g 3 3 A n c _ x x W (h.keep hb) hf ⟨h0, h1⟩ ⟨h0, h1⟩)
  have HBD := Lib.hid (fun (x : Int) => mulP_bd (p := 3) (by omega) 3 [1, 2, 0, 1] x x)
  clear hf h
  go_enter Tryz.func169, Tryz.ntmps169
  go_wp2
  generalize w.alloc (.cells #[] 2) = W0 at *
  go_loopw [3, 4] (fun ov av wr => ∃ (a : Nat) (B : Option Addr) (k cc : Nat), a ≤ 26 ∧ av = .int .i64 ((a + 1 : Nat) : Int) ∧ ov = .slice B k cc ∧ OI wr w.heap.size 2 B k cc (fsqS a) ∧ Below w.heap.size w wr) (fun _ av _ => 27 - (intOf av).toNat)
  case atStart => exact ⟨0, _, 0, 0, by omega, rfl, rfl, ho0, hb0⟩
  case round =>
    clear ho0 hb0
    obtain ⟨a, B, k, cc, ha, rfl, rfl, ho, hb⟩ := hrel
    have hsz := HSZ.out wr hb
    go_wp2_with fail
    refine hsz.mono ?_
    rintro e w1 ⟨rfl, hd⟩
    have ho1 := ho.below hd.below
    have hb1 := hb.trans (hd.below.mono hb.size)
    clear hsz hd ho hb
    by_cases hlt : a < 26
    · have hmu := HMU.out w1 ((a : Int) + 1) hb1 (by omega) (by omega)
      obtain ⟨m0, m1⟩ := HBD.out ((a : Int) + 1)
      have HM : Hid (fsqS (a + 1) = putG sgnI (fsqS a) (mulP 3 3 [1, 2, 0, 1] ((a : Int) + 1) ((a : Int) + 1))) := Lib.hid rfl
      generalize mulP 3 3 [1, 2, 0, 1] ((a : Int) + 1) ((a : Int) + 1) = z at *
      have hnl := ho1.len
      have hsl := fsqS_len a
      have hk : k ≤ 26 := by omega
      clear hnl hsl
      go_wp2_with fail
      refine hmu.mono ?_
      rintro e w2 ⟨rfl, hb2⟩
      have ho2 := ho1.below hb2
      have hb3 := hb1.trans (hb2.mono hb1.size)
      clear hmu hb2 ho1 hb1
      have hpu := l00Put_any B k cc _ z w2 ho2.reads (by omega) ⟨by omega, by omega⟩
      rw [← HM.out] at hpu
      clear HM
      go_wp2_with fail
      refine hpu.mono ?_
      rintro e w3 ⟨A3, n3, c3, rfl, ho3, hb4⟩
      have ho4 := ho3.more hb3.size
      have hb5 := hb3.trans (hb4.mono hb3.size)
      clear hpu ho3 hb4 ho2 hb3
      go_wp2
      exact ⟨⟨a + 1, A3, n3, c3, by omega, by go_num, rfl, ho4, hb5⟩, by simp only [intOf]; omega⟩
    · obtain rfl : a = 26 := by omega
      go_wp2
      go_ret
      exact ⟨_, _, _, rfl, ho1, hb1⟩
set_option maxRecDepth 100000 in
set_option maxHeartbeats 8000000 in
theorem l15Paley_27 (w : World) : Calls Tryz.prog 130 #[.int .i64 27] w (RetR w 36 2 H28) := by
  obtain ⟨hm, hq, hmp⟩ := q27
  have hmk := l03Make_any hm 27 w (by decide)
  obtain ⟨hfz, hfl⟩ := mkP_ok hm
  rw [hmp] at hmk hfz
  have HFO := Lib.hid (show FldOk 3 3 [1, 2, 0, 1] from by have := hfz.2; rwa [Int.toNat_natCast] at this)
  have HSB := Lib.hid (fun (x y : Int) => show 0 ≤ sumP 3 3 2 y x ∧ sumP 3 3 2 y x < 27 from sumP_bd (p := 3) (by omega) 3 2 y x)
  have HSL := Lib.hid (fsqS_len 26)
  have HP0 := Lib.hid (fun (y : Nat) => show palC0 0 y = 1 from by simp [palC0])
  have HPX := Lib.hid (fun (x : Nat) => show palC0 x 0 = 1 from by simp [palC0])
  have HPC := Lib.hid (fun (x y : Nat) => show palC0 (x + 1) (y + 1) = if memB L26 (sumP 3 3 2 (y : Int) (x : Int)) then 1 else -1 from by
    unfold palC0
    rw [if_neg (by omega)]
    simp)
  have H28 := Lib.hid H28_ok
  rw [← H28.out]
  clear hfz hfl hmp hq hm
  go_enter Tryz.func130, Tryz.ntmps130
  go_wp2_with fail
  refine hmk.mono ?_
  rintro e w1 ⟨A, n, c, rfl, hof, hb1⟩
  have G1 := Blk.new w1 135 #[.int .i64 3, .int .i64 3, .slice A n c]
  have ha1 := below_alloc w1 (.cells #[.int .i64 3, .int .i64 3, .slice A n c] 135)
  have hr1 := (hof.reads).keep ha1
  have hw1 := hb1.trans (ha1.mono hb1.size)
  have hFA : FAt (w1.alloc (.cells #[.int .i64 3, .int .i64 3, .slice A n c] 135)) w1.heap.size 3 (3 : Nat) A n c [1, 2, 0, 1] := ⟨G1.cell 0, G1.cell 1, G1.cell 2, hr1⟩
  have hsq := l03Squares_27 _ A n c _ hFA HFO.out
  clear hmk hof hb1 ha1 hr1 G1
  go_wp2_with fail
  generalize w1.alloc (.cells #[.int .i64 3, .int .i64 3, .slice A n c] 135) = V0 at *
  generalize w1.heap.size = gf at *
  refine hsq.mono ?_
  rintro e V1 ⟨S, sn, sc, rfl, hos, hb2⟩
  have hrs := hos.reads
  have hFA := hFA.keep hb2
  have hw2 := hw1.trans (hb2.mono hw1.size)
  have hsl := hos.len
  have hs26 : sn ≤ 26 := by have := HSL.out; omega
  clear hsq hos hb2 hw1 hsl
  have HG := Lib.hid (fun (W : World) (h : Below V1.heap.size V1 W) => And.intro (hFA.keep h) (hrs.keep h))
  have ho1 := OI.lit V1 V1.heap.size 2 [1] (Nat.le_refl _) (by simp) (fun u hu => by simp at hu; rw [hu]; unfold I64; omega)
  have hb3 := below_alloc V1 (.cells (ints [1]).toArray 2)
  clear hFA hrs
  go_wp2
  go_loopw [5, 6] (fun fv xv wr => ∃ (x : Nat) (R : Option Addr) (rc : Nat), x ≤ 27 ∧ xv = .int .i64 x ∧ fv = .slice R (x + 1) rc ∧ OI wr V1.heap.size 2 R (x + 1) rc (fillR palC0 0 (x + 1)) ∧ Below V1.heap.size V1 wr) (fun _ xv _ => 27 - (intOf xv).toNat)
  case atStart => exact ⟨0, _, 1, Nat.zero_le _, rfl, rfl, ho1, hb3⟩
  case round =>
    clear ho1 hb3
    obtain ⟨x, R, rc, hx, rfl, rfl, hor, hbr⟩ := hrel
    by_cases hlx : x < 27
    · have HST : Hid (fillR palC0 0 (x + 1 + 1) = fillR palC0 0 (x + 1) ++ [1]) := Lib.hid (by rw [fillR_step, HP0.out])
      have hbrs := hbr.size
      go_wp2_with (at_builtin; refine app_int _ rfl _ _ rfl V1.heap.size R (x + 1) rc _ rfl hor 1 wr.heap.size rfl rfl ⟨by omega, by omega⟩ (by omega) (by omega) ?_; intro A5 c5 w5 ho5 hg5 hf5; have hb5 := below_own hbr hg5 (by omega) (fun b hb => (hor.os.lt hb).1); rw [← HST.out] at ho5)
      exact ⟨⟨x + 1, A5, c5, by omega, by go_num, rfl, ho5, hb5⟩, by simp only [intOf]; omega⟩
    · obtain rfl : x = 27 := by omega
      have hoL := ORv.litH (v := (R, 28, rc)) hor hbr.size
      have hbL := hbr.alloc hbr.size (.cells #[.slice R 28 rc] 36)
      have G0 : Grw V1 _ _ 1 1 (fillS palC0 28 1) := ⟨⟨_, hoL⟩, hbL⟩
      clear hoL hbL hor hbr
      go_wp2
      go_loopw [7, 8] (fun ov xv wr => ∃ (x : Nat) (P : Option Addr) (pc : Nat), x ≤ 27 ∧ xv = .int .i64 x ∧ ov = .slice P (x + 1) pc ∧ Grw V1 wr P (x + 1) pc (fillS palC0 28 (x + 1))) (fun _ xv _ => 27 - (intOf xv).toNat)
      case atStart => exact ⟨0, _, 1, Nat.zero_le _, rfl, rfl, G0⟩
      case round =>
        clear G0
        obtain ⟨x, P, pc, hx, rfl, rfl, G⟩ := hrel
        by_cases hlx : x < 27
        · have hlxi : (x : Int) < 27 := by omega
          have ho1 := OI.lit wr wr.heap.size 2 [1] (Nat.le_refl _) (by simp) (fun u hu => by simp at hu; rw [hu]; unfold I64; omega)
          have hb3 := below_alloc wr (.cells (ints [1]).toArray 2)
          have HR1 : Hid (fillR palC0 (x + 1) 1 = [1]) := Lib.hid (by simp [fillR, HPX.out])
          go_wp2
          generalize hW : wr = W1 at *
          clear hW
          go_loopw [9, 10] (fun rv yv wr => ∃ (y : Nat) (R : Option Addr) (rc : Nat), y ≤ 27 ∧ yv = .int .i64 y ∧ rv = .slice R (y + 1) rc ∧ OI wr W1.heap.size 2 R (y + 1) rc (fillR palC0 (x + 1) (y + 1)) ∧ Below W1.heap.size W1 wr) (fun _ yv _ => 27 - (intOf yv).toNat)
          case atStart => exact ⟨0, _, 1, Nat.zero_le _, rfl, rfl, by rw [HR1.out]; exact ho1, hb3⟩
          case round =>
            clear ho1 hb3 HR1
            obtain ⟨y, R, rc, hy, rfl, rfl, hor, hbr⟩ := hrel
            by_cases hly : y < 27
            · have hlyi : (y : Int) < 27 := by omega
              have hbG := G.2
              have hwr := hbG.trans (hbr.mono hbG.size)
              obtain ⟨hFW, hRW⟩ := HG.out _ hwr
              have hc0 := hFW.c0
              have hsu := l03Sum_any gf 3 3 A n c _ (y : Int) (x : Int) 2 wr hFW (by omega) (by omega) (by omega) (by omega) ⟨by omega, by omega⟩ ⟨by omega, by omega⟩ ⟨by omega, by omega⟩
              obtain ⟨s0, s1⟩ := HSB.out (x : Int) (y : Int)
              have HST : Hid (fillR palC0 (x + 1) (y + 1 + 1) = fillR palC0 (x + 1) (y + 1) ++ [if memB L26 (sumP 3 3 2 (y : Int) (x : Int)) then 1 else -1]) := Lib.hid (by rw [fillR_step, HPC.out])
              have HHA := Lib.hid (fun (W : World) (h : Below wr.heap.size wr W) => l00Has_any S sn sc _ (sumP 3 3 2 (y : Int) (x : Int)) W (hRW.keep h) (by omega))
              have hfa := fsqS_at s0 s1
              rw [← memB_tB] at hfa
              rw [← hfa] at HST
              clear hFW hRW hbG hwr hfa
              generalize sumP 3 3 2 (y : Int) (x : Int) = s at *
              go_wp2_with fail
              refine hsu.mono ?_
              rintro e w6 ⟨rfl, hb6⟩
              have hha := HHA.out _ hb6
              have hor6 := hor.below hb6
              have hbr6 := hbr.trans (hb6.mono hbr.size)
              have hbs6 := hbr6.size
              clear hsu HHA hb6 hor hbr hc0
              go_wp2_with fail
              refine hha.mono ?_
              rintro e w7 ⟨rfl, rfl⟩
              clear hha
              cases hbb : tB (s ∈ fsqS 26) with
              | true =>
                rw [hbb] at HST
                go_wp2_with (at_builtin; refine app_int _ rfl _ _ rfl W1.heap.size R (y + 1) rc _ rfl hor6 1 w6.heap.size rfl rfl ⟨by omega, by omega⟩ (by omega) (by omega) ?_; intro A5 c5 w5 ho5 hg5 hf5; have hb5 := below_own hbr6 hg5 (by omega) (fun b hb => (hor6.os.lt hb).1))
                go_round
                case rel => exact ⟨y + 1, A5, c5, by omega, by go_num, rfl, by rw [HST.out]; exact ho5, hb5⟩
                case measure => simp only [intOf]; omega
              | false =>
                rw [hbb] at HST
                go_wp2_with (at_builtin; refine app_int _ rfl _ _ rfl W1.heap.size R (y + 1) rc _ rfl hor6 (-1) w6.heap.size rfl rfl ⟨by omega, by omega⟩ (by omega) (by omega) ?_; intro A5 c5 w5 ho5 hg5 hf5; have hb5 := below_own hbr6 hg5 (by omega) (fun b hb => (hor6.os.lt hb).1))
                go_round
                case rel => exact ⟨y + 1, A5, c5, by omega, by go_num, rfl, by rw [HST.out]; exact ho5, hb5⟩
                case measure => simp only [intOf]; omega
            · obtain rfl : y = 27 := by omega
              obtain ⟨vs, G⟩ := G.row hor hbr
              have hlw := G.b.size
              have HST := Lib.hid (fillS_step palC0 28 (x + 1))
              clear hor hbr
              have G : GrwR V1 wr P (x + 1) pc vs _ R 28 rc (fillR palC0 (x + 1) 28) := G
              generalize fillR palC0 (x + 1) 28 = tr at *
              go_wp2_with (at_builtin; refine app_row _ rfl _ _ rfl V1.heap.size P (x + 1) pc vs _ rfl G.o (R, 28, rc) tr G.r G.ap _ rfl rfl (by omega) hlw ?_; intro A7 c7 w7 ho7 hg7 hn7)
              have G := G.done ho7 hg7
              clear ho7 hg7 hn7
              exact ⟨⟨x + 1, A7, c7, by omega, by go_num, rfl, by rw [HST.out]; exact G⟩, by simp only [intOf]; omega⟩
        · obtain rfl : x = 27 := by omega
          have hbb := hw2.trans (G.2.mono hw2.size)
          have hoo := G.1.more hw2.size
          go_wp2
          go_ret
          exact ⟨_, _, _, rfl, hoo, hbb⟩
set_option maxRecDepth 100000 in
set_option maxHeartbeats 4000000 in
theorem specPaley_27 (w : World) : Calls Tryz.prog 81 #[.int .i64 27] w (RetRC w 36 2 H28 0) := by
  have hsp := l03Split_t 27 w (by omega) (by omega)
  have hs3 : splS 27 = 3 := by decide +kernel
  rw [hs3] at hsp
  have hpa := l15Paley_27 w
  go_enter Tryz.func81, Tryz.ntmps81
  go_wp2_with fail
  refine hsp.mono ?_
  rintro e w1 ⟨sk, rfl, rfl⟩
  clear hsp
  go_wp2_with fail
  refine hpa.mono ?_
  rintro e w1 ⟨A, n, c, rfl, ho, hb⟩
  clear hpa
  go_wp2
  go_ret2
  exact ⟨_, _, _, rfl, ho, hb⟩
set_option maxRecDepth 100000 in
set_option maxHeartbeats 4000000 in
theorem l15Normal_any (m : Nat) (A : Option Addr) (n c : Nat) (h : List (List Int)) (w : World) (hr : RR w A n h) (H : HadS m h) (hm : m ≤ 31) :
    Calls Tryz.prog 132 #[.slice A n c] w (RetR w 36 2 h) := by
  have hla := hr.len
  have hn : n = m + 1 := by rw [← hla, H.len]
  have hRL : ∀ i, i < m + 1 → (row h i).length = m + 1 := fun i hi => by
    have := (H.had.2.2.1 i (by rw [H.len]; exact hi)).1
    rw [this, H.len]
  have hce : cells h ≤ 1099511627776 := by
    have := cells_le3 (bs := h) (fun b hb => by
      obtain ⟨i, hi, rfl⟩ := List.mem_iff_getElem.1 hb
      have := hRL i (by rw [← H.len]; exact hi)
      rw [row_get hi] at this
      omega)
    omega
  have hown := l17Own_any A n c h w hr (by omega) hce
  have HRL := Lib.hid hRL
  have HC0 := Lib.hid H.c0
  have HR0 := Lib.hid H.r0
  have HLN := Lib.hid H.len
  clear hRL hce H hr hla
  subst hn
  go_enter Tryz.func132, Tryz.ntmps132
  go_wp2_with fail
  refine hown.mono ?_
  rintro e w1 ⟨B, bn, bc, rfl, ho, hb1⟩
  clear hown
  have hrr := OR.reads ho
  have hbn : bn = m + 1 := by
    have := hrr.len
    have := HLN.out
    omega
  subst hbn
  go_wp2
  go_loopw [3, 4] (fun ov iv wr => ∃ (i : Nat), i ≤ m + 1 ∧ iv = .int .i64 i ∧ ov = .slice B (m + 1) bc ∧ Below w1.heap.size w1 wr) (fun _ iv _ => m + 1 - (intOf iv).toNat)
  case atStart => exact ⟨0, by omega, rfl, rfl, Below.refl _ _⟩
  case round =>
    obtain ⟨i, hi, rfl, rfl, hb⟩ := hrel
    by_cases hlt : i < m + 1
    · obtain ⟨ad, S, sn, sc, rfl, cs, _, _, hri⟩ := (hrr.keep hb).get (k := 0) (by omega)
      have hsn : sn = m + 1 := by rw [← hri.len, HRL.out 0 (by omega)]
      subst hsn
      obtain ⟨a1, rfl, x1, _⟩ := hri.get hlt
      rw [HC0.out i hlt] at x1
      have cs : wr.cell? ad = some (.slice (some a1) (m + 1) sc) := cs
      clear hri
      go_wp2
      exact ⟨⟨i + 1, by omega, by go_num, rfl, hb⟩, by simp only [intOf]; omega⟩
    · obtain rfl : i = m + 1 := by omega
      go_wp2
      go_loopw [3, 5] (fun ov iv wr => ∃ (i : Nat), 1 ≤ i ∧ i ≤ m + 1 ∧ iv = .int .i64 i ∧ ov = .slice B (m + 1) bc ∧ Below w1.heap.size w1 wr) (fun _ iv _ => m + 1 - (intOf iv).toNat)
      case atStart => exact ⟨1, by omega, by omega, rfl, rfl, hb⟩
      case round =>
        clear hb
        obtain ⟨i, hi1, hi, rfl, rfl, hb⟩ := hrel
        by_cases hlt : i < m + 1
        · obtain ⟨ad, S, sn, sc, rfl, cs, _, _, hri⟩ := (hrr.keep hb).get (k := i) (by omega)
          have hsn : sn = m + 1 := by rw [← hri.len, HRL.out i (by omega)]
          subst hsn
          obtain ⟨a1, rfl, x1, _⟩ := hri.get (k := 0) (by omega)
          rw [HR0.out i (by omega)] at x1
          have x1 : wr.cell? a1 = some (.int .i64 1) := x1
          clear hri
          go_wp2
          exact ⟨⟨i + 1, by omega, by omega, by go_num, rfl, hb⟩, by simp only [intOf]; omega⟩
        · obtain rfl : i = m + 1 := by omega
          have hoo := ho.below hb
          have hbb := hb1.trans (hb.mono hb1.size)
          go_wp2
          go_ret
          exact ⟨_, _, _, rfl, hoo, hbb⟩
set_option maxRecDepth 100000 in
set_option maxHeartbeats 8000000 in
theorem specDesignOfHadamard_any (m : Nat) (A : Option Addr) (n c : Nat) (h : List (List Int)) (w : World) (hr : RR w A n h) (H : HadS m h) (h3 : 3 ≤ m) (hm : m ≤ 31) :
    Calls Tryz.prog 82 #[.slice A n c] w (RetW w m (srtR (hdS h m)) 0) := by
  have hb0 := below_alloc w (.cells #[.int .i64 0, .slice none 0 0] 28)
  have Y := Blk.new w 28 #[.int .i64 0, .slice none 0 0]
  have hz0 : (w.alloc (.cells #[.int .i64 0, .slice none 0 0] 28)).heap.size = w.heap.size + 1 := by simp
  have hla := hr.len
  have hn : n = m + 1 := by rw [← hla, H.len]
  have hok := l15Ok_any A n c h (w.alloc (.cells #[.int .i64 0, .slice none 0 0] 28)) (hr.keep hb0) (by omega)
  rw [tB_yes H.had] at hok
  have HRL := Lib.hid (fun i (hi : i < m + 1) => show (row h i).length = m + 1 from by
    have := (H.had.2.2.1 i (by rw [H.len]; exact hi)).1
    rw [this, H.len])
  have HNO := Lib.hid (fun (W : World) (hb : Below w.heap.size w W) => l15Normal_any m A n c h W (hr.keep hb) H hm)
  have HBK := Lib.hid H.blk
  have HLN := Lib.hid H.len
  clear H hr hla
  subst hn
  go_enter Tryz.func82, Tryz.ntmps82
  go_wp2_with fail
  generalize w.alloc (.cells #[.int .i64 0, .slice none 0 0] 28) = W0 at *
  refine hok.mono ?_
  rintro e w1 ⟨rfl, hd1⟩
  have Y1 := Y.after hd1.below
  have hw1 := hb0.trans (hd1.below.mono hb0.size)
  have hs1 : w.heap.size + 1 ≤ w1.heap.size := by have := hd1.below.size; omega
  have hno := HNO.out w1 hw1
  clear hok hb0 hd1 Y HNO
  go_wp2_with fail
  refine hno.mono ?_
  rintro e w2 ⟨B, bn, bc, rfl, ho, hb2⟩
  have hrr := OR.reads ho
  have hbn : bn = m + 1 := by
    have := hrr.len
    have := HLN.out
    omega
  subst hbn
  have Y2 := Y1.after hb2
  have hw2 := hw1.trans (hb2.mono hw1.size)
  have hs2 : w.heap.size + 1 ≤ w2.heap.size := by have := hb2.size; omega
  clear hno hb2 hw1 Y1 ho
  have G0 := Grw.start w2 w2 (Below.refl _ _)
  have HG := Lib.hid (fun (W : World) (hb : Below w2.heap.size w2 W) => hrr.keep hb)
  clear hrr
  go_wp2
  go_loopw [5, 6] (fun ov iv wr => ∃ (i q : Nat) (P : Option Addr) (pc : Nat), i ≤ m ∧ Hid (q = i + 1) ∧ iv = .int .i64 q ∧ ov = .slice P i pc ∧ Grw w2 wr P i pc (hdS h i)) (fun _ iv _ => m + 1 - (intOf iv).toNat)
  case atStart => exact ⟨0, 1, _, 0, Nat.zero_le _, Lib.hid rfl, rfl, rfl, G0⟩
  case round =>
    clear G0
    obtain ⟨i, q, P, pc, hi, HQ, rfl, rfl, G⟩ := hrel
    by_cases hli : i < m
    · have hb2 := below_alloc wr (.cells #[] 2)
      have ho2 := OI.lit0 wr 2
      have hq1 : q ≤ m := by have := HQ.out; omega
      have hql : (q : Int) < (m : Int) + 1 := by omega
      have HST : Hid (hdS h (i + 1) = hdS h i ++ [posS (row h q) m]) := Lib.hid (by rw [hdS_step, HLN.out, HQ.out]; rfl)
      go_wp2
      generalize hW : wr = W1 at *
      clear hW
      generalize W1.alloc (.cells #[] 2) = W2 at *
      go_loopw [7, 8] (fun rv kv wr => ∃ (k r : Nat) (R : Option Addr) (rn rc : Nat), k ≤ m ∧ Hid (r = k + 1) ∧ kv = .int .i64 r ∧ rv = .slice R rn rc ∧ OI wr W1.heap.size 2 R rn rc (posS (row h q) k) ∧ Below W1.heap.size W1 wr) (fun _ kv _ => m + 1 - (intOf kv).toNat)
      case atStart => exact ⟨0, 1, _, 0, 0, Nat.zero_le _, Lib.hid rfl, rfl, rfl, ho2, hb2⟩
      case round =>
        clear ho2 hb2
        obtain ⟨k, r, R, rn, rc, hk, HK, rfl, rfl, hor, hbr⟩ := hrel
        by_cases hlk : k < m
        · have hr1 : r ≤ m ∧ 1 ≤ r := by have := HK.out; omega
          have hrl : (r : Int) < (m : Int) + 1 := by omega
          have hbG := G.2
          have hwr := hbG.trans (hbr.mono hbG.size)
          obtain ⟨ad, S, sn, sc, rfl, cs, _, _, hri⟩ := (HG.out _ hwr).get (k := q) (by omega)
          have hsn : sn = m + 1 := by rw [← hri.len, HRL.out q (by omega)]
          subst hsn
          obtain ⟨a1, rfl, x1, _⟩ := hri.get (k := r) (by omega)
          have hrl := hor.len
          have hpl := posS_len (row h q) k
          have hrn : rn ≤ m := by omega
          have hbs := hbr.size
          clear hri hbG hwr hrl hpl
          by_cases hps : 0 < nth (row h q) r
          · have HY : Hid (posS (row h q) (k + 1) = posS (row h q) k ++ [(r : Int) - 1]) := Lib.hid (by rw [HK.out] at hps ⊢; rw [posS_yes hps]; simp)
            generalize nth (row h q) r = z at *
            go_wp2_with (at_builtin; refine app_int _ rfl _ _ rfl W1.heap.size R rn rc _ rfl hor ((r : Int) - 1) wr.heap.size rfl rfl ⟨by omega, by omega⟩ (by omega) (by omega) ?_; intro A5 c5 w5 ho5 hg5 hf5; have hb5 := below_own hbr hg5 (by omega) (fun b hb => (hor.os.lt hb).1); rw [← HY.out] at ho5)
            go_round
            case rel => exact ⟨k + 1, r + 1, A5, rn + 1, c5, by omega, Lib.hid (by rw [HK.out]), by go_num, rfl, ho5, hb5⟩
            case measure => simp only [intOf]; omega
          · have HY : Hid (posS (row h q) (k + 1) = posS (row h q) k) := Lib.hid (by rw [HK.out] at hps; exact posS_no hps)
            generalize nth (row h q) r = z at *
            rw [← HY.out] at hor
            go_wp2
            exact ⟨⟨k + 1, r + 1, R, rn, rc, by omega, Lib.hid (by rw [HK.out]), by go_num, rfl, hor, hbr⟩, by simp only [intOf]; omega⟩
        · obtain rfl : k = m := by omega
          have hr2 : k + 1 ≤ r := by have := HK.out; omega
          obtain ⟨vs, G⟩ := G.row hor hbr
          have hlw := G.b.size
          clear hor hbr
          generalize posS (row h q) k = tr at *
          go_wp2_with (at_builtin; refine app_row _ rfl _ _ rfl w2.heap.size P i pc vs _ rfl G.o (R, rn, rc) tr G.r G.ap _ rfl rfl (by omega) hlw ?_; intro A7 c7 w7 ho7 hg7 hn7)
          have G := G.done ho7 hg7
          clear ho7 hg7 hn7
          exact ⟨⟨i + 1, q + 1, A7, c7, by omega, Lib.hid (by rw [HQ.out]), by go_num, rfl, by rw [HST.out]; exact G⟩, by simp only [intOf]; omega⟩
    · obtain rfl : i = m := by omega
      have hq2 : i + 1 ≤ q := by have := HQ.out; omega
      have hmk := l10Make_ok (i : Int) P i pc (hdS h i) wr (OR.reads G.1) (by omega) (by omega) (by omega) (fun r hr => HBK.out _ (by rw [row_get (by rw [hdS_len]; exact hr)]; exact List.getElem_mem _))
      have Y5 := Y2.below G.2 (by omega)
      have hwr := hw2.trans (G.2.mono hw2.size)
      have hDr : w.heap.size + 1 ≤ wr.heap.size := by have := G.2.size; omega
      clear HG HBK G
      go_wp2_with fail
      refine hmk.mono ?_
      rintro e w5 ⟨A5, n5, c5, rfl, ⟨vs5, ho5⟩, hb5⟩
      have Y6 := Y5.after hb5
      have hw5 := hwr.trans (hb5.mono hwr.size)
      obtain ⟨y0, y1⟩ := Y6.cells2
      have f0 := Y6.frozen 0
      have f1 := Y6.frozen 1
      obtain ⟨q0, q1, q2, q3⟩ := fin_storeB (v := (i : Int)) Y6 hw5 ho5 hDr
      have Q := Lib.hid (And.intro q0 q1)
      clear q0 q1 hmk ho5 hb5 Y2 Y5 Y6 hw5 hwr
      go_wp2
      exact bodyPost_ret (v := .tuple #[.agg #[.int .i64 (i : Int), .slice A5 n5 c5], .int .i64 0]) (by simp [results, Tryz.results82, go_sem, q2, q3]) rfl ⟨A5, n5, c5, rfl, ⟨_, Q.out.1⟩, Q.out.2⟩
end Go.Proofs.YtnmcmologlgccaaGreat
