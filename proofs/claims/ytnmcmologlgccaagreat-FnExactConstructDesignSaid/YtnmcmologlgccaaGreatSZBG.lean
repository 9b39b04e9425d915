/- Triple systems: the reference's side. No condition beyond those stated. -/
import Derived.Test.YtnmcmologlgccaaGreatSZBF
set_option linter.unusedVariables false
set_option linter.unusedSimpArgs false
namespace Go.Proofs.YtnmcmologlgccaaGreat
open Go.RowKit
def RetWD (w : World) (v : Int) (bs : List (List Int)) (e : Ending) (w' : World) : Prop := ∃ A n c, e = .returned (.agg #[.int .i64 v, .slice A n c]) ∧ (∃ vs, OB w' w.heap.size A n c vs bs) ∧ Below w.heap.size w w'
theorem fin_storeB {w w5 : World} {B : Nat} {x y : Value} {v : Int} {A : Option Addr} {n c : Nat} {vs : List Sl} {bs : List (List Int)} (Y : Blk w5 w.heap.size 28 #[x, y]) (hb : Below w.heap.size w w5) (ho : OB w5 B A n c vs bs) (hB : w.heap.size + 1 ≤ B) :
    OB ((w5.setCell ⟨w.heap.size, 0, none⟩ (.int .i64 v)).setCell ⟨w.heap.size, 1, none⟩ (.slice A n c)) w.heap.size A n c vs bs ∧ Below w.heap.size w ((w5.setCell ⟨w.heap.size, 0, none⟩ (.int .i64 v)).setCell ⟨w.heap.size, 1, none⟩ (.slice A n c)) ∧
    ((w5.setCell ⟨w.heap.size, 0, none⟩ (.int .i64 v)).setCell ⟨w.heap.size, 1, none⟩ (.slice A n c)).cell? ⟨w.heap.size, 0, none⟩ = some (.int .i64 v) ∧ ((w5.setCell ⟨w.heap.size, 0, none⟩ (.int .i64 v)).setCell ⟨w.heap.size, 1, none⟩ (.slice A n c)).cell? ⟨w.heap.size, 1, none⟩ = some (.slice A n c) := by
  have YF := (Y.set_ 0 (.int .i64 v)).set_ 1 (.slice A n c)
  refine ⟨OB.more ((ho.setLow (p := ⟨w.heap.size, 0, none⟩) (by show w.heap.size < B; omega) _).setLow (p := ⟨w.heap.size, 1, none⟩) (by show w.heap.size < B; omega) _) (by omega), (hb.setCell (p := ⟨w.heap.size, 0, none⟩) (by simp) _).setCell (p := ⟨w.heap.size, 1, none⟩) (by simp) _, YF.cell 0, YF.cell 1⟩
theorem OB.nilW (w : World) (B : Nat) : OB w B none 0 0 [] [] := ⟨OS.nil_ w B _ 1, rfl, fun _ _ _ h => by simp at h⟩
theorem OB.of_orW {w : World} {B : Nat} {A : Option Addr} {n c : Nat} {zss : List (List Int)} (h : OR w B 36 2 A n c zss) : ∃ vs, OB w B A n c vs zss := by
  obtain ⟨vs, h⟩ := h
  exact ⟨vs, h.os, h.len, h.rows⟩
theorem zbL_len {t : Nat} (h : t ≤ 4) : (zbL t).length ≤ 128 := by
  have : (∀ t, t < 5 → (zbL t).length ≤ 128) := by decide +kernel
  exact this t (by omega)
theorem l03Split_t (q : Int) (w : World) (hq : 2 ≤ q) (h : q ≤ 64) : Calls Tryz.prog 122 #[.int .i64 q] w fun e w' => ∃ k : Int, e = .returned (.tuple #[.int .i64 (splS q), .int .i64 k]) ∧ w = w' := by
  refine (l03Split_any q w hq h).mono fun e w' ⟨h1, h2⟩ => ⟨(splF q).2, ?_, h2⟩
  rw [h1, splS, if_pos ⟨hq, h⟩]
set_option maxRecDepth 100000 in
set_option maxHeartbeats 4000000 in
theorem l11Bose_any (t : Nat) (w : World) (ht : t ≤ 4) :
    Calls Tryz.prog 161 #[.int .i64 t] w (RetR w 36 2 (zbL t)) := by
  have G0 := Grw.start w w (Below.refl _ _)
  obtain ⟨n, hn⟩ : ∃ n : Nat, n = 2 * t + 1 := ⟨_, rfl⟩
  have hnt : 2 * (t : Int) + 1 = (n : Int) := by omega
  have hn9 : n ≤ 9 := by omega
  have HN := Lib.hid hn
  have HL0 : Hid (zbL t = [] ++ zbX t 0) := Lib.hid rfl
  have HLN := Lib.hid (zbL_len ht)
  generalize zbL t = L at *
  clear hn
  go_enter Tryz.func161, Tryz.ntmps161
  go_wp2
  clear hnt
  go_loopw [4, 5] (fun ov xv wr => ∃ (x : Nat) (A : Option Addr) (k c : Nat) (done : List (List Int)), x ≤ n ∧ xv = .int .i64 x ∧ ov = .slice A k c ∧ Grw w wr A k c done ∧ Hid (L = done ++ zbX t x)) (fun _ xv _ => n - (intOf xv).toNat)
  case atStart => exact ⟨0, _, 0, 0, _, Nat.zero_le _, rfl, rfl, G0, HL0⟩
  case round =>
    clear G0 HL0
    obtain ⟨a, A, k, c, done, hx, rfl, rfl, G, HD⟩ := hrel
    by_cases hlt : a < n
    · go_wp2_with fail
      refine (l11Block_any _ _ _ _ ?_ ?_ ?_).mono ?_
      · unfold I64; omega
      · unfold I64; omega
      · unfold I64; omega
      rintro e w2 ⟨A2, n2, c2, rfl, ho2, hb2⟩
      rw [blk_eq (a' := ((a : Nat) : Int)) (b' := ((a + (2 * t + 1) : Nat) : Int)) (c' := ((a + 2 * (2 * t + 1) : Nat) : Int)) (by have := HN.out; omega) (by have := HN.out; omega) (by have := HN.out; omega)] at ho2
      have hk := len_left HD.out
      rw [G.1.len] at hk
      have hk := Nat.le_trans hk HLN.out
      obtain ⟨vs, G⟩ := G.row ho2 hb2
      have hlw := G.b.size
      have H3 : Hid (L = (done ++ [blkP (a : Int) ((a + (2 * t + 1) : Nat) : Int) ((a + 2 * (2 * t + 1) : Nat) : Int)]) ++ (zbY t a (a + 1) ++ zbX t (a + 1))) := Lib.hid (by rw [HD.out, zbX_step (by have := HN.out; omega), zbB, List.append_assoc]; rfl)
      clear ho2 hb2 HD
      go_wp2_with (at_builtin; refine app_row _ rfl _ _ rfl w.heap.size A k c vs _ rfl G.o (A2, n2, c2) _ G.r G.ap _ rfl (by simp) (by omega) hlw ?_; intro A3 c3 w3 ho3 hg3 hf3)
      have G := G.done ho3 hg3
      clear ho3 hg3 hf3 hlw hk
      go_loopw [4, 6] (fun ov yv wr => ∃ (y : Nat) (A : Option Addr) (k c : Nat) (done : List (List Int)), a + 1 ≤ y ∧ y ≤ n ∧ yv = .int .i64 y ∧ ov = .slice A k c ∧ Grw w wr A k c done ∧ Hid (L = done ++ (zbY t a y ++ zbX t (a + 1)))) (fun _ yv _ => n - (intOf yv).toNat)
      case atStart => exact ⟨a + 1, A3, k + 1, c3, _, by omega, by omega, by go_num, rfl, G, H3⟩
      case round =>
        clear G H3
        obtain ⟨y, A, k, c, done, hy1, hy, rfl, rfl, G, HD⟩ := hrel
        by_cases hly : y < n
        · have HZ0 := Lib.hid (show zbT t a y = zbT t a y from rfl)
          have hn0 : ¬ n = 0 := by omega
          have hp1 : ((t : Int) + 1) * ((a : Int) + (y : Int)) = (((t + 1) * (a + y) : Nat) : Int) := by push_cast; rfl
          have hp2 : (t + 1) * (a + y) ≤ 5 * 18 := Nat.mul_le_mul (by omega) (by omega)
          have HZ : Hid (zbT t a y = (t + 1) * (a + y) % n) := Lib.hid (by rw [HN.out]; rfl)
          have q1 : (((t + 1) * (a + y) : Nat) : Int).tmod (n : Int) = (((t + 1) * (a + y) % n : Nat) : Int) := by rw [Int.tmod_eq_emod_of_nonneg (by omega), Int.natCast_emod]
          have hz9 : (t + 1) * (a + y) % n < n := Nat.mod_lt _ (by omega)
          generalize (t + 1) * (a + y) % n = z at *
          generalize (t + 1) * (a + y) = M at *
          have H4 : Hid (L = done ++ (zbI t a y 0 ++ (zbY t a (y + 1) ++ zbX t (a + 1)))) := Lib.hid (by rw [HD.out, zbY_step (by have := HN.out; omega), List.append_assoc])
          clear HD HZ0
          go_wp2
          go_loopw [4, 8] (fun ov iv wr => ∃ (i : Nat) (A : Option Addr) (k c : Nat) (done : List (List Int)), i ≤ 3 ∧ iv = .int .i64 i ∧ ov = .slice A k c ∧ Grw w wr A k c done ∧ Hid (L = done ++ (zbI t a y i ++ (zbY t a (y + 1) ++ zbX t (a + 1))))) (fun _ iv _ => 3 - (intOf iv).toNat)
          case atStart => exact ⟨0, A, k, c, _, Nat.zero_le _, rfl, rfl, G, H4⟩
          case round =>
            clear G H4 hp1 q1 hp2
            obtain ⟨i, A, k, c, done, hi, rfl, rfl, G, HD⟩ := hrel
            by_cases hli : i < 3
            · have hk := len_left HD.out
              rw [G.1.len] at hk
              have hk := Nat.le_trans hk HLN.out
              have h3 : i = 0 ∨ i = 1 ∨ i = 2 := by omega
              clear hli hi
              rcases h3 with rfl | rfl | rfl
              · go_wp2_with fail
                refine (l11Block_any _ _ _ _ ?_ ?_ ?_).mono ?_
                · unfold I64; omega
                · unfold I64; omega
                · unfold I64; omega
                rintro e w2 ⟨A2, n2, c2, rfl, ho2, hb2⟩
                rw [blk_eq (a' := ((a + (2 * t + 1) * 0 : Nat) : Int)) (b' := ((y + (2 * t + 1) * 0 : Nat) : Int)) (c' := ((z + (2 * t + 1) * ((0 + 1) % 3) : Nat) : Int)) (by have := HN.out; omega) (by have := HN.out; omega) (by have := HN.out; omega)] at ho2
                obtain ⟨vs, G⟩ := G.row ho2 hb2
                have hlw := G.b.size
                have H5 : Hid (L = (done ++ [blkP ((a + (2 * t + 1) * 0 : Nat) : Int) ((y + (2 * t + 1) * 0 : Nat) : Int) ((z + (2 * t + 1) * ((0 + 1) % 3) : Nat) : Int)]) ++ (zbI t a y (0 + 1) ++ (zbY t a (y + 1) ++ zbX t (a + 1)))) := Lib.hid (by rw [HD.out, zbI_step (by omega), zbR, HZ.out, List.append_assoc]; rfl)
                clear ho2 hb2 HD
                go_wp2_with (at_builtin; refine app_row _ rfl _ _ rfl w.heap.size A k c vs _ rfl G.o (A2, n2, c2) _ G.r G.ap _ rfl (by simp) (by omega) hlw ?_; intro A3 c3 w3 ho3 hg3 hf3)
                have G := G.done ho3 hg3
                clear ho3 hg3 hf3 hlw
                go_roundw
                case rel => exact ⟨1, A3, k + 1, c3, _, by omega, by go_num, rfl, G, H5⟩
                case measure => simp [intOf]
              · go_wp2_with fail
                refine (l11Block_any _ _ _ _ ?_ ?_ ?_).mono ?_
                · unfold I64; omega
                · unfold I64; omega
                · unfold I64; omega
                rintro e w2 ⟨A2, n2, c2, rfl, ho2, hb2⟩
                rw [blk_eq (a' := ((a + (2 * t + 1) * 1 : Nat) : Int)) (b' := ((y + (2 * t + 1) * 1 : Nat) : Int)) (c' := ((z + (2 * t + 1) * ((1 + 1) % 3) : Nat) : Int)) (by have := HN.out; omega) (by have := HN.out; omega) (by have := HN.out; omega)] at ho2
                obtain ⟨vs, G⟩ := G.row ho2 hb2
                have hlw := G.b.size
                have H5 : Hid (L = (done ++ [blkP ((a + (2 * t + 1) * 1 : Nat) : Int) ((y + (2 * t + 1) * 1 : Nat) : Int) ((z + (2 * t + 1) * ((1 + 1) % 3) : Nat) : Int)]) ++ (zbI t a y (1 + 1) ++ (zbY t a (y + 1) ++ zbX t (a + 1)))) := Lib.hid (by rw [HD.out, zbI_step (by omega), zbR, HZ.out, List.append_assoc]; rfl)
                clear ho2 hb2 HD
                go_wp2_with (at_builtin; refine app_row _ rfl _ _ rfl w.heap.size A k c vs _ rfl G.o (A2, n2, c2) _ G.r G.ap _ rfl (by simp) (by omega) hlw ?_; intro A3 c3 w3 ho3 hg3 hf3)
                have G := G.done ho3 hg3
                clear ho3 hg3 hf3 hlw
                go_roundw
                case rel => exact ⟨2, A3, k + 1, c3, _, by omega, by go_num, rfl, G, H5⟩
                case measure => simp [intOf]
              · go_wp2_with fail
                refine (l11Block_any _ _ _ _ ?_ ?_ ?_).mono ?_
                · unfold I64; omega
                · unfold I64; omega
                · unfold I64; omega
                rintro e w2 ⟨A2, n2, c2, rfl, ho2, hb2⟩
                rw [blk_eq (a' := ((a + (2 * t + 1) * 2 : Nat) : Int)) (b' := ((y + (2 * t + 1) * 2 : Nat) : Int)) (c' := ((z + (2 * t + 1) * ((2 + 1) % 3) : Nat) : Int)) (by have := HN.out; omega) (by have := HN.out; omega) (by have := HN.out; omega)] at ho2
                obtain ⟨vs, G⟩ := G.row ho2 hb2
                have hlw := G.b.size
                have H5 : Hid (L = (done ++ [blkP ((a + (2 * t + 1) * 2 : Nat) : Int) ((y + (2 * t + 1) * 2 : Nat) : Int) ((z + (2 * t + 1) * ((2 + 1) % 3) : Nat) : Int)]) ++ (zbI t a y (2 + 1) ++ (zbY t a (y + 1) ++ zbX t (a + 1)))) := Lib.hid (by rw [HD.out, zbI_step (by omega), zbR, HZ.out, List.append_assoc]; rfl)
                clear ho2 hb2 HD
                go_wp2_with (at_builtin; refine app_row _ rfl _ _ rfl w.heap.size A k c vs _ rfl G.o (A2, n2, c2) _ G.r G.ap _ rfl (by simp) (by omega) hlw ?_; intro A3 c3 w3 ho3 hg3 hf3)
                have G := G.done ho3 hg3
                clear ho3 hg3 hf3 hlw
                go_roundw
                case rel => exact ⟨3, A3, k + 1, c3, _, by omega, by go_num, rfl, G, H5⟩
                case measure => simp [intOf]
            · obtain rfl : i = 3 := by omega
              have HD2 : Hid (L = done ++ (zbY t a (y + 1) ++ zbX t (a + 1))) := Lib.hid (by rw [HD.out, zbI_end, List.nil_append])
              go_wp2
              go_roundw
              case rel => exact ⟨y + 1, A, k, c, _, by omega, by omega, by go_num, rfl, G, HD2⟩
              case measure => simp [intOf]; omega
        · have HD2 : Hid (L = done ++ zbX t (a + 1)) := Lib.hid (by rw [HD.out, zbY_end (by have := HN.out; omega), List.nil_append])
          go_wp2
          go_roundw
          case rel => exact ⟨a + 1, A, k, c, _, by omega, by go_num, rfl, G, HD2⟩
          case measure => simp [intOf]; omega
    · have HD2 : Hid (L = done) := Lib.hid (by rw [HD.out, zbX_end (by have := HN.out; omega), List.append_nil])
      obtain ⟨ho, hb⟩ := G
      go_wp2
      go_ret
      exact ⟨_, _, _, rfl, by rw [HD2.out]; exact ho, hb⟩
theorem triS_len {v : Nat} (h : v ∈ [3, 7, 9, 13, 15, 19, 21, 25, 27]) : (triS v).length ≤ 128 ∧ ∀ r ∈ triS v, r.length ≤ 3 := by
  have := List.all_eq_true.1 triS_ok v h
  simp only [triSC, Bool.and_eq_true, decide_eq_true_eq, List.all_eq_true] at this
  exact this
set_option maxRecDepth 100000 in
set_option maxHeartbeats 2000000 in
theorem l11Make_any (v : Nat) (w : World) (hv : v ∈ [3, 7, 9, 13, 15, 19, 21, 25, 27]) :
    Calls Tryz.prog 121 #[.int .i64 v] w (RetWD w v (srtR (triS v))) := by
  have Y := Blk.new w 28 #[.int .i64 0, .slice none 0 0]
  have hb0 := below_alloc w (.cells #[.int .i64 0, .slice none 0 0] 28)
  have hz0 : (w.alloc (.cells #[.int .i64 0, .slice none 0 0] 28)).heap.size = w.heap.size + 1 := by simp
  obtain ⟨hl1, hl2⟩ := triS_len hv
  have h9 : v = 3 ∨ v = 7 ∨ v = 9 ∨ v = 13 ∨ v = 15 ∨ v = 19 ∨ v = 21 ∨ v = 25 ∨ v = 27 := by simpa using hv
  clear hv
  have hSO := fun (A : Option Addr) (n c : Nat) (W : World) (hr : RR W A n (triS v)) => l10Sort_any A n c (triS v) W hr (by have := hr.len; omega) (fun i hi => by
    have := hl2 (row (triS v) i) (by rw [row_get (by rw [hr.len]; exact hi)]; exact List.getElem_mem _)
    omega)
  have HSO := Lib.hid hSO
  clear hSO hl1 hl2
  by_cases h3 : v % 6 = 3
  · have e3 : (v : Int).tmod 6 = 3 := by rw [Int.tmod_eq_emod_of_nonneg (by omega)]; omega
    have e4 : ((v : Int) - 3).tdiv 6 = (((v - 3) / 6 : Nat) : Int) := by rw [Int.tdiv_eq_ediv_of_nonneg (by omega)]; omega
    have hBO := l11Bose_any ((v - 3) / 6) (w.alloc (.cells #[.int .i64 0, .slice none 0 0] 28)) (by omega)
    have HT : Hid (triS v = zbL ((v - 3) / 6)) := Lib.hid (by unfold triS; rw [if_pos h3])
    rw [← HT.out] at hBO
    clear h3
    have hv27 : v ≤ 27 := by omega
    have hv3 : 3 ≤ v := by omega
    clear h9
    go_enter Tryz.func121, Tryz.ntmps121
    go_wp2_with fail
    refine hBO.mono ?_
    rintro e w1 ⟨A, n, c, rfl, ho, hb⟩
    have Y1 := Y.after hb
    have hb1 := below_then hb0 hb
    have hso := HSO.out A n c w1 ho.reads
    have hs1 : w.heap.size + 1 ≤ w1.heap.size := by have := hb.size; omega
    clear hBO hb ho HT e3 e4
    generalize triS v = L at *
    go_wp2_with fail
    refine hso.mono ?_
    rintro e w5 ⟨A5, c5, v5, rfl, ho5, hb5⟩
    have Y6 := Y1.after hb5
    have hw5 := hb1.trans (hb5.mono (by omega))
    obtain ⟨y0, y1⟩ := Y6.cells2
    have f0 := Y6.frozen 0
    have f1 := Y6.frozen 1
    obtain ⟨q0, q1, q2, q3⟩ := fin_storeB (v := (v : Int)) Y6 hw5 ho5 (by omega)
    have Q := Lib.hid (And.intro q0 q1)
    clear q0 q1 hso hb1 hb5 ho5 Y1 Y6 hw5
    go_wp2
    exact bodyPost_ret (v := .agg #[.int .i64 (v : Int), .slice A5 n c5]) (by simp [results, Tryz.results121, go_sem, q2, q3]) rfl ⟨A5, n, c5, rfl, ⟨_, Q.out.1⟩, Q.out.2⟩
  · have h1 : v % 6 = 1 := by rcases h9 with rfl | rfl | rfl | rfl | rfl | rfl | rfl | rfl | rfl <;> simp_all
    have e3 : (v : Int).tmod 6 = 1 := by rw [Int.tmod_eq_emod_of_nonneg (by omega)]; omega
    have e4 : ((v : Int) - 1).tdiv 6 = (((v - 1) / 6 : Nat) : Int) := by rw [Int.tdiv_eq_ediv_of_nonneg (by omega)]; omega
    have hBO := l11Skolem_any ((v - 1) / 6) (w.alloc (.cells #[.int .i64 0, .slice none 0 0] 28)) (by omega)
    have HT : Hid (triS v = skoP ((v - 1) / 6)) := Lib.hid (by unfold triS; rw [if_neg h3])
    rw [← HT.out] at hBO
    have hv27 : v ≤ 27 := by omega
    have hv3 : 3 ≤ v := by omega
    clear h9 h3 h1
    go_enter Tryz.func121, Tryz.ntmps121
    go_wp2_with fail
    refine hBO.mono ?_
    rintro e w1 ⟨A, n, c, rfl, ho, hb⟩
    have Y1 := Y.after hb
    have hb1 := below_then hb0 hb
    have hso := HSO.out A n c w1 ho.reads
    have hs1 : w.heap.size + 1 ≤ w1.heap.size := by have := hb.size; omega
    clear hBO hb ho HT e3 e4
    generalize triS v = L at *
    go_wp2_with fail
    refine hso.mono ?_
    rintro e w5 ⟨A5, c5, v5, rfl, ho5, hb5⟩
    have Y6 := Y1.after hb5
    have hw5 := hb1.trans (hb5.mono (by omega))
    obtain ⟨y0, y1⟩ := Y6.cells2
    have f0 := Y6.frozen 0
    have f1 := Y6.frozen 1
    obtain ⟨q0, q1, q2, q3⟩ := fin_storeB (v := (v : Int)) Y6 hw5 ho5 (by omega)
    have Q := Lib.hid (And.intro q0 q1)
    clear q0 q1 hso hb1 hb5 ho5 Y1 Y6 hw5
    go_wp2
    exact bodyPost_ret (v := .agg #[.int .i64 (v : Int), .slice A5 n c5]) (by simp [results, Tryz.results121, go_sem, q2, q3]) rfl ⟨A5, n, c5, rfl, ⟨_, Q.out.1⟩, Q.out.2⟩
theorem triB_mem : ∀ v : Nat, v < 33 → decide ((v : Int) ∈ ([3, 7, 9, 13, 15, 19, 21, 25, 27] : List Int)) = triB v := by decide +kernel
theorem triB_in : ∀ v : Nat, v < 33 → triB v = true → v ∈ [3, 7, 9, 13, 15, 19, 21, 25, 27] := by decide +kernel
theorem tripleOrders_any (w : World) : Calls Tryz.prog 120 #[] w (RetI w 2 [3, 7, 9, 13, 15, 19, 21, 25, 27]) := by
  have ho := OI.lit w w.heap.size 2 [3, 7, 9, 13, 15, 19, 21, 25, 27] (Nat.le_refl _) (by simp) (by intro x hx; simp at hx; unfold I64; omega)
  have hb0 := below_alloc w (.cells (ints [3, 7, 9, 13, 15, 19, 21, 25, 27]).toArray 2)
  go_enter Tryz.func120, Tryz.ntmps120
  go_wp2
  go_ret
  exact ⟨_, _, _, rfl, ho, hb0⟩
set_option maxRecDepth 100000 in
set_option maxHeartbeats 2000000 in
theorem specMakeTriples_any (v : Nat) (w : World) (hv : v ≤ 32) :
    Calls Tryz.prog 74 #[.int .i64 v] w (if triB v then RetW w v (srtR (triS v)) 0 else RetW w 0 [] 2) := by
  have Y := Blk.new w 28 #[.int .i64 0, .slice none 0 0]
  have hb0 := below_alloc w (.cells #[.int .i64 0, .slice none 0 0] 28)
  have hz0 : (w.alloc (.cells #[.int .i64 0, .slice none 0 0] 28)).heap.size = w.heap.size + 1 := by simp
  have hto := tripleOrders_any (w.alloc (.cells #[.int .i64 0, .slice none 0 0] 28))
  have HM := Lib.hid (triB_mem v (by omega))
  have HI := Lib.hid (triB_in v (by omega))
  cases ht : triB v with
  | true =>
    have hmem := HI.out ht
    rw [if_pos rfl]
    go_enter Tryz.func74, Tryz.ntmps74
    go_wp2_with fail
    refine hto.mono ?_
    rintro e w1 ⟨A, n, c, rfl, ho, hb⟩
    have Y1 := Y.after hb
    have hb1 := below_then hb0 hb
    have hs1 : w.heap.size + 1 ≤ w1.heap.size := by have := hb.size; omega
    have hnl := ho.len
    have hha := l00Has_any A n c _ (v : Int) w1 ho.reads (by simp at hnl; omega)
    rw [tB_decide, HM.out, ht] at hha
    clear hto hb ho hnl HM ht
    go_wp2_with fail
    refine hha.mono ?_
    rintro e w2 ⟨rfl, rfl⟩
    clear hha
    have hmk := l11Make_any v w1 hmem
    clear hmem HI
    go_wp2_with fail
    refine hmk.mono ?_
    rintro e w5 ⟨A5, n5, c5, rfl, ⟨vs, ho5⟩, hb5⟩
    have Y6 := Y1.after hb5
    have hw5 := hb1.trans (hb5.mono (by omega))
    obtain ⟨y0, y1⟩ := Y6.cells2
    have f0 := Y6.frozen 0
    have f1 := Y6.frozen 1
    obtain ⟨q0, q1, q2, q3⟩ := fin_storeB (v := (v : Int)) Y6 hw5 ho5 (by omega)
    have Q := Lib.hid (And.intro q0 q1)
    clear q0 q1 hmk hb1 hb5 ho5 Y1 Y6 hw5
    go_wp2
    exact bodyPost_ret (v := .tuple #[.agg #[.int .i64 (v : Int), .slice A5 n5 c5], .int .i64 0]) (by simp [results, Tryz.results74, go_sem, q2, q3]) rfl ⟨A5, n5, c5, rfl, ⟨_, Q.out.1⟩, Q.out.2⟩
  | false =>
    rw [if_neg (by simp)]
    clear HI
    go_enter Tryz.func74, Tryz.ntmps74
    go_wp2_with fail
    refine hto.mono ?_
    rintro e w1 ⟨A, n, c, rfl, ho, hb⟩
    have Y1 := Y.after hb
    have hb1 := below_then hb0 hb
    have hs1 : w.heap.size + 1 ≤ w1.heap.size := by have := hb.size; omega
    have hnl := ho.len
    have hha := l00Has_any A n c _ (v : Int) w1 ho.reads (by simp at hnl; omega)
    rw [tB_decide, HM.out, ht] at hha
    clear hto hb ho hnl HM ht
    go_wp2_with fail
    refine hha.mono ?_
    rintro e w2 ⟨rfl, rfl⟩
    clear hha
    obtain ⟨y0, y1⟩ := Y1.cells2
    have f0 := Y1.frozen 0
    have f1 := Y1.frozen 1
    obtain ⟨q0, q1, q2, q3⟩ := fin_storeB (v := 0) (A := none) (n := 0) (c := 0) (bs := []) (vs := []) Y1 hb1 (OB.nilW _ (w.heap.size + 1)) (by omega)
    have Q := Lib.hid (And.intro q0 q1)
    clear q0 q1 hb1 Y1
    go_wp2
    exact bodyPost_ret (v := .tuple #[.agg #[.int .i64 0, .slice none 0 0], .int .i64 2]) (by simp [results, Tryz.results74, go_sem, q2, q3]) rfl ⟨none, 0, 0, rfl, ⟨_, Q.out.1⟩, Q.out.2⟩
theorem sloS_rows {q : Nat} {p : Int} {k : Nat} {f : List Int} {m : Nat} {b : List Int} (h : b ∈ sloS q p k f m) : b.length = q := by
  unfold sloS affB at h
  obtain ⟨m, _, h⟩ := List.mem_flatMap.1 h
  obtain ⟨b, _, rfl⟩ := List.mem_map.1 h
  simp [lineS]
theorem affS_rows {q : Nat} {p : Int} {k : Nat} {f : List Int} {b : List Int} (h : b ∈ affS q p k f) : b.length = q := by
  rcases List.mem_append.1 h with h | h
  · unfold verS at h
    obtain ⟨b, _, rfl⟩ := List.mem_map.1 h
    simp [lineV]
  · exact sloS_rows h
theorem affS_len {q : Nat} {p : Int} {k : Nat} {f : List Int} : (affS q p k f).length = q + q * q := by
  have h : ∀ l : List Nat, (l.flatMap fun m => affB q p k f m 0).length = l.length * q := by
    intro l
    induction l with
    | nil => simp
    | cons a l ih => rw [List.flatMap_cons, List.length_append, ih, List.length_cons]; simp [affB, Nat.succ_mul]; omega
  unfold affS verS sloS
  rw [List.length_append, h]
  simp
set_option maxRecDepth 100000 in
set_option maxHeartbeats 8000000 in
theorem l12Plane_any {p : Int} {k : Nat} (hm : (p, k) ∈ PKL) (q : Nat) (w : World) (hq : p ^ k = (q : Int)) (h2 : 2 ≤ q) (h5 : q ≤ 5) :
    Calls Tryz.prog 123 #[.int .i64 q] w (RetWD w ((q * q : Nat) : Int) (srtR (affS q p k (mkP p k)))) := by
  have hb0 := below_alloc w (.cells #[.int .i64 0, .slice none 0 0] 28)
  have Y := Blk.new w 28 #[.int .i64 0, .slice none 0 0]
  have hmk := l03Make_any hm (q : Int) (w.alloc (.cells #[.int .i64 0, .slice none 0 0] 28)) hq
  obtain ⟨hfz, hfl⟩ := mkP_ok hm
  have hq2 : q * q ≤ 5 * 5 := Nat.mul_le_mul h5 h5
  have hAL := affS_len (q := q) (p := p) (k := k) (f := mkP p k)
  have HLEN := Lib.hid (show (affS q p k (mkP p k)).length ≤ 128 by omega)
  have HRW := Lib.hid (fun (b : List Int) (hb : b ∈ affS q p k (mkP p k)) => affS_rows hb)
  clear hAL
  obtain ⟨N, hN⟩ : ∃ N, N = q * q := ⟨_, rfl⟩
  have hqc : (q : Int) * q = (N : Int) := by rw [hN]; push_cast; rfl
  have hNb : N ≤ 25 := by omega
  have HPQ := Lib.hid hq
  rw [← hN]
  have HL0 : Hid (affS q p k (mkP p k) = [] ++ (verS q 0 ++ sloS q p k (mkP p k) 0)) := Lib.hid rfl
  generalize hF : mkP p k = f at *
  generalize affS q p k f = L at *
  clear hq2 hF hN
  go_enter Tryz.func123, Tryz.ntmps123
  go_wp2_with fail
  refine hmk.mono ?_
  rintro e w1 ⟨A, n, c, rfl, hof, hb1⟩
  have hz0 : (w.alloc (.cells #[.int .i64 0, .slice none 0 0] 28)).heap.size = w.heap.size + 1 := by simp
  have Y1 := (Y.after hb1).alloc (.cells #[.int .i64 p, .int .i64 (k : Int), .slice A n c] 135)
  have G1 := Blk.new w1 135 #[.int .i64 p, .int .i64 (k : Int), .slice A n c]
  have ha1 := below_alloc w1 (.cells #[.int .i64 p, .int .i64 (k : Int), .slice A n c] 135)
  have hr1 := (hof.reads).keep ha1
  have hw1 := (hb0.trans (hb1.mono hb0.size)).trans (ha1.mono (by have := hb1.size; omega))
  have hzz : w.heap.size + 1 ≤ (w1.alloc (.cells #[.int .i64 p, .int .i64 (k : Int), .slice A n c] 135)).heap.size := by have := hb1.size; simp at this ⊢; omega
  have hFA : FAt (w1.alloc (.cells #[.int .i64 p, .int .i64 (k : Int), .slice A n c] 135)) w1.heap.size p k A n c f := ⟨G1.cell 0, G1.cell 1, G1.cell 2, hr1⟩
  have HV0 := Lib.hid (show (w1.alloc (.cells #[.int .i64 p, .int .i64 (k : Int), .slice A n c] 135)).heap.size = w1.heap.size + 1 by simp)
  go_wp2
  clear hmk hof hb1 ha1 hb0 Y hz0 hr1 G1
  generalize w1.alloc (.cells #[.int .i64 p, .int .i64 (k : Int), .slice A n c] 135) = V0 at *
  generalize w1.heap.size = gf at *
  have G0 := Grw.start V0 V0 (Below.refl _ _)
  rw [HV0.out] at G0
  have HFO := Lib.hid (show FldOk p k f from by have := hfz.2; rwa [Int.toNat_natCast] at this)
  have hp61 := PR_bd hfz.2.pr
  have hk6 : k ≤ 6 := (pow_le64 hp61.1 HFO.out.k1 HFO.out.q64).2
  have HG := Lib.hid (fun (W : World) (h : Below V0.heap.size V0 W) => hFA.keep h)
  clear hfz hfl hFA
  have HLC := Lib.hid (fun (done rest : List (List Int)) (h : L = done ++ rest) => Nat.le_trans (len_left h) HLEN.out)
  go_loopw [4, 5] (fun ov cv wr => ∃ (a : Nat) (B : Option Addr) (j bc : Nat) (done : List (List Int)), a ≤ q ∧ cv = .int .i64 a ∧ ov = .slice B j bc ∧ Grw V0 wr B j bc done ∧ Hid (L = done ++ (verS q a ++ sloS q p k f 0))) (fun _ cv _ => q - (intOf cv).toNat)
  case atStart => exact ⟨0, _, 0, 0, [], Nat.zero_le _, rfl, rfl, G0, HL0⟩
  case round =>
    clear G0 HL0
    obtain ⟨a, B, j, bc, done, hm, rfl, rfl, G, HD⟩ := hrel
    by_cases hla : a < q
    · have hqm : (q : Int) * a ≤ 5 * 5 := Int.mul_le_mul (by omega) (by omega) (by omega) (by omega)
      have hqm0 : 0 ≤ (q : Int) * a := Int.mul_nonneg (by omega) (by omega)
      have H1 : Hid (L = (done ++ [lineV q a]) ++ (verS q (a + 1) ++ sloS q p k f 0)) := Lib.hid (by
        rw [HD.out, verS_step hla, List.append_assoc]
        rfl)
      have hj := HLC.out _ _ HD.out
      rw [G.1.len] at hj
      clear HD
      have hb2 := below_alloc wr (.cells #[] 2)
      have ho2 := OI.lit0 wr 2
      go_wp2
      generalize hW : wr = W1 at *
      clear hW
      generalize W1.alloc (.cells #[] 2) = W2 at *
      go_loopw [6, 7] (fun lv xv wr => ∃ (x : Nat) (R : Option Addr) (rc : Nat), x ≤ q ∧ xv = .int .i64 x ∧ lv = .slice R x rc ∧ OI wr W1.heap.size 2 R x rc ((List.range x).map fun (x : Nat) => (q : Int) * a + x) ∧ Below W1.heap.size W1 wr) (fun _ xv _ => q - (intOf xv).toNat)
      case atStart => exact ⟨0, _, 0, Nat.zero_le _, rfl, rfl, ho2, hb2⟩
      case round =>
        clear ho2 hb2
        obtain ⟨x, R, rc, hx, rfl, rfl, hor, hbr⟩ := hrel
        by_cases hlx : x < q
        · have HST := Lib.hid (range_stepK (fun (x : Nat) => (q : Int) * a + x) x)
          have hbrs := hbr.size
          go_wp2_with (at_builtin; refine app_int _ rfl _ _ rfl W1.heap.size R x rc _ rfl hor ((q : Int) * a + x) wr.heap.size rfl rfl ⟨by omega, by omega⟩ (by omega) (by omega) ?_; intro A5 c5 w5 ho5 hg5 hf5; have hb5 := below_own hbr hg5 (by omega) (fun b hb => (hor.os.lt hb).1); rw [← HST.out] at ho5)
          exact ⟨⟨x + 1, A5, c5, by omega, by go_num, rfl, ho5, hb5⟩, by simp only [intOf]; omega⟩
        · obtain rfl : x = q := by omega
          obtain ⟨vs, G⟩ := G.row hor hbr
          have hlw := G.b.size
          clear hor hbr
          have G : GrwR V0 wr B j bc vs done R x rc (lineV x a) := G
          generalize lineV x a = tr at *
          go_wp2_with (at_builtin; refine app_row _ rfl _ _ rfl V0.heap.size B j bc vs done rfl G.o (R, x, rc) tr G.r G.ap _ rfl rfl (by omega) hlw ?_; intro A7 c7 w7 ho7 hg7 hn7)
          have G := G.done ho7 hg7
          clear ho7 hg7 hn7
          exact ⟨⟨a + 1, A7, j + 1, c7, _, by omega, by go_num, rfl, G, H1⟩, by simp only [intOf]; omega⟩
    · obtain rfl : a = q := by omega
      have H1 : Hid (L = done ++ sloS a p k f 0) := Lib.hid (by rw [HD.out, verS_end, List.nil_append])
      clear HD
      go_wp2
      go_loopw [4, 8] (fun ov mv wr => ∃ (m : Nat) (B : Option Addr) (j bc : Nat) (done : List (List Int)), m ≤ a ∧ mv = .int .i64 m ∧ ov = .slice B j bc ∧ Grw V0 wr B j bc done ∧ Hid (L = done ++ sloS a p k f m)) (fun _ mv _ => a - (intOf mv).toNat)
      case atStart => exact ⟨0, B, j, bc, done, Nat.zero_le _, rfl, rfl, G, H1⟩
      case round =>
        clear G H1
        obtain ⟨m, B, j, bc, done, hm, rfl, rfl, G, HD⟩ := hrel
        by_cases hlm : m < a
        · have H2 : Hid (L = done ++ (affB a p k f m 0 ++ sloS a p k f (m + 1))) := Lib.hid (by rw [HD.out, sloS_step hlm])
          clear HD
          go_wp2
          go_loopw [4, 9] (fun ov bv wr => ∃ (b : Nat) (B : Option Addr) (j bc : Nat) (done : List (List Int)), b ≤ a ∧ bv = .int .i64 b ∧ ov = .slice B j bc ∧ Grw V0 wr B j bc done ∧ Hid (L = done ++ (affB a p k f m b ++ sloS a p k f (m + 1)))) (fun _ bv _ => a - (intOf bv).toNat)
          case atStart => exact ⟨0, B, j, bc, done, Nat.zero_le _, rfl, rfl, G, H2⟩
          case round =>
            clear G H2
            obtain ⟨b, B, j, bc, done, hbq, rfl, rfl, G, HD⟩ := hrel
            by_cases hlb : b < a
            · have H3 : Hid (L = (done ++ [lineS a p k f m b]) ++ (affB a p k f m (b + 1) ++ sloS a p k f (m + 1))) := Lib.hid (by
                rw [HD.out, affB_step hlb, List.append_assoc]
                rfl)
              have hj := HLC.out _ _ HD.out
              rw [G.1.len] at hj
              clear HD
              have hb2 := below_alloc wr (.cells #[] 2)
              have ho2 := OI.lit0 wr 2
              go_wp2
              generalize hW : wr = W1 at *
              clear hW
              generalize W1.alloc (.cells #[] 2) = W2 at *
              go_loopw [10, 11] (fun lv yv wr => ∃ (y : Nat) (R : Option Addr) (rc : Nat), y ≤ a ∧ yv = .int .i64 y ∧ lv = .slice R y rc ∧ OI wr W1.heap.size 2 R y rc ((List.range y).map fun (y : Nat) => (a : Int) * y + sumP p k 1 (mulP p k f m y) b) ∧ Below W1.heap.size W1 wr) (fun _ yv _ => a - (intOf yv).toNat)
              case atStart => exact ⟨0, _, 0, Nat.zero_le _, rfl, rfl, ho2, hb2⟩
              case round =>
                clear ho2 hb2
                obtain ⟨y, R, rc, hy, rfl, rfl, hor, hbr⟩ := hrel
                by_cases hly : y < a
                · have HST := Lib.hid (range_stepK (fun (y : Nat) => (a : Int) * y + sumP p k 1 (mulP p k f m y) b) y)
                  have hbrs := hbr.size
                  have hbG := G.2
                  have hwr := hbG.trans (hbr.mono hbG.size)
                  have hFO := HFO.out
                  have hp0 : 0 < p := by omega
                  obtain ⟨m0, m1⟩ := mulP_bd hp0 k f (m : Int) (y : Int)
                  have hq64 := hFO.q64
                  obtain ⟨s0, s1⟩ := sumP_bd hp0 k 1 (mulP p k f m y) (b : Int)
                  rw [HPQ.out] at m1 s1
                  have hxy : (a : Int) * y ≤ 5 * 5 := Int.mul_le_mul (by omega) (by omega) (by omega) (by omega)
                  have hxy0 : 0 ≤ (a : Int) * y := Int.mul_nonneg (by omega) (by omega)
                  have hFW := HG.out _ hwr
                  have hPR := l03Mul_any gf p k A n c f (m : Int) (y : Int) wr hFW hFO ⟨by omega, by omega⟩ ⟨by omega, by omega⟩
                  have HCB := Lib.hid (fun (W : World) (h : Below wr.heap.size wr W) => l03Sum_any gf p k A n c f (mulP p k f m y) (b : Int) 1 W (hFW.keep h) hp61.1 hp61.2 hFO.q64 hk6 ⟨by omega, by omega⟩ ⟨by omega, by omega⟩ ⟨by omega, by omega⟩)
                  clear hFO hq64 hFW hwr hbG
                  go_wp2_with fail
                  refine hPR.mono ?_
                  rintro e w6 ⟨rfl, hb6⟩
                  have hCB := HCB.out _ hb6
                  clear hPR HCB
                  generalize mulP p k f m y = mu at *
                  generalize sumP p k 1 mu b = su at *
                  go_wp2_with fail
                  refine hCB.mono ?_
                  rintro e w7 ⟨rfl, hb7⟩
                  have hb67 := hb6.trans (hb7.mono hb6.size)
                  have hor7 := hor.below hb67
                  have hbr7 := hbr.trans (hb67.mono hbr.size)
                  have hbs7 := hbr7.size
                  clear hCB hb6 hb7 hb67 hor hbr
                  go_wp2_with (at_builtin; refine app_int _ rfl _ _ rfl W1.heap.size R y rc _ rfl hor7 ((a : Int) * y + su) w7.heap.size rfl rfl ⟨by omega, by omega⟩ (by omega) (by omega) ?_; intro A5 c5 w5 ho5 hg5 hf5; have hb5 := below_own hbr7 hg5 (by omega) (fun b hb => (hor7.os.lt hb).1); rw [← HST.out] at ho5)
                  exact ⟨⟨y + 1, A5, c5, by omega, by go_num, rfl, ho5, hb5⟩, by simp only [intOf]; omega⟩
                · obtain rfl : y = a := by omega
                  obtain ⟨vs, G⟩ := G.row hor hbr
                  have hlw := G.b.size
                  clear hor hbr
                  have G : GrwR V0 wr B j bc vs done R y rc (lineS y p k f m b) := G
                  generalize lineS y p k f m b = tr at *
                  go_wp2_with (at_builtin; refine app_row _ rfl _ _ rfl V0.heap.size B j bc vs done rfl G.o (R, y, rc) tr G.r G.ap _ rfl rfl (by omega) hlw ?_; intro A7 c7 w7 ho7 hg7 hn7)
                  have G := G.done ho7 hg7
                  clear ho7 hg7 hn7
                  exact ⟨⟨b + 1, A7, j + 1, c7, _, by omega, by go_num, rfl, G, H3⟩, by simp only [intOf]; omega⟩
            · have H4 : Hid (L = done ++ sloS a p k f (m + 1)) := Lib.hid (by
                have := HD.out
                rw [affB_end (by omega)] at this
                exact this)
              clear HD
              go_wp2
              go_round
              case rel => exact ⟨m + 1, B, j, bc, done, by omega, by go_num, rfl, G, H4⟩
              case measure => simp only [intOf]; omega
        · obtain rfl : m = a := by omega
          have HE := Lib.hid (show L = done by rw [HD.out, sloS_end, List.append_nil])
          have Y5 := Y1.below G.2 (by omega)
          have hL := HLC.out _ _ HD.out
          have hlen := G.1.len
          have hrr := OR.reads G.1
          have hso := l10Sort_any B j bc done wr hrr (by omega) (fun i hi => by
            have := HRW.out (row done i) (by rw [HE.out, row_get (by omega)]; exact List.getElem_mem _)
            omega)
          rw [← HE.out] at hso
          have hwr := hw1.trans (G.2.mono hw1.size)
          have hDr : w.heap.size + 1 ≤ wr.heap.size := by have := G.2.size; omega
          clear HD hrr G hlen HE
          go_wp2_with fail
          refine hso.mono ?_
          rintro e w5 ⟨A5, c5, vs5, rfl, ho5, hb5⟩
          have Y6 := Y5.after hb5
          have hw5 := hwr.trans (hb5.mono hwr.size)
          obtain ⟨y0, y1⟩ := Y6.cells2
          have f0 := Y6.frozen 0
          have f1 := Y6.frozen 1
          obtain ⟨q0, q1, q2, q3⟩ := fin_storeB (v := (N : Int)) Y6 hw5 ho5 hDr
          have Q := Lib.hid (And.intro q0 q1)
          clear q0 q1 hso ho5 hb5 Y1 Y5 Y6 hw5 hwr
          go_wp2
          exact bodyPost_ret (v := .agg #[.int .i64 (N : Int), .slice A5 j c5]) (by simp [results, Tryz.results123, go_sem, q2, q3]) rfl ⟨A5, j, c5, rfl, ⟨_, Q.out.1⟩, Q.out.2⟩
theorem spl_q : ([2, 3, 4, 5] : List Nat).all (fun q => splS (q : Int) != 0) = true := by decide +kernel
set_option maxRecDepth 100000 in
set_option maxHeartbeats 2000000 in
theorem specAffinePlane_any (q : Nat) (w : World) (h2 : 2 ≤ q) (h5 : q ≤ 5) :
    Calls Tryz.prog 75 #[.int .i64 q] w (RetW w ((q * q : Nat) : Int) (srtR (affQ q)) 0) := by
  have Y := Blk.new w 28 #[.int .i64 0, .slice none 0 0]
  have hb0 := below_alloc w (.cells #[.int .i64 0, .slice none 0 0] 28)
  have hz0 : (w.alloc (.cells #[.int .i64 0, .slice none 0 0] 28)).heap.size = w.heap.size + 1 := by simp
  obtain ⟨hm, hpq, hmk⟩ := q_ok h2 h5
  have hpl := l12Plane_any hm q (w.alloc (.cells #[.int .i64 0, .slice none 0 0] 28)) hpq h2 h5
  rw [hmk, affS_srt h2 h5] at hpl
  have hsp := l03Split_t (q : Int) (w.alloc (.cells #[.int .i64 0, .slice none 0 0] 28)) (by omega) (by omega)
  have hs0 : (splS (q : Int) == 0) = false := by
    have hq : q ∈ [2, 3, 4, 5] := by
      have : q = 2 ∨ q = 3 ∨ q = 4 ∨ q = 5 := by omega
      rcases this with rfl | rfl | rfl | rfl <;> decide
    have := List.all_eq_true.1 spl_q q hq
    simpa using this
  have hq2 : q * q ≤ 5 * 5 := Nat.mul_le_mul h5 h5
  obtain ⟨N, hN⟩ : ∃ N, N = q * q := ⟨_, rfl⟩
  have hqc : (q : Int) * q = (N : Int) := by rw [hN]; push_cast; rfl
  have hNb : N ≤ 25 := by omega
  rw [← hN] at hpl ⊢
  clear hq2 hN hmk hpq hm
  generalize srtR (affQ q) = L at *
  generalize splS (q : Int) = sp at *
  go_enter Tryz.func75, Tryz.ntmps75
  go_wp2_with fail
  generalize w.alloc (.cells #[.int .i64 0, .slice none 0 0] 28) = W0 at *
  refine hsp.mono ?_
  rintro e w1 ⟨sk, rfl, rfl⟩
  clear hsp
  go_wp2_with fail
  refine hpl.mono ?_
  rintro e w5 ⟨A5, n5, c5, rfl, ⟨vs, ho5⟩, hb5⟩
  have Y6 := Y.after hb5
  have hw5 := hb0.trans (hb5.mono (by omega))
  obtain ⟨y0, y1⟩ := Y6.cells2
  have f0 := Y6.frozen 0
  have f1 := Y6.frozen 1
  obtain ⟨q0, q1, q2, q3⟩ := fin_storeB (v := (N : Int)) Y6 hw5 ho5 (by omega)
  have Q := Lib.hid (And.intro q0 q1)
  clear q0 q1 hpl hb5 ho5 Y6 hw5
  go_wp2
  exact bodyPost_ret (v := .tuple #[.agg #[.int .i64 (N : Int), .slice A5 n5 c5], .int .i64 0]) (by simp [results, Tryz.results75, go_sem, q2, q3]) rfl ⟨A5, n5, c5, rfl, ⟨_, Q.out.1⟩, Q.out.2⟩
end Go.Proofs.YtnmcmologlgccaaGreat
