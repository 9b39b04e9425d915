/- One of the first six constructions: the program's side. No condition beyond those stated. -/
import Derived.Test.YtnmcmologlgccaaGreatSZAT
set_option linter.unusedVariables false
set_option linter.unusedSimpArgs false
namespace Go.Proofs.YtnmcmologlgccaaGreat
open Go.RowKit
theorem mid_store {w w5 : World} {B : Nat} {x y : Value} {cs : Array Value} {v : Int} {A : Option Addr} {n c : Nat} {bs : List (List Int)} (X : Blk w5 (w.heap.size + 1) 28 #[x, y]) (Y : Blk w5 w.heap.size 28 cs) (hb : Below w.heap.size w w5) (ho : OR w5 B 36 2 A n c bs) (hB : w.heap.size + 1 + 1 ≤ B) :
    OR ((w5.setCell ⟨w.heap.size + 1, 0, none⟩ (.int .i64 v)).setCell ⟨w.heap.size + 1, 1, none⟩ (.slice A n c)) B 36 2 A n c bs ∧ Below w.heap.size w ((w5.setCell ⟨w.heap.size + 1, 0, none⟩ (.int .i64 v)).setCell ⟨w.heap.size + 1, 1, none⟩ (.slice A n c)) ∧
    Blk ((w5.setCell ⟨w.heap.size + 1, 0, none⟩ (.int .i64 v)).setCell ⟨w.heap.size + 1, 1, none⟩ (.slice A n c)) w.heap.size 28 cs ∧ Blk ((w5.setCell ⟨w.heap.size + 1, 0, none⟩ (.int .i64 v)).setCell ⟨w.heap.size + 1, 1, none⟩ (.slice A n c)) (w.heap.size + 1) 28 #[.int .i64 v, .slice A n c] := by
  refine ⟨(ho.setLow (p := ⟨w.heap.size + 1, 0, none⟩) (by show w.heap.size + 1 < B; omega) _).setLow (p := ⟨w.heap.size + 1, 1, none⟩) (by show w.heap.size + 1 < B; omega) _, (hb.setCell (p := ⟨w.heap.size + 1, 0, none⟩) (by simp) _).setCell (p := ⟨w.heap.size + 1, 1, none⟩) (by simp) _, ?_, ?_⟩
  · exact (Y.far (p := ⟨w.heap.size + 1, 0, none⟩) (by show w.heap.size ≠ w.heap.size + 1; omega) _).far (p := ⟨w.heap.size + 1, 1, none⟩) (by show w.heap.size ≠ w.heap.size + 1; omega) _
  · exact (X.set_ 0 (.int .i64 v)).set_ 1 (.slice A n c)
set_option maxRecDepth 100000 in
set_option maxHeartbeats 8000000 in
theorem direct1_yes (v k : Nat) (L : List (List Int)) (F : Nat) (w : World) (hv : 3 ≤ v) (hv2 : v ≤ 32) (hk : 2 ≤ k) (hk2 : k < v) (hch : chP v k ≤ 128) (hF : F ≤ 1000) (hL : alF v k F (iotaP k) = some L) (hL2 : L.length ≤ 128) (hLc : cells L ≤ 1099511627776) :
    Calls Tryz.prog 57 #[.int .i64 1, .int .i64 v, .int .i64 k, .int .i64 (chP (v - 2) (k - 2) : Int)] w (RetDB w v (srtR L) true) := by
  have hb1 := (below_alloc w (.cells #[.int .i64 0, .slice none 0 0] 28)).alloc (by simp) (.cells #[.int .i64 0, .slice none 0 0] 28)
  have Y := (Blk.new w 28 #[.int .i64 0, .slice none 0 0]).alloc (.cells #[.int .i64 0, .slice none 0 0] 28)
  have X := Blk.new (w.alloc (.cells #[.int .i64 0, .slice none 0 0] 28)) 28 #[.int .i64 0, .slice none 0 0]
  rw [show (w.alloc (.cells #[.int .i64 0, .slice none 0 0] 28)).heap.size = w.heap.size + 1 by simp] at X
  have hz1 : ((w.alloc (.cells #[.int .i64 0, .slice none 0 0] 28)).alloc (.cells #[.int .i64 0, .slice none 0 0] 28)).heap.size = w.heap.size + 1 + 1 := by simp
  have e1 : (v : Int) - 2 = ((v - 2 : Nat) : Int) := by omega
  have e2 : (k : Int) - 2 = ((k - 2 : Nat) : Int) := by omega
  have HC1 := Lib.hid (fun W => choose_any (v - 2) (k - 2) W (by omega))
  have HC2 := Lib.hid (fun W => choose_any v k W (by omega))
  have HAS := Lib.hid (fun W => allSets_any v k F L W (by omega) (by omega) (by omega) hF hL)
  have hc8 : (chP v k : Int) ≤ 128 := by omega
  generalize chP (v - 2) (k - 2) = l at *
  generalize chP v k = ch at *
  generalize hv2' : v - 2 = v2 at *
  generalize hk2' : k - 2 = k2 at *
  clear hv2' hk2' hL hF
  go_enter Tryz.func57, Tryz.ntmps57
  go_wp2_with fail
  refine (HC1.out _).mono ?_
  rintro e w' ⟨rfl, rfl⟩
  go_wp2_with fail
  refine (HC2.out _).mono ?_
  rintro e w' ⟨rfl, rfl⟩
  go_wp2_with fail
  refine (HAS.out _).mono ?_
  rintro e w4 ⟨A4, n4, c4, rfl, ho4, hb4⟩
  have Y := Y.after hb4
  have X := X.after hb4
  have hb1 := hb1.trans (hb4.mono hb1.size)
  have hrr := OR.reads ho4
  have hln := hrr.len
  have hso := sorted_any (v : Int) A4 n4 c4 L w4 hrr (by omega) hLc
  have hz1 : w.heap.size + 1 + 1 ≤ w4.heap.size := by have := hb4.size; omega
  clear hb4 hrr ho4 hln
  go_wp2_with fail
  refine hso.mono ?_
  rintro e w5 ⟨A, c, rfl, ho, hb5⟩
  have Y5 := Y.after hb5
  have X5 := X.after hb5
  have hw5 := hb1.trans (hb5.mono hb1.size)
  clear Y X hso hb1 hb5
  obtain ⟨x0, x1⟩ := X5.cells2
  have fx0 := X5.frozen 0
  have fx1 := X5.frozen 1
  obtain ⟨ho6, hw6, Y6, X6⟩ := mid_store (v := (v : Int)) X5 Y5 hw5 ho (by omega)
  obtain ⟨y0, y1⟩ := Y6.cells2
  have f0 := Y6.frozen 0
  have f1 := Y6.frozen 1
  obtain ⟨z0, z1⟩ := X6.cells2
  obtain ⟨q0, q1, q2, q3⟩ := fin_store (v := (v : Int)) Y6 hw6 ho6 (by omega)
  have Q := Lib.hid (And.intro q0 q1)
  clear q0 q1 X5 Y5 X6 Y6 hw5 hw6 ho ho6
  go_wp2
  exact bodyPost_ret (v := .tuple #[.agg #[.int .i64 (v : Int), .slice A n4 c], .bool true]) (by simp [results, Tryz.results57, go_sem, q2, q3]) rfl ⟨A, n4, c, rfl, Q.out.1, Q.out.2⟩
set_option maxRecDepth 100000 in
set_option maxHeartbeats 8000000 in
theorem direct1_no (v k l : Nat) (w : World) (hv : 3 ≤ v) (hv2 : v ≤ 32) (hk : 2 ≤ k) (hk2 : k < v) (hl : l ≤ 1000) (h : ¬ (l = chP (v - 2) (k - 2) ∧ chP v k ≤ 128)) :
    Calls Tryz.prog 57 #[.int .i64 1, .int .i64 v, .int .i64 k, .int .i64 l] w (RetDB w 0 [] false) := by
  have hb1 := (below_alloc w (.cells #[.int .i64 0, .slice none 0 0] 28)).alloc (by simp) (.cells #[.int .i64 0, .slice none 0 0] 28)
  have Y := (Blk.new w 28 #[.int .i64 0, .slice none 0 0]).alloc (.cells #[.int .i64 0, .slice none 0 0] 28)
  have X := Blk.new (w.alloc (.cells #[.int .i64 0, .slice none 0 0] 28)) 28 #[.int .i64 0, .slice none 0 0]
  rw [show (w.alloc (.cells #[.int .i64 0, .slice none 0 0] 28)).heap.size = w.heap.size + 1 by simp] at X
  have hz1 : ((w.alloc (.cells #[.int .i64 0, .slice none 0 0] 28)).alloc (.cells #[.int .i64 0, .slice none 0 0] 28)).heap.size = w.heap.size + 1 + 1 := by simp
  have e1 : (v : Int) - 2 = ((v - 2 : Nat) : Int) := by omega
  have e2 : (k : Int) - 2 = ((k - 2 : Nat) : Int) := by omega
  have HC1 := Lib.hid (fun W => choose_any (v - 2) (k - 2) W (by omega))
  have HC2 := Lib.hid (fun W => choose_any v k W (by omega))
  generalize chP (v - 2) (k - 2) = l' at *
  have hch := chP_le (n := v) (k := k) hv2
  generalize chP v k = ch at *
  generalize hv2' : v - 2 = v2 at *
  generalize hk2' : k - 2 = k2 at *
  obtain ⟨x0, x1⟩ := X.cells2
  obtain ⟨y0, y1⟩ := Y.cells2
  have f0 := Y.frozen 0
  have f1 := Y.frozen 1
  have Q := Lib.hid hb1
  clear X Y hb1
  by_cases h1 : l = l'
  · have hc8 : ¬ (ch : Int) ≤ 128 := by omega
    subst h1
    clear h hv2' hk2'
    go_enter Tryz.func57, Tryz.ntmps57
    go_wp2_with fail
    refine (HC1.out _).mono ?_
    rintro e w' ⟨rfl, rfl⟩
    go_wp2_with fail
    refine (HC2.out _).mono ?_
    rintro e w' ⟨rfl, rfl⟩
    go_wp2
    exact bodyPost_ret (v := .tuple #[.agg #[.int .i64 0, .slice none 0 0], .bool false]) (by simp [results, Tryz.results57, go_sem, y0, y1]) rfl ⟨none, 0, 0, rfl, OR.nil_ _ _ (by decide), Q.out⟩
  · have h2 : ((l : Int) == (l' : Int)) = false := by simp; omega
    clear h h1 hv2' hk2'
    go_enter Tryz.func57, Tryz.ntmps57
    go_wp2_with fail
    refine (HC1.out _).mono ?_
    rintro e w' ⟨rfl, rfl⟩
    go_wp2
    exact bodyPost_ret (v := .tuple #[.agg #[.int .i64 0, .slice none 0 0], .bool false]) (by simp [results, Tryz.results57, go_sem, y0, y1]) rfl ⟨none, 0, 0, rfl, OR.nil_ _ _ (by decide), Q.out⟩
set_option maxRecDepth 100000 in
set_option maxHeartbeats 8000000 in
theorem direct2_yes (v k : Nat) (v' : Int) (bs : List (List Int)) (code : Int) (w : World) (hv : 3 ≤ v) (hv2 : v ≤ 32) (hk : 2 ≤ k) (hk2 : k < v) (h3 : k = 3) (hcall : ∀ W, Calls Tryz.prog 89 #[.int .i64 v] W (RetD W v' bs code)) :
    Calls Tryz.prog 57 #[.int .i64 2, .int .i64 v, .int .i64 3, .int .i64 1] w (RetDB w v' bs (code == 0)) := by
  have hb1 := (below_alloc w (.cells #[.int .i64 0, .slice none 0 0] 28)).alloc (by simp) (.cells #[.int .i64 0, .slice none 0 0] 28)
  have Y := (Blk.new w 28 #[.int .i64 0, .slice none 0 0]).alloc (.cells #[.int .i64 0, .slice none 0 0] 28)
  have X := Blk.new (w.alloc (.cells #[.int .i64 0, .slice none 0 0] 28)) 28 #[.int .i64 0, .slice none 0 0]
  rw [show (w.alloc (.cells #[.int .i64 0, .slice none 0 0] 28)).heap.size = w.heap.size + 1 by simp] at X
  have hz1 : ((w.alloc (.cells #[.int .i64 0, .slice none 0 0] 28)).alloc (.cells #[.int .i64 0, .slice none 0 0] 28)).heap.size = w.heap.size + 1 + 1 := by simp
  have hc1 := hcall ((w.alloc (.cells #[.int .i64 0, .slice none 0 0] 28)).alloc (.cells #[.int .i64 0, .slice none 0 0] 28))
  clear h3 hcall
  go_enter Tryz.func57, Tryz.ntmps57
  go_wp2_with fail
  refine hc1.mono ?_
  rintro e w5 ⟨A, n, c, rfl, ho, hb5⟩
  have Y5 := Y.after hb5
  have X5 := X.after hb5
  have hw5 := hb1.trans (hb5.mono hb1.size)
  clear Y X hc1 hb1 hb5
  obtain ⟨x0, x1⟩ := X5.cells2
  have fx0 := X5.frozen 0
  have fx1 := X5.frozen 1
  obtain ⟨ho6, hw6, Y6, X6⟩ := mid_store (v := v') X5 Y5 hw5 ho (by omega)
  obtain ⟨y0, y1⟩ := Y6.cells2
  have f0 := Y6.frozen 0
  have f1 := Y6.frozen 1
  obtain ⟨z0, z1⟩ := X6.cells2
  obtain ⟨q0, q1, q2, q3⟩ := fin_store (v := v') Y6 hw6 ho6 (by omega)
  have Q := Lib.hid (And.intro q0 q1)
  clear q0 q1 X5 Y5 X6 Y6 hw5 hw6 ho ho6
  go_wp2
  exact bodyPost_ret (v := .tuple #[.agg #[.int .i64 v', .slice A n c], .bool (code == 0)]) (by simp [results, Tryz.results57, go_sem, q2, q3]) rfl ⟨A, n, c, rfl, Q.out.1, Q.out.2⟩
set_option maxRecDepth 100000 in
set_option maxHeartbeats 8000000 in
theorem direct2_no (v k l : Nat) (w : World) (hv : 3 ≤ v) (hv2 : v ≤ 32) (hk : 2 ≤ k) (hk2 : k < v) (hl : l ≤ 1000) (h : ¬ (k = 3 ∧ l = 1)) :
    Calls Tryz.prog 57 #[.int .i64 2, .int .i64 v, .int .i64 k, .int .i64 l] w (RetDB w 0 [] false) := by
  have hb1 := (below_alloc w (.cells #[.int .i64 0, .slice none 0 0] 28)).alloc (by simp) (.cells #[.int .i64 0, .slice none 0 0] 28)
  have Y := (Blk.new w 28 #[.int .i64 0, .slice none 0 0]).alloc (.cells #[.int .i64 0, .slice none 0 0] 28)
  have X := Blk.new (w.alloc (.cells #[.int .i64 0, .slice none 0 0] 28)) 28 #[.int .i64 0, .slice none 0 0]
  rw [show (w.alloc (.cells #[.int .i64 0, .slice none 0 0] 28)).heap.size = w.heap.size + 1 by simp] at X
  have hz1 : ((w.alloc (.cells #[.int .i64 0, .slice none 0 0] 28)).alloc (.cells #[.int .i64 0, .slice none 0 0] 28)).heap.size = w.heap.size + 1 + 1 := by simp
  obtain ⟨x0, x1⟩ := X.cells2
  obtain ⟨y0, y1⟩ := Y.cells2
  have f0 := Y.frozen 0
  have f1 := Y.frozen 1
  have Q := Lib.hid hb1
  clear X Y hb1
  by_cases h1 : k = 3
  · have t1 : ((k : Int) == 3) = true := by simp; omega
    have t2 : ((l : Int) == 1) = false := by simp; omega
    clear h h1 
    go_enter Tryz.func57, Tryz.ntmps57
    go_wp2
    exact bodyPost_ret (v := .tuple #[.agg #[.int .i64 0, .slice none 0 0], .bool false]) (by simp [results, Tryz.results57, go_sem, y0, y1]) rfl ⟨none, 0, 0, rfl, OR.nil_ _ _ (by decide), Q.out⟩
  · have t1 : ((k : Int) == 3) = false := by simp; omega
    clear h h1 
    go_enter Tryz.func57, Tryz.ntmps57
    go_wp2
    exact bodyPost_ret (v := .tuple #[.agg #[.int .i64 0, .slice none 0 0], .bool false]) (by simp [results, Tryz.results57, go_sem, y0, y1]) rfl ⟨none, 0, 0, rfl, OR.nil_ _ _ (by decide), Q.out⟩
set_option maxRecDepth 100000 in
set_option maxHeartbeats 8000000 in
theorem direct3_yes (v k : Nat) (v' : Int) (bs : List (List Int)) (code : Int) (w : World) (hv : 3 ≤ v) (hv2 : v ≤ 32) (hk : 2 ≤ k) (hk2 : k < v) (hkk : v = k * k) (hcall : ∀ W, Calls Tryz.prog 90 #[.int .i64 k] W (RetD W v' bs code)) :
    Calls Tryz.prog 57 #[.int .i64 3, .int .i64 v, .int .i64 k, .int .i64 1] w (RetDB w v' bs (code == 0)) := by
  have hb1 := (below_alloc w (.cells #[.int .i64 0, .slice none 0 0] 28)).alloc (by simp) (.cells #[.int .i64 0, .slice none 0 0] 28)
  have Y := (Blk.new w 28 #[.int .i64 0, .slice none 0 0]).alloc (.cells #[.int .i64 0, .slice none 0 0] 28)
  have X := Blk.new (w.alloc (.cells #[.int .i64 0, .slice none 0 0] 28)) 28 #[.int .i64 0, .slice none 0 0]
  rw [show (w.alloc (.cells #[.int .i64 0, .slice none 0 0] 28)).heap.size = w.heap.size + 1 by simp] at X
  have hz1 : ((w.alloc (.cells #[.int .i64 0, .slice none 0 0] 28)).alloc (.cells #[.int .i64 0, .slice none 0 0] 28)).heap.size = w.heap.size + 1 + 1 := by simp
  have e1 : ((v : Int) == (k : Int) * k) = true := by rw [hkk]; simp
  have m1 : (k : Int) * k ≤ 31 * 31 := Int.mul_le_mul (by omega) (by omega) (by omega) (by omega)
  have m0 : 0 ≤ (k : Int) * k := Int.mul_nonneg (by omega) (by omega)
  have hc1 := hcall ((w.alloc (.cells #[.int .i64 0, .slice none 0 0] 28)).alloc (.cells #[.int .i64 0, .slice none 0 0] 28))
  clear hkk hcall
  go_enter Tryz.func57, Tryz.ntmps57
  go_wp2_with fail
  refine hc1.mono ?_
  rintro e w5 ⟨A, n, c, rfl, ho, hb5⟩
  have Y5 := Y.after hb5
  have X5 := X.after hb5
  have hw5 := hb1.trans (hb5.mono hb1.size)
  clear Y X hc1 hb1 hb5
  obtain ⟨x0, x1⟩ := X5.cells2
  have fx0 := X5.frozen 0
  have fx1 := X5.frozen 1
  obtain ⟨ho6, hw6, Y6, X6⟩ := mid_store (v := v') X5 Y5 hw5 ho (by omega)
  obtain ⟨y0, y1⟩ := Y6.cells2
  have f0 := Y6.frozen 0
  have f1 := Y6.frozen 1
  obtain ⟨z0, z1⟩ := X6.cells2
  obtain ⟨q0, q1, q2, q3⟩ := fin_store (v := v') Y6 hw6 ho6 (by omega)
  have Q := Lib.hid (And.intro q0 q1)
  clear q0 q1 X5 Y5 X6 Y6 hw5 hw6 ho ho6
  go_wp2
  exact bodyPost_ret (v := .tuple #[.agg #[.int .i64 v', .slice A n c], .bool (code == 0)]) (by simp [results, Tryz.results57, go_sem, q2, q3]) rfl ⟨A, n, c, rfl, Q.out.1, Q.out.2⟩
set_option maxRecDepth 100000 in
set_option maxHeartbeats 8000000 in
theorem direct3_no (v k l : Nat) (w : World) (hv : 3 ≤ v) (hv2 : v ≤ 32) (hk : 2 ≤ k) (hk2 : k < v) (hl : l ≤ 1000) (h : ¬ (l = 1 ∧ v = k * k)) :
    Calls Tryz.prog 57 #[.int .i64 3, .int .i64 v, .int .i64 k, .int .i64 l] w (RetDB w 0 [] false) := by
  have hb1 := (below_alloc w (.cells #[.int .i64 0, .slice none 0 0] 28)).alloc (by simp) (.cells #[.int .i64 0, .slice none 0 0] 28)
  have Y := (Blk.new w 28 #[.int .i64 0, .slice none 0 0]).alloc (.cells #[.int .i64 0, .slice none 0 0] 28)
  have X := Blk.new (w.alloc (.cells #[.int .i64 0, .slice none 0 0] 28)) 28 #[.int .i64 0, .slice none 0 0]
  rw [show (w.alloc (.cells #[.int .i64 0, .slice none 0 0] 28)).heap.size = w.heap.size + 1 by simp] at X
  have hz1 : ((w.alloc (.cells #[.int .i64 0, .slice none 0 0] 28)).alloc (.cells #[.int .i64 0, .slice none 0 0] 28)).heap.size = w.heap.size + 1 + 1 := by simp
  have m1 : (k : Int) * k ≤ 31 * 31 := Int.mul_le_mul (by omega) (by omega) (by omega) (by omega)
  have m0 : 0 ≤ (k : Int) * k := Int.mul_nonneg (by omega) (by omega)
  obtain ⟨x0, x1⟩ := X.cells2
  obtain ⟨y0, y1⟩ := Y.cells2
  have f0 := Y.frozen 0
  have f1 := Y.frozen 1
  have Q := Lib.hid hb1
  clear X Y hb1
  by_cases h1 : l = 1
  · have t1 : ((l : Int) == 1) = true := by simp; omega
    have t2 : ((v : Int) == (k : Int) * k) = false := by simp; intro h2; exact h ⟨h1, by exact_mod_cast h2⟩
    clear h h1 
    go_enter Tryz.func57, Tryz.ntmps57
    go_wp2
    exact bodyPost_ret (v := .tuple #[.agg #[.int .i64 0, .slice none 0 0], .bool false]) (by simp [results, Tryz.results57, go_sem, y0, y1]) rfl ⟨none, 0, 0, rfl, OR.nil_ _ _ (by decide), Q.out⟩
  · have t1 : ((l : Int) == 1) = false := by simp; omega
    clear h h1 
    go_enter Tryz.func57, Tryz.ntmps57
    go_wp2
    exact bodyPost_ret (v := .tuple #[.agg #[.int .i64 0, .slice none 0 0], .bool false]) (by simp [results, Tryz.results57, go_sem, y0, y1]) rfl ⟨none, 0, 0, rfl, OR.nil_ _ _ (by decide), Q.out⟩
set_option maxRecDepth 100000 in
set_option maxHeartbeats 8000000 in
theorem direct4_yes (v k : Nat) (v' : Int) (bs : List (List Int)) (code : Int) (w : World) (hv : 3 ≤ v) (hv2 : v ≤ 32) (hk : 2 ≤ k) (hk2 : k < v) (hkk : v + k = k * k + 1) (hcall : ∀ W, Calls Tryz.prog 91 #[.int .i64 ((k : Int) - 1)] W (RetD W v' bs code)) :
    Calls Tryz.prog 57 #[.int .i64 4, .int .i64 v, .int .i64 k, .int .i64 1] w (RetDB w v' bs (code == 0)) := by
  have hb1 := (below_alloc w (.cells #[.int .i64 0, .slice none 0 0] 28)).alloc (by simp) (.cells #[.int .i64 0, .slice none 0 0] 28)
  have Y := (Blk.new w 28 #[.int .i64 0, .slice none 0 0]).alloc (.cells #[.int .i64 0, .slice none 0 0] 28)
  have X := Blk.new (w.alloc (.cells #[.int .i64 0, .slice none 0 0] 28)) 28 #[.int .i64 0, .slice none 0 0]
  rw [show (w.alloc (.cells #[.int .i64 0, .slice none 0 0] 28)).heap.size = w.heap.size + 1 by simp] at X
  have hz1 : ((w.alloc (.cells #[.int .i64 0, .slice none 0 0] 28)).alloc (.cells #[.int .i64 0, .slice none 0 0] 28)).heap.size = w.heap.size + 1 + 1 := by simp
  have e1 : ((v : Int) == (k : Int) * k - k + 1) = true := by have : (v : Int) + k = (k : Int) * k + 1 := by exact_mod_cast hkk
                                                              simp; omega
  have m1 : (k : Int) * k ≤ 31 * 31 := Int.mul_le_mul (by omega) (by omega) (by omega) (by omega)
  have m0 : 0 ≤ (k : Int) * k := Int.mul_nonneg (by omega) (by omega)
  have hc1 := hcall ((w.alloc (.cells #[.int .i64 0, .slice none 0 0] 28)).alloc (.cells #[.int .i64 0, .slice none 0 0] 28))
  clear hkk hcall
  go_enter Tryz.func57, Tryz.ntmps57
  go_wp2_with fail
  refine hc1.mono ?_
  rintro e w5 ⟨A, n, c, rfl, ho, hb5⟩
  have Y5 := Y.after hb5
  have X5 := X.after hb5
  have hw5 := hb1.trans (hb5.mono hb1.size)
  clear Y X hc1 hb1 hb5
  obtain ⟨x0, x1⟩ := X5.cells2
  have fx0 := X5.frozen 0
  have fx1 := X5.frozen 1
  obtain ⟨ho6, hw6, Y6, X6⟩ := mid_store (v := v') X5 Y5 hw5 ho (by omega)
  obtain ⟨y0, y1⟩ := Y6.cells2
  have f0 := Y6.frozen 0
  have f1 := Y6.frozen 1
  obtain ⟨z0, z1⟩ := X6.cells2
  obtain ⟨q0, q1, q2, q3⟩ := fin_store (v := v') Y6 hw6 ho6 (by omega)
  have Q := Lib.hid (And.intro q0 q1)
  clear q0 q1 X5 Y5 X6 Y6 hw5 hw6 ho ho6
  go_wp2
  exact bodyPost_ret (v := .tuple #[.agg #[.int .i64 v', .slice A n c], .bool (code == 0)]) (by simp [results, Tryz.results57, go_sem, q2, q3]) rfl ⟨A, n, c, rfl, Q.out.1, Q.out.2⟩
set_option maxRecDepth 100000 in
set_option maxHeartbeats 8000000 in
theorem direct4_no (v k l : Nat) (w : World) (hv : 3 ≤ v) (hv2 : v ≤ 32) (hk : 2 ≤ k) (hk2 : k < v) (hl : l ≤ 1000) (h : ¬ (l = 1 ∧ v + k = k * k + 1)) :
    Calls Tryz.prog 57 #[.int .i64 4, .int .i64 v, .int .i64 k, .int .i64 l] w (RetDB w 0 [] false) := by
  have hb1 := (below_alloc w (.cells #[.int .i64 0, .slice none 0 0] 28)).alloc (by simp) (.cells #[.int .i64 0, .slice none 0 0] 28)
  have Y := (Blk.new w 28 #[.int .i64 0, .slice none 0 0]).alloc (.cells #[.int .i64 0, .slice none 0 0] 28)
  have X := Blk.new (w.alloc (.cells #[.int .i64 0, .slice none 0 0] 28)) 28 #[.int .i64 0, .slice none 0 0]
  rw [show (w.alloc (.cells #[.int .i64 0, .slice none 0 0] 28)).heap.size = w.heap.size + 1 by simp] at X
  have hz1 : ((w.alloc (.cells #[.int .i64 0, .slice none 0 0] 28)).alloc (.cells #[.int .i64 0, .slice none 0 0] 28)).heap.size = w.heap.size + 1 + 1 := by simp
  have m1 : (k : Int) * k ≤ 31 * 31 := Int.mul_le_mul (by omega) (by omega) (by omega) (by omega)
  have m0 : 0 ≤ (k : Int) * k := Int.mul_nonneg (by omega) (by omega)
  obtain ⟨x0, x1⟩ := X.cells2
  obtain ⟨y0, y1⟩ := Y.cells2
  have f0 := Y.frozen 0
  have f1 := Y.frozen 1
  have Q := Lib.hid hb1
  clear X Y hb1
  by_cases h1 : l = 1
  · have t1 : ((l : Int) == 1) = true := by simp; omega
    have t2 : ((v : Int) == (k : Int) * k - k + 1) = false := by simp; intro h2; exact h ⟨h1, by have : (v : Int) + k = (k : Int) * k + 1 := by { omega }; exact_mod_cast this⟩
    clear h h1 
    go_enter Tryz.func57, Tryz.ntmps57
    go_wp2
    exact bodyPost_ret (v := .tuple #[.agg #[.int .i64 0, .slice none 0 0], .bool false]) (by simp [results, Tryz.results57, go_sem, y0, y1]) rfl ⟨none, 0, 0, rfl, OR.nil_ _ _ (by decide), Q.out⟩
  · have t1 : ((l : Int) == 1) = false := by simp; omega
    clear h h1 
    go_enter Tryz.func57, Tryz.ntmps57
    go_wp2
    exact bodyPost_ret (v := .tuple #[.agg #[.int .i64 0, .slice none 0 0], .bool false]) (by simp [results, Tryz.results57, go_sem, y0, y1]) rfl ⟨none, 0, 0, rfl, OR.nil_ _ _ (by decide), Q.out⟩
set_option maxRecDepth 100000 in
set_option maxHeartbeats 8000000 in
theorem direct6_no (v k l : Nat) (w : World) (hv : 3 ≤ v) (hv2 : v ≤ 32) (hk : 2 ≤ k) (hk2 : k < v) (hl : l ≤ 1000) (h : ¬ (v = 4 * l + 3 ∧ k = 2 * l + 1)) :
    Calls Tryz.prog 57 #[.int .i64 6, .int .i64 v, .int .i64 k, .int .i64 l] w (RetDB w 0 [] false) := by
  have hb1 := (below_alloc w (.cells #[.int .i64 0, .slice none 0 0] 28)).alloc (by simp) (.cells #[.int .i64 0, .slice none 0 0] 28)
  have Y := (Blk.new w 28 #[.int .i64 0, .slice none 0 0]).alloc (.cells #[.int .i64 0, .slice none 0 0] 28)
  have X := Blk.new (w.alloc (.cells #[.int .i64 0, .slice none 0 0] 28)) 28 #[.int .i64 0, .slice none 0 0]
  rw [show (w.alloc (.cells #[.int .i64 0, .slice none 0 0] 28)).heap.size = w.heap.size + 1 by simp] at X
  have hz1 : ((w.alloc (.cells #[.int .i64 0, .slice none 0 0] 28)).alloc (.cells #[.int .i64 0, .slice none 0 0] 28)).heap.size = w.heap.size + 1 + 1 := by simp
  obtain ⟨x0, x1⟩ := X.cells2
  obtain ⟨y0, y1⟩ := Y.cells2
  have f0 := Y.frozen 0
  have f1 := Y.frozen 1
  have Q := Lib.hid hb1
  clear X Y hb1
  by_cases h1 : v = 4 * l + 3
  · have t1 : ((v : Int) == 4 * l + 3) = true := by simp; omega
    have t2 : ((k : Int) == 2 * l + 1) = false := by simp; omega
    clear h h1 
    go_enter Tryz.func57, Tryz.ntmps57
    go_wp2
    exact bodyPost_ret (v := .tuple #[.agg #[.int .i64 0, .slice none 0 0], .bool false]) (by simp [results, Tryz.results57, go_sem, y0, y1]) rfl ⟨none, 0, 0, rfl, OR.nil_ _ _ (by decide), Q.out⟩
  · have t1 : ((v : Int) == 4 * l + 3) = false := by simp; omega
    clear h h1 
    go_enter Tryz.func57, Tryz.ntmps57
    go_wp2
    exact bodyPost_ret (v := .tuple #[.agg #[.int .i64 0, .slice none 0 0], .bool false]) (by simp [results, Tryz.results57, go_sem, y0, y1]) rfl ⟨none, 0, 0, rfl, OR.nil_ _ _ (by decide), Q.out⟩
set_option maxRecDepth 100000 in
set_option maxHeartbeats 8000000 in
theorem direct5_no (v k l : Nat) (w : World) (hv : 3 ≤ v) (hv2 : v ≤ 32) (hk : 2 ≤ k) (hk2 : k < v) (hl : l ≤ 1000) (h : ¬ (v = 4 * l + 3)) :
    Calls Tryz.prog 57 #[.int .i64 5, .int .i64 v, .int .i64 k, .int .i64 l] w (RetDB w 0 [] false) := by
  have hb1 := (below_alloc w (.cells #[.int .i64 0, .slice none 0 0] 28)).alloc (by simp) (.cells #[.int .i64 0, .slice none 0 0] 28)
  have Y := (Blk.new w 28 #[.int .i64 0, .slice none 0 0]).alloc (.cells #[.int .i64 0, .slice none 0 0] 28)
  have X := Blk.new (w.alloc (.cells #[.int .i64 0, .slice none 0 0] 28)) 28 #[.int .i64 0, .slice none 0 0]
  rw [show (w.alloc (.cells #[.int .i64 0, .slice none 0 0] 28)).heap.size = w.heap.size + 1 by simp] at X
  have hz1 : ((w.alloc (.cells #[.int .i64 0, .slice none 0 0] 28)).alloc (.cells #[.int .i64 0, .slice none 0 0] 28)).heap.size = w.heap.size + 1 + 1 := by simp
  obtain ⟨x0, x1⟩ := X.cells2
  obtain ⟨y0, y1⟩ := Y.cells2
  have f0 := Y.frozen 0
  have f1 := Y.frozen 1
  have Q := Lib.hid hb1
  clear X Y hb1
  have t1 : (4 * (l : Int) == (v : Int) - 3) = false := by simp; omega
  clear h
  go_enter Tryz.func57, Tryz.ntmps57
  go_wp2
  exact bodyPost_ret (v := .tuple #[.agg #[.int .i64 0, .slice none 0 0], .bool false]) (by simp [results, Tryz.results57, go_sem, y0, y1]) rfl ⟨none, 0, 0, rfl, OR.nil_ _ _ (by decide), Q.out⟩
set_option maxRecDepth 100000 in
set_option maxHeartbeats 8000000 in
theorem direct5_bad (v k l : Nat) (w : World) (hv : 3 ≤ v) (hv2 : v ≤ 32) (hk : 2 ≤ k) (hk2 : k < v) (hl : l ≤ 1000) (h4 : v = 4 * l + 3) (hp : isP v = false) :
    Calls Tryz.prog 57 #[.int .i64 5, .int .i64 v, .int .i64 k, .int .i64 l] w (RetDB w 0 [] false) := by
  have hb1 := (below_alloc w (.cells #[.int .i64 0, .slice none 0 0] 28)).alloc (by simp) (.cells #[.int .i64 0, .slice none 0 0] 28)
  have Y := (Blk.new w 28 #[.int .i64 0, .slice none 0 0]).alloc (.cells #[.int .i64 0, .slice none 0 0] 28)
  have X := Blk.new (w.alloc (.cells #[.int .i64 0, .slice none 0 0] 28)) 28 #[.int .i64 0, .slice none 0 0]
  rw [show (w.alloc (.cells #[.int .i64 0, .slice none 0 0] 28)).heap.size = w.heap.size + 1 by simp] at X
  have hz1 : ((w.alloc (.cells #[.int .i64 0, .slice none 0 0] 28)).alloc (.cells #[.int .i64 0, .slice none 0 0] 28)).heap.size = w.heap.size + 1 + 1 := by simp
  have t1 : (4 * (l : Int) == (v : Int) - 3) = true := by simp; omega
  have hc1 := paleySet_no v ((w.alloc (.cells #[.int .i64 0, .slice none 0 0] 28)).alloc (.cells #[.int .i64 0, .slice none 0 0] 28)) (by omega) hp
  clear h4 hp
  go_enter Tryz.func57, Tryz.ntmps57
  go_wp2_with fail
  refine hc1.mono ?_
  rintro e w5 ⟨A, n, c, rfl, ho, hb5⟩
  have Y := Y.after hb5
  have X := X.after hb5
  have hb1 := hb1.trans (hb5.mono hb1.size)
  clear hc1 hb5 ho
  obtain ⟨x0, x1⟩ := X.cells2
  obtain ⟨y0, y1⟩ := Y.cells2
  have f0 := Y.frozen 0
  have f1 := Y.frozen 1
  obtain ⟨q0, q1, q2, q3⟩ := fin_store (v := 0) (A := none) (n := 0) (c := 0) (bs := []) Y hb1 (OR.nil_ _ (w.heap.size + 1) (by decide)) (by omega)
  have Q := Lib.hid (And.intro q0 q1)
  clear q0 q1 X Y hb1
  go_wp2
  exact bodyPost_ret (v := .tuple #[.agg #[.int .i64 0, .slice none 0 0], .bool false]) (by simp [results, Tryz.results57, go_sem, q2, q3]) rfl ⟨none, 0, 0, rfl, Q.out.1, Q.out.2⟩
set_option maxRecDepth 100000 in
set_option maxHeartbeats 8000000 in
theorem direct5_size (v k l : Nat) (w : World) (hv : 3 ≤ v) (hv2 : v ≤ 32) (hk : 2 ≤ k) (hk2 : k < v) (hl : l ≤ 1000) (h4 : v = 4 * l + 3) (hp : isP v = true) (hs : (sqK v v).length ≠ k) :
    Calls Tryz.prog 57 #[.int .i64 5, .int .i64 v, .int .i64 k, .int .i64 l] w (RetDB w 0 [] false) := by
  have hb1 := (below_alloc w (.cells #[.int .i64 0, .slice none 0 0] 28)).alloc (by simp) (.cells #[.int .i64 0, .slice none 0 0] 28)
  have Y := (Blk.new w 28 #[.int .i64 0, .slice none 0 0]).alloc (.cells #[.int .i64 0, .slice none 0 0] 28)
  have X := Blk.new (w.alloc (.cells #[.int .i64 0, .slice none 0 0] 28)) 28 #[.int .i64 0, .slice none 0 0]
  rw [show (w.alloc (.cells #[.int .i64 0, .slice none 0 0] 28)).heap.size = w.heap.size + 1 by simp] at X
  have hz1 : ((w.alloc (.cells #[.int .i64 0, .slice none 0 0] 28)).alloc (.cells #[.int .i64 0, .slice none 0 0] 28)).heap.size = w.heap.size + 1 + 1 := by simp
  have t1 : (4 * (l : Int) == (v : Int) - 3) = true := by simp; omega
  have hc1 := paleySet_any v ((w.alloc (.cells #[.int .i64 0, .slice none 0 0] 28)).alloc (.cells #[.int .i64 0, .slice none 0 0] 28)) (by omega) hp (by omega)
  generalize sqK v v = s at *
  clear h4 hp
  go_enter Tryz.func57, Tryz.ntmps57
  go_wp2_with fail
  refine hc1.mono ?_
  rintro e w5 ⟨A, n, c, rfl, ho, hb5⟩
  have hn := ho.len
  have t2 : ((n : Int) == (k : Int)) = false := by simp; omega
  have hcp := ho.os.cap
  have Y := Y.after hb5
  have X := X.after hb5
  have hb1 := hb1.trans (hb5.mono hb1.size)
  clear hc1 hb5 ho hs hn
  obtain ⟨x0, x1⟩ := X.cells2
  obtain ⟨y0, y1⟩ := Y.cells2
  have f0 := Y.frozen 0
  have f1 := Y.frozen 1
  obtain ⟨q0, q1, q2, q3⟩ := fin_store (v := 0) (A := none) (n := 0) (c := 0) (bs := []) Y hb1 (OR.nil_ _ (w.heap.size + 1) (by decide)) (by omega)
  have Q := Lib.hid (And.intro q0 q1)
  clear q0 q1 X Y hb1
  go_wp2_with (go_at_call 48; refine (sizeI_any _ _ _ _ (by omega)).mono ?_; rintro e w' ⟨rfl, rfl⟩)
  exact bodyPost_ret (v := .tuple #[.agg #[.int .i64 0, .slice none 0 0], .bool false]) (by simp [results, Tryz.results57, go_sem, q2, q3]) rfl ⟨none, 0, 0, rfl, Q.out.1, Q.out.2⟩
set_option maxRecDepth 100000 in
set_option maxHeartbeats 8000000 in
theorem direct5_yes (v k l : Nat) (w : World) (hv : 3 ≤ v) (hv2 : v ≤ 32) (hk : 2 ≤ k) (hk2 : k < v) (hl : l ≤ 1000) (h4 : v = 4 * l + 3) (hp : isP v = true) (hs : (sqK v v).length = k) (hok : okS v (sqK v v) = true) (hcl : cells (devK v (sqK v v) v) ≤ 1099511627776) :
    Calls Tryz.prog 57 #[.int .i64 5, .int .i64 v, .int .i64 k, .int .i64 l] w (RetDB w v (srtR (devK v (sqK v v) v)) true) := by
  have hb1 := (below_alloc w (.cells #[.int .i64 0, .slice none 0 0] 28)).alloc (by simp) (.cells #[.int .i64 0, .slice none 0 0] 28)
  have Y := (Blk.new w 28 #[.int .i64 0, .slice none 0 0]).alloc (.cells #[.int .i64 0, .slice none 0 0] 28)
  have X := Blk.new (w.alloc (.cells #[.int .i64 0, .slice none 0 0] 28)) 28 #[.int .i64 0, .slice none 0 0]
  rw [show (w.alloc (.cells #[.int .i64 0, .slice none 0 0] 28)).heap.size = w.heap.size + 1 by simp] at X
  have hz1 : ((w.alloc (.cells #[.int .i64 0, .slice none 0 0] 28)).alloc (.cells #[.int .i64 0, .slice none 0 0] 28)).heap.size = w.heap.size + 1 + 1 := by simp
  have t1 : (4 * (l : Int) == (v : Int) - 3) = true := by simp; omega
  have hc1 := paleySet_any v ((w.alloc (.cells #[.int .i64 0, .slice none 0 0] 28)).alloc (.cells #[.int .i64 0, .slice none 0 0] 28)) (by omega) hp (by omega)
  have HDF := Lib.hid (fun (A : Option Addr) (c : Nat) (W : World) (hr : RR W A 1 [sqK v v]) => developFamily_ok v A c (sqK v v) W hr (by omega) hv2 hok hcl)
  generalize srtR (devK v (sqK v v) v) = L at *
  generalize sqK v v = s at *
  clear h4 hp hok hcl
  go_enter Tryz.func57, Tryz.ntmps57
  go_wp2_with fail
  refine hc1.mono ?_
  rintro e w3 ⟨A3, n3, c3, rfl, ho3, hb3⟩
  have hn := ho3.len
  have t2 : ((n3 : Int) == (k : Int)) = true := by simp; omega
  obtain ⟨hcp1, hcp2⟩ := ho3.os.cap
  have Y := (Y.after hb3).alloc (.cells #[.slice A3 n3 c3] 36)
  have X := (X.after hb3).alloc (.cells #[.slice A3 n3 c3] 36)
  have hb1 := hb1.trans (hb3.mono hb1.size)
  have hb1 := hb1.alloc hb1.size (.cells #[.slice A3 n3 c3] 36)
  have hz3 : w.heap.size + 1 + 1 ≤ (w3.alloc (.cells #[.slice A3 n3 c3] 36)).heap.size := by have := hb3.size; simp; omega
  have hdf := HDF.out _ 1 _ (RR.one ho3.reads hcp1 hcp2)
  clear hc1 hb3 ho3 hs hn
  go_wp2_with (go_at_call 48; refine (sizeI_any _ _ _ _ (by omega)).mono ?_; rintro e w' ⟨rfl, rfl⟩)
  refine hdf.mono ?_
  rintro e w5 ⟨A, c, rfl, ho, hb5⟩
  have Y5 := Y.after hb5
  have X5 := X.after hb5
  have hw5 := hb1.trans (hb5.mono hb1.size)
  clear Y X hdf hb1 hb5
  obtain ⟨x0, x1⟩ := X5.cells2
  have fx0 := X5.frozen 0
  have fx1 := X5.frozen 1
  obtain ⟨ho6, hw6, Y6, X6⟩ := mid_store (v := (v : Int)) X5 Y5 hw5 ho (by omega)
  obtain ⟨y0, y1⟩ := Y6.cells2
  have f0 := Y6.frozen 0
  have f1 := Y6.frozen 1
  obtain ⟨z0, z1⟩ := X6.cells2
  obtain ⟨q0, q1, q2, q3⟩ := fin_store (v := (v : Int)) Y6 hw6 ho6 (by omega)
  have Q := Lib.hid (And.intro q0 q1)
  clear q0 q1 X5 Y5 X6 Y6 hw5 hw6 ho ho6
  go_wp2
  exact bodyPost_ret (v := .tuple #[.agg #[.int .i64 (v : Int), .slice A v c], .bool true]) (by simp [results, Tryz.results57, go_sem, q2, q3]) rfl ⟨A, v, c, rfl, Q.out.1, Q.out.2⟩
set_option maxRecDepth 100000 in
set_option maxHeartbeats 8000000 in
theorem direct6_yes (v k l : Nat) (bs : List (List Int)) (w : World) (hv : 3 ≤ v) (hv2 : v ≤ 32) (hk : 2 ≤ k) (hk2 : k < v) (hl : l ≤ 1000) (h4 : v = 4 * l + 3) (h2 : k = 2 * l + 1) (hcall : ∀ W, Calls Tryz.prog 94 #[.int .i64 v] W (RetDB W v bs true)) :
    Calls Tryz.prog 57 #[.int .i64 6, .int .i64 v, .int .i64 k, .int .i64 l] w (RetDB w v bs true) := by
  have hb1 := (below_alloc w (.cells #[.int .i64 0, .slice none 0 0] 28)).alloc (by simp) (.cells #[.int .i64 0, .slice none 0 0] 28)
  have Y := (Blk.new w 28 #[.int .i64 0, .slice none 0 0]).alloc (.cells #[.int .i64 0, .slice none 0 0] 28)
  have X := Blk.new (w.alloc (.cells #[.int .i64 0, .slice none 0 0] 28)) 28 #[.int .i64 0, .slice none 0 0]
  rw [show (w.alloc (.cells #[.int .i64 0, .slice none 0 0] 28)).heap.size = w.heap.size + 1 by simp] at X
  have hz1 : ((w.alloc (.cells #[.int .i64 0, .slice none 0 0] 28)).alloc (.cells #[.int .i64 0, .slice none 0 0] 28)).heap.size = w.heap.size + 1 + 1 := by simp
  have t1 : ((v : Int) == 4 * l + 3) = true := by simp; omega
  have t2 : ((k : Int) == 2 * l + 1) = true := by simp; omega
  have hc1 := hcall ((w.alloc (.cells #[.int .i64 0, .slice none 0 0] 28)).alloc (.cells #[.int .i64 0, .slice none 0 0] 28))
  clear h4 h2 hcall
  go_enter Tryz.func57, Tryz.ntmps57
  go_wp2_with fail
  refine hc1.mono ?_
  rintro e w5 ⟨A, n, c, rfl, ho, hb5⟩
  have Y6 := Y.after hb5
  have hw5 := hb1.trans (hb5.mono hb1.size)
  clear Y X hc1 hb1 hb5
  obtain ⟨y0, y1⟩ := Y6.cells2
  have f0 := Y6.frozen 0
  have f1 := Y6.frozen 1
  obtain ⟨q0, q1, q2, q3⟩ := fin_store (v := (v : Int)) Y6 hw5 ho (by omega)
  have Q := Lib.hid (And.intro q0 q1)
  clear q0 q1 Y6 hw5 ho
  go_wp2
  exact bodyPost_ret (v := .tuple #[.agg #[.int .i64 (v : Int), .slice A n c], .bool true]) (by simp [results, Tryz.results57, go_sem, q2, q3]) rfl ⟨A, n, c, rfl, Q.out.1, Q.out.2⟩
end Go.Proofs.YtnmcmologlgccaaGreat
