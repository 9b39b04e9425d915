/- The field of a size, on both sides. No condition beyond those stated. -/
import Derived.Test.YtnmcmologlgccaaGreatSZAP
set_option linter.unusedVariables false
set_option linter.unusedSimpArgs false
namespace Go.Proofs.YtnmcmologlgccaaGreat
open Go.RowKit
def irrB (p : Int) (k : Nat) (f : List Int) : Bool := (List.range (k + 1)).all fun d => decide (d < 1) || decide (k < 2 * d) || (List.range (p ^ d).toNat).all fun n => (remP p (digsP (n : Int) p d ++ [1]) f).any fun x => x != 0
theorem irrB_ok {p : Int} {k : Nat} {f : List Int} (h : irrB p k f = true) : IrrC p k f := fun d h1 h2 n h3 h4 => by
  have a := List.all_eq_true.1 h d (List.mem_range.2 (by omega))
  have e1 : decide (d < 1) = false := by simp; omega
  have e2 : decide (k < 2 * d) = false := by simp; omega
  rw [e1, e2, Bool.false_or, Bool.false_or] at a
  have b := List.all_eq_true.1 a n.toNat (List.mem_range.2 (by omega))
  rw [Int.toNat_of_nonneg h3] at b
  obtain ⟨x, hx, hne⟩ := List.any_eq_true.1 b
  obtain ⟨t, ht, rfl⟩ := List.mem_iff_getElem.1 hx
  exact ⟨t, by rw [nth_get ht]; simpa using hne⟩
def witN (p : Int) (k : Nat) : Nat := if k = 1 then 0 else if p = 2 then (if k = 5 then 5 else 3) else if p = 3 then (if k = 2 then 1 else 7) else if p = 5 then 2 else 1
theorem wit_table : (PKL.all fun a => irrB a.1 a.2 (digsP (witN a.1 a.2 : Nat) a.1 a.2 ++ [1])) = true := by decide +kernel
theorem wit_ok {p : Int} {k : Nat} (h : (p, k) ∈ PKL) : IrrC p k (digsP (witN p k : Nat) p k ++ [1]) := irrB_ok (List.all_eq_true.1 wit_table (p, k) h)
theorem wit_le (p : Int) (k : Nat) : witN p k ≤ 7 := by unfold witN; repeat (first | omega | split)
theorem mk_least {p : Int} {k : Nat} (h : (p, k) ∈ PKL) : ∃ n : Nat, n ≤ witN p k ∧ IrrC p k (digsP (n : Int) p k ++ [1]) ∧ ∀ m : Nat, m < n → ¬ IrrC p k (digsP (m : Int) p k ++ [1]) :=
  least_ (P := fun n : Nat => IrrC p k (digsP (n : Int) p k ++ [1])) (wit_ok h)
noncomputable def mkP (p : Int) (k : Nat) : List Int := open Classical in if h : (p, k) ∈ PKL then digsP ((mk_least h).choose : Int) p k ++ [1] else []
theorem mkP_eq {p : Int} {k : Nat} (h : (p, k) ∈ PKL) {n : Nat} (h1 : IrrC p k (digsP (n : Int) p k ++ [1])) (h2 : ∀ m : Nat, m < n → ¬ IrrC p k (digsP (m : Int) p k ++ [1])) : mkP p k = digsP (n : Int) p k ++ [1] := by
  unfold mkP
  rw [dif_pos h]
  have hs := (mk_least h).choose_spec
  rcases Nat.lt_trichotomy (mk_least h).choose n with e | e | e
  · exact absurd hs.2.1 (h2 _ e)
  · rw [e]
  · exact absurd h1 (hs.2.2 _ e)
theorem mkP_ok {p : Int} {k : Nat} (h : (p, k) ∈ PKL) : FldZ p (k : Int) (mkP p k) ∧ (mkP p k).length = k + 1 := by
  obtain ⟨a, b, c, d, e⟩ := PKL_ok h
  obtain ⟨n, -, h1, h2⟩ := mk_least h
  have h2p := (PR_bd a).1
  have hD : Dg p (digsP (n : Int) p k ++ [1]) := dg_snoc h2p (digs_dg (by omega) _ _)
  have hl : (digsP (n : Int) p k ++ [1]).length = k + 1 := by simp [digs_len]
  have hm : nth (digsP (n : Int) p k ++ [1]) k = 1 := by
    have := nth_snoc (l := digsP (n : Int) p k) (x := 1)
    rwa [digs_len] at this
  rw [mkP_eq h h1 h2]
  exact ⟨(fldZ_iff a b e hl hm).2 ⟨hD, h1⟩, hl⟩
def RetFC (w : World) (p k : Int) (f : List Int) (code : Int) (e : Ending) (w' : World) : Prop := ∃ A n c, e = .returned (.tuple #[.agg #[.int .i64 p, .int .i64 k, .slice A n c], .int .i64 code]) ∧ OI w' w.heap.size 2 A n c f ∧ Below w.heap.size w w'
def RetFL (w : World) (p k : Int) (f : List Int) (e : Ending) (w' : World) : Prop := ∃ A n c, e = .returned (.agg #[.int .i64 p, .int .i64 k, .slice A n c]) ∧ OI w' w.heap.size 2 A n c f ∧ Below w.heap.size w w'
set_option maxHeartbeats 800000 in
theorem makeField_no (q : Int) (w : World) (h : (ppF q).1 = 0 ∨ 64 < q) :
    Calls Tryz.prog 143 #[.int .i64 q] w (RetFC w 0 0 [] 2) := by
  have hb0 := below_alloc w (.cells #[.int .i64 0, .int .i64 0, .slice none 0 0] 135)
  have X := Blk.new w 135 #[.int .i64 0, .int .i64 0, .slice none 0 0]
  go_enter Tryz.func143, Tryz.ntmps143
  go_wp2_with fail
  refine (primePower_any q _).mono ?_
  rintro e w1 ⟨rfl, hb1⟩
  have X1 := X.after hb1
  have hw1 := hb0.trans (hb1.mono hb0.size)
  generalize (ppF q).1 = P at *
  generalize (ppF q).2 = K at *
  obtain ⟨x0, x1, x2⟩ := X1.cells3
  have f0 := X1.frozen 0
  have f1 := X1.frozen 1
  have f2 := X1.frozen 2
  have X3 := ((X1.set_ 0 (.int .i64 0)).set_ 1 (.int .i64 0)).set_ 2 (.slice none 0 0)
  have hw3 := ((hw1.setCell (p := ⟨w.heap.size, 0, none⟩) (Nat.le_refl _) (.int .i64 0)).setCell (p := ⟨w.heap.size, 1, none⟩) (Nat.le_refl _) (.int .i64 0)).setCell (p := ⟨w.heap.size, 2, none⟩) (Nat.le_refl _) (.slice none 0 0)
  by_cases hP : P = 0
  · subst hP
    go_wp2
    clear x0 x1 x2
    obtain ⟨x0, x1, x2⟩ := X3.cells3
    exact bodyPost_ret (v := .tuple #[.agg #[.int .i64 0, .int .i64 0, .slice none 0 0], .int .i64 2]) (by simp [results, Tryz.results143, go_sem, x0, x1, x2]) rfl ⟨none, 0, 0, rfl, OI.nil_ _ _ _, hw3⟩
  · have hP' : (P == 0) = false := by simp [hP]
    have hq : q > 64 := by omega
    clear h hP
    go_wp2
    clear x0 x1 x2
    obtain ⟨x0, x1, x2⟩ := X3.cells3
    exact bodyPost_ret (v := .tuple #[.agg #[.int .i64 0, .int .i64 0, .slice none 0 0], .int .i64 2]) (by simp [results, Tryz.results143, go_sem, x0, x1, x2]) rfl ⟨none, 0, 0, rfl, OI.nil_ _ _ _, hw3⟩
set_option maxRecDepth 100000 in
set_option maxHeartbeats 800000 in
theorem makeField_ok {p : Int} {k : Nat} (hm : (p, k) ∈ PKL) (q : Int) (w : World) (hq : p ^ k = q) :
    Calls Tryz.prog 143 #[.int .i64 q] w (RetFC w p k (mkP p k) 0) := by
  obtain ⟨m1, m2, m3, m4, m5⟩ := PKL_ok hm
  obtain ⟨p2, p61⟩ := PR_bd m1
  have hpp := primePower_any q (w.alloc (.cells #[.int .i64 0, .int .i64 0, .slice none 0 0] 135))
  rw [ppF_in (by omega) (by omega), splF_of hm hq] at hpp
  have hb0 := below_alloc w (.cells #[.int .i64 0, .int .i64 0, .slice none 0 0] 135)
  have X := Blk.new w 135 #[.int .i64 0, .int .i64 0, .slice none 0 0]
  have HM := Lib.hid hm
  have HMI := Lib.hid m1
  have hq64 : q ≤ 64 := by omega
  have HQ := Lib.hid hq
  have HW := Lib.hid (wit_ok hm)
  have hwl := wit_le p k
  have hp0 : (p == 0) = false := by simp; omega
  clear hm m1 m4 m5 hq
  generalize hN : witN p k = N at *
  clear hN
  go_enter Tryz.func143, Tryz.ntmps143
  go_wp2_with fail
  refine hpp.mono ?_
  rintro e w1 ⟨rfl, hb1⟩
  have X1 := X.after hb1
  have hw1 := hb0.trans (hb1.mono hb0.size)
  clear hpp hb0 hb1 X
  go_wp2
  go_loopw [6] (fun i wr => ∃ n : Nat, n ≤ N ∧ i = .int .i64 n ∧ Below w.heap.size w wr ∧ Blk wr w.heap.size 135 #[.int .i64 0, .int .i64 0, .slice none 0 0] ∧ ∀ m : Nat, m < n → ¬ IrrC p k (digsP (m : Int) p k ++ [1])) (fun i _ => N - (intOf i).toNat)
  case atStart => exact ⟨0, Nat.zero_le _, rfl, hw1, X1, fun m h => by omega⟩
  case round =>
    clear hw1 X1
    obtain ⟨n, hn, rfl, hw, X, hno⟩ := hrel
    have HNO := Lib.hid hno
    clear hno
    have hdg := fun W : World => digitsOf_any (n : Int) p k W (by omega) (by omega) p2 (by omega) (by omega)
    go_wp2_with fail
    refine (hdg wr).mono ?_
    rintro e w2 ⟨A2, n2, c2, rfl, ho2, hb2⟩
    obtain rfl : n2 = k := by rw [← ho2.len, digs_len]
    have hw2 := hw.trans (hb2.mono hw.size)
    have X2 := X.after hb2
    have ho2 := ho2.more hw.size
    clear hb2 X
    have hws := hw2.size
    go_wp2_with (at_builtin; refine app_int _ rfl (.tmp 22) (.tmp 23) rfl w.heap.size A2 n2 c2 _ rfl ho2 1 w2.heap.size rfl rfl ⟨by omega, by omega⟩ (by omega) hws ?_; intro A4 c4 w4 ho4 hg4 hf4; have hb4 := below_own hw2 hg4 hws (fun q hq => (ho2.os.lt hq).1); have X4 := X2.grown hg4 (OS.typed' ho2.os X2 (by decide)))
    have hir := irreducible_any A4 (n2 + 1) c4 _ p n2 w4 ho4.reads rfl (dg_snoc p2 (digs_dg (by omega) _ _)) p2 (by omega) (by rw [HQ.out]; exact hq64) m3
    clear ho2 hg4 hf4 ho4 hw2 hws X2
    by_cases hI : IrrC p n2 (digsP (n : Int) p n2 ++ [1])
    · rw [tB_yes hI] at hir
      have HP := Lib.hid (mkP_eq HM.out hI HNO.out)
      clear hI
      go_wp2_with fail
      refine hir.mono ?_
      rintro e w5 ⟨rfl, hb5⟩
      have hw5 := hb4.trans (hb5.mono hb4.size)
      have X5 := X4.after hb5
      clear hir hb4 hb5 X4
      go_wp2_with fail
      refine (hdg w5).mono ?_
      rintro e w6 ⟨A6, n6, c6, rfl, ho6, hb6⟩
      obtain rfl : n6 = n2 := by rw [← ho6.len, digs_len]
      have hw6 := hw5.trans (hb6.mono hw5.size)
      have X6 := X5.after hb6
      have ho6 := ho6.more hw5.size
      clear hb6 X5
      have hws := hw6.size
      go_wp2_with (at_builtin; refine app_int _ rfl (.tmp 35) (.tmp 36) rfl w.heap.size A6 n6 c6 _ rfl ho6 1 w6.heap.size rfl rfl ⟨by omega, by omega⟩ (by omega) hws ?_; intro A8 c8 w8 ho8 hg8 hf8; have hb8 := below_own hw6 hg8 hws (fun q hq => (ho6.os.lt hq).1); have X8 := X6.grown hg8 (OS.typed' ho6.os X6 (by decide)); obtain ⟨x0, x1, x2⟩ := X8.cells3; have f0 := X8.frozen 0; have f1 := X8.frozen 1; have f2 := X8.frozen 2)
      have e1 : some w.heap.size ≠ blk A8 := OS.typed' ho8.os X8 (by decide)
      have X9 := ((X8.set_ 0 (.int .i64 p)).set_ 1 (.int .i64 n6)).set_ 2 (.slice A8 (n6 + 1) c8)
      have hw9 := ((hb8.setCell (p := ⟨w.heap.size, 0, none⟩) (Nat.le_refl _) (.int .i64 p)).setCell (p := ⟨w.heap.size, 1, none⟩) (Nat.le_refl _) (.int .i64 n6)).setCell (p := ⟨w.heap.size, 2, none⟩) (Nat.le_refl _) (.slice A8 (n6 + 1) c8)
      have ho9 := ((ho8.kept (grown_set (g := w.heap.size) (p := 0) (u := .int .i64 p)) (.inr fun e => e1 e.symm)).kept (grown_set (g := w.heap.size) (p := 1) (u := .int .i64 n6)) (.inr fun e => e1 e.symm)).kept (grown_set (g := w.heap.size) (p := 2) (u := .slice A8 (n6 + 1) c8)) (.inr fun e => e1 e.symm)
      clear x0 x1 x2
      obtain ⟨x0, x1, x2⟩ := X9.cells3
      exact bodyPost_ret (v := .tuple #[.agg #[.int .i64 p, .int .i64 n6, .slice A8 (n6 + 1) c8], .int .i64 0]) (by simp [results, Tryz.results143, go_sem, x0, x1, x2]) rfl ⟨A8, n6 + 1, c8, rfl, by rw [HP.out]; exact ho9, hw9⟩
    · rw [tB_no hI] at hir
      have hlt : n < N := by
        rcases Nat.lt_or_ge n N with h | h
        · exact h
        · obtain rfl : n = N := by omega
          exact absurd HW.out hI
      have HNX := Lib.hid (show ∀ m : Nat, m < n + 1 → ¬ IrrC p n2 (digsP (m : Int) p n2 ++ [1]) from fun m hm => by
        by_cases e : m = n
        · subst e; exact hI
        · exact HNO.out m (by omega))
      clear hI
      go_wp2_with fail
      refine hir.mono ?_
      rintro e w5 ⟨rfl, hb5⟩
      have hw5 := hb4.trans (hb5.mono hb4.size)
      have X5 := X4.after hb5
      clear hir hb4 hb5 X4
      go_wp2
      go_roundw
      case rel => exact ⟨n + 1, by omega, by go_num, hw5, X5, HNX.out⟩
      case measure => simp [intOf]; omega
set_option maxRecDepth 100000 in
set_option maxHeartbeats 800000 in
theorem l03Make_any {p : Int} {k : Nat} (hm : (p, k) ∈ PKL) (q : Int) (w : World) (hq : p ^ k = q) :
    Calls Tryz.prog 163 #[.int .i64 q] w (RetFL w p k (mkP p k)) := by
  obtain ⟨m1, m2, m3, m4, m5⟩ := PKL_ok hm
  obtain ⟨p2, p61⟩ := PR_bd m1
  have hpp := l03Split_any q (w.alloc (.cells #[.int .i64 0, .int .i64 0, .slice none 0 0] 135)) (by omega) (by omega)
  rw [splF_of hm hq] at hpp
  have hb0 := below_alloc w (.cells #[.int .i64 0, .int .i64 0, .slice none 0 0] 135)
  have X := Blk.new w 135 #[.int .i64 0, .int .i64 0, .slice none 0 0]
  have HM := Lib.hid hm
  have HMI := Lib.hid m1
  have hq64 : q ≤ 64 := by omega
  have HQ := Lib.hid hq
  have HW := Lib.hid (wit_ok hm)
  have hwl := wit_le p k
  have hp0 : (p == 0) = false := by simp; omega
  clear hm m1 m4 m5 hq
  generalize hN : witN p k = N at *
  clear hN
  go_enter Tryz.func163, Tryz.ntmps163
  go_wp2_with fail
  refine hpp.mono ?_
  rintro e w1 ⟨rfl, rfl⟩
  clear hpp
  go_wp2
  go_loopw [5, 6] (fun i _ wr => ∃ n : Nat, n ≤ N ∧ i = .int .i64 n ∧ Below w.heap.size w wr ∧ Blk wr w.heap.size 135 #[.int .i64 0, .int .i64 0, .slice none 0 0] ∧ ∀ m : Nat, m < n → ¬ IrrC p k (digsP (m : Int) p k ++ [1])) (fun i _ _ => N - (intOf i).toNat)
  case atStart => exact ⟨0, Nat.zero_le _, rfl, hb0, X, fun m h => by omega⟩
  case round =>
    clear hb0 X
    obtain ⟨n, hn, rfl, hw, X, hno⟩ := hrel
    have HNO := Lib.hid hno
    clear hno
    have hdg := fun W : World => l03Digits_any (n : Int) p k W (by omega) (by omega) p2 (by omega) (by omega)
    go_wp2_with fail
    refine (hdg wr).mono ?_
    rintro e w2 ⟨A2, n2, c2, rfl, ho2, hb2⟩
    obtain rfl : n2 = k := by rw [← ho2.len, digs_len]
    have hw2 := hw.trans (hb2.mono hw.size)
    have X2 := X.after hb2
    have ho2 := ho2.more hw.size
    clear hb2 X
    have hws := hw2.size
    go_wp2_with (at_builtin; refine app_int _ rfl (.tmp 17) (.tmp 18) rfl w.heap.size A2 n2 c2 _ rfl ho2 1 w2.heap.size rfl rfl ⟨by omega, by omega⟩ (by omega) hws ?_; intro A4 c4 w4 ho4 hg4 hf4; have hb4 := below_own hw2 hg4 hws (fun q hq => (ho2.os.lt hq).1); have X4 := X2.grown hg4 (OS.typed' ho2.os X2 (by decide)))
    have hir := l03Irreducible_any A4 (n2 + 1) c4 _ p n2 w4 ho4.reads rfl (dg_snoc p2 (digs_dg (by omega) _ _)) p2 (by omega) (by rw [HQ.out]; exact hq64) m3
    clear ho2 hg4 hf4 hw2 hws X2
    by_cases hI : IrrC p n2 (digsP (n : Int) p n2 ++ [1])
    · rw [tB_yes hI] at hir
      have HP := Lib.hid (mkP_eq HM.out hI HNO.out)
      clear hI
      go_wp2_with fail
      refine hir.mono ?_
      rintro e w5 ⟨rfl, hb5⟩
      have hb8 := hb4.trans (hb5.mono hb4.size)
      have X8 := X4.after hb5
      have ho8 := ho4.below hb5
      clear hir hb4 hb5 X4 ho4
      obtain ⟨x0, x1, x2⟩ := X8.cells3
      have f0 := X8.frozen 0
      have f1 := X8.frozen 1
      have f2 := X8.frozen 2
      go_wp2
      have e1 : some w.heap.size ≠ blk A4 := OS.typed' ho8.os X8 (by decide)
      have X9 := ((X8.set_ 0 (.int .i64 p)).set_ 1 (.int .i64 n2)).set_ 2 (.slice A4 (n2 + 1) c4)
      have hw9 := ((hb8.setCell (p := ⟨w.heap.size, 0, none⟩) (Nat.le_refl _) (.int .i64 p)).setCell (p := ⟨w.heap.size, 1, none⟩) (Nat.le_refl _) (.int .i64 n2)).setCell (p := ⟨w.heap.size, 2, none⟩) (Nat.le_refl _) (.slice A4 (n2 + 1) c4)
      have ho9 := ((ho8.kept (grown_set (g := w.heap.size) (p := 0) (u := .int .i64 p)) (.inr fun e => e1 e.symm)).kept (grown_set (g := w.heap.size) (p := 1) (u := .int .i64 n2)) (.inr fun e => e1 e.symm)).kept (grown_set (g := w.heap.size) (p := 2) (u := .slice A4 (n2 + 1) c4)) (.inr fun e => e1 e.symm)
      clear x0 x1 x2
      obtain ⟨x0, x1, x2⟩ := X9.cells3
      exact bodyPost_ret (v := .agg #[.int .i64 p, .int .i64 n2, .slice A4 (n2 + 1) c4]) (by simp [results, Tryz.results163, go_sem, x0, x1, x2]) rfl ⟨A4, n2 + 1, c4, rfl, by rw [HP.out]; exact ho9, hw9⟩
    · rw [tB_no hI] at hir
      have hlt : n < N := by
        rcases Nat.lt_or_ge n N with h | h
        · exact h
        · obtain rfl : n = N := by omega
          exact absurd HW.out hI
      have HNX := Lib.hid (show ∀ m : Nat, m < n + 1 → ¬ IrrC p n2 (digsP (m : Int) p n2 ++ [1]) from fun m hm => by
        by_cases e : m = n
        · subst e; exact hI
        · exact HNO.out m (by omega))
      clear hI
      go_wp2_with fail
      refine hir.mono ?_
      rintro e w5 ⟨rfl, hb5⟩
      have hw5 := hb4.trans (hb5.mono hb4.size)
      have X5 := X4.after hb5
      clear hir hb4 hb5 X4
      go_wp2
      go_roundw
      case rel => exact ⟨n + 1, by omega, by go_num, hw5, X5, HNX.out⟩
      case measure => simp [intOf]; omega
structure FAt (w : World) (g : Nat) (P D : Int) (A : Option Addr) (n c : Nat) (f : List Int) : Prop where
  c0 : w.cell? ⟨g, 0, none⟩ = some (.int .i64 P)
  c1 : w.cell? ⟨g, 1, none⟩ = some (.int .i64 D)
  c2 : w.cell? ⟨g, 2, none⟩ = some (.slice A n c)
  ri : RI w A n f
theorem FAt.keep {w w' : World} {g : Nat} {P D : Int} {A : Option Addr} {n c : Nat} {f : List Int} (h : FAt w g P D A n c f) (hb : Below w.heap.size w w') : FAt w' g P D A n c f :=
  ⟨below_cell hb h.c0, below_cell hb h.c1, below_cell hb h.c2, h.ri.keep hb⟩
def splS (q : Int) : Int := if 2 ≤ q ∧ q ≤ 64 then (splF q).1 else 0
def ovTo (F : Nat → Int) (l : List Int) (j : Nat) : List Int := (List.range j).map F ++ l.drop j
theorem ovTo_zero (F : Nat → Int) (l : List Int) : ovTo F l 0 = l := by simp [ovTo]
theorem ovTo_all (F : Nat → Int) (l : List Int) : ovTo F l l.length = (List.range l.length).map F := by simp [ovTo]
theorem ovTo_nth {F : Nat → Int} {l : List Int} {j : Nat} : nth (ovTo F l j) j = nth l j := by
  unfold ovTo nth
  simp [List.getD, List.getElem?_append]
theorem ovTo_step {F : Nat → Int} {l : List Int} {j : Nat} (h : j < l.length) : (ovTo F l j).set j (F j) = ovTo F l (j + 1) := by
  unfold ovTo
  rw [List.set_append_right _ _ (by simp), List.length_map, List.length_range, Nat.sub_self, List.drop_eq_getElem_cons h, List.set_cons_zero, List.range_succ, List.map_append, List.append_assoc]
  rfl
theorem comb_step {x y s c p : Int} (hp : 2 ≤ p) (hp2 : p ≤ 64) (hx : 0 ≤ x) (hx2 : x < p) (hy : 0 ≤ y) (hy2 : y < p) (hs : (s = 1 ∧ c = 1) ∨ (s = -1 ∧ c = p - 1)) :
    IntKind.i64.wrap (s * y) = s * y ∧ IntKind.i64.wrap (x + s * y) = x + s * y ∧ IntKind.i64.wrap (x + s * y + p) = x + s * y + p ∧ (x + s * y + p).tmod p = (x + c * y) % p ∧ 0 ≤ (x + c * y) % p ∧ (x + c * y) % p < p ∧ ¬ p = 0 := by
  have hsy : -64 ≤ s * y ∧ s * y ≤ 64 ∧ 0 ≤ x + s * y + p := by
    rcases hs with ⟨rfl, -⟩ | ⟨rfl, -⟩
    · rw [Int.one_mul]; omega
    · rw [show (-1 : Int) * y = -y from by omega]; omega
  obtain ⟨h1, h2, h3⟩ := hsy
  refine ⟨IntWalk.i64_in _ (by omega), IntWalk.i64_in _ (by omega), IntWalk.i64_in _ (by omega), ?_, Int.emod_nonneg _ (by omega), Int.emod_lt_of_pos _ (by omega), by omega⟩
  rw [Int.tmod_eq_emod_of_nonneg h3]
  rcases hs with ⟨rfl, rfl⟩ | ⟨rfl, rfl⟩
  · exact Cg.iff.1 ⟨1, by rw [Int.mul_one]⟩
  · refine Cg.iff.1 ⟨1 - y, ?_⟩
    rw [Int.mul_sub, Int.sub_mul]; omega
set_option maxHeartbeats 400000 in
theorem fieldSize_any (P : Int) (k : Nat) (A : Option Addr) (n c : Nat) (w : World) (hP : 2 ≤ P) (hP2 : P ≤ 64) (hq : P ^ k ≤ 64) (hk : k ≤ 6) :
    Calls Tryz.prog 203 #[.agg #[.int .i64 P, .int .i64 k, .slice A n c]] w (fun e w' => e = .returned (.int .i64 (P ^ k)) ∧ Below w.heap.size w w') := by
  have hb0 := below_alloc w (.cells #[.int .i64 P, .int .i64 k, .slice A n c] 135)
  go_enter Tryz.func203, Tryz.ntmps203
  go_wp2_with fail
  refine (powerUpTo_any P k 64 _ hP (by omega) (by omega) (by omega) (by omega) (by omega)).mono ?_
  rintro e w' ⟨r, rfl, hcap, rfl⟩
  rw [Int.toNat_natCast] at hcap
  have := hcap.eq hq
  subst this
  go_wp2
  go_ret
  exact ⟨rfl, hb0⟩
set_option maxRecDepth 100000 in
set_option maxHeartbeats 800000 in
theorem combine_any (p : Int) (k : Nat) (A : Option Addr) (n c : Nat) (a b s cc : Int) (w : World) (hp : 2 ≤ p) (hp2 : p ≤ 61) (hq : p ^ k ≤ 64) (hk : k ≤ 6) (ha : 0 ≤ a ∧ a ≤ 64) (hb : 0 ≤ b ∧ b ≤ 64) (hs : (s = 1 ∧ cc = 1) ∨ (s = -1 ∧ cc = p - 1)) :
    Calls Tryz.prog 144 #[.agg #[.int .i64 p, .int .i64 k, .slice A n c], .int .i64 a, .int .i64 b, .int .i64 s] w (fun e w' => e = .returned (.int .i64 (sumP p k cc a b)) ∧ Below w.heap.size w w') := by
  have hb0 := below_alloc w (.cells #[.int .i64 p, .int .i64 k, .slice A n c] 135)
  have X := Blk.new w 135 #[.int .i64 p, .int .i64 k, .slice A n c]
  obtain ⟨a0, a1⟩ := ha
  obtain ⟨b0, b1⟩ := hb
  have hbd := hb0.trans (below_drewn' w.heap.size _ 1)
  have HX := Lib.hid (X.after (below_drewn _ 1))
  have HB := Lib.hid hbd
  have HQ := Lib.hid hq
  clear hq hbd
  go_enter Tryz.func144, Tryz.ntmps144
  obtain ⟨x0, x1, x2⟩ := X.cells3
  go_wp2
  clear x0 x1 x2 X hb0
  go_region_held_law (fun w' => w'.cell? ⟨w.heap.size, 0, none⟩ = some (.int .i64 p) ∧ w'.cell? ⟨w.heap.size, 1, none⟩ = some (.int .i64 k))
    (first | exact ⟨HX.out.cells3.1, HX.out.cells3.2.1⟩ | exact ⟨X2.cells3.1, X2.cells3.2.1⟩ | exact ⟨X3.cells3.1, X3.cells3.2.1⟩)
    ((first
      | (go_at_call_of 178 (Value.int .i64 a); refine (digitsOf_any a p k _ a0 (by omega) hp (by omega) (by omega)).mono ?_; rintro e w2 ⟨A2, n2, c2, rfl, ho2, hb2⟩; have X2 := HX.out.after hb2; have hw2 := HB.out.trans (hb2.mono HB.out.size))
      | (go_at_call_of 178 (Value.int .i64 b); refine (digitsOf_any b p k _ b0 (by omega) hp (by omega) (by omega)).mono ?_; rintro e w3 ⟨A3, n3, c3, rfl, ho3, hb3⟩; have X3 := X2.after hb3; have hw3 := hw2.trans (hb3.mono hw2.size))))
  have hzz : w.heap.size ≤ ((w.alloc (.cells #[.int .i64 p, .int .i64 k, .slice A n c] 135)).drewN 1).heap.size := HB.out.size
  obtain rfl : k = n2 := by rw [← ho2.len, digs_len]
  obtain rfl : k = n3 := by rw [← ho3.len, digs_len]
  have hap : blk A3 = none ∨ blk A3 ≠ blk A2 := by
    cases h3 : blk A3 with
    | none => exact .inl rfl
    | some g3 =>
      refine .inr fun e => ?_
      have := (ho3.os.lt h3).1
      have := (ho2.os.lt e.symm).2
      omega
  have ho2 := (ho2.below hb3).more hzz
  have ho3 := ho3.more hw2.size
  have hD2 := digs_dg (p := p) (by omega) a k
  have hD3 := digs_dg (p := p) (by omega) b k
  have hl2 := digs_len a p k
  clear hw2 hb2 hb3 X2 HX HB hzz
  have HSum := Lib.hid (show sumP p k cc a b = numR ((List.range k).map fun i => (nth (digsP a p k) i + cc * nth (digsP b p k) i) % p) p from rfl)
  generalize digsP a p k = x at *
  generalize digsP b p k = y at *
  have HL2 := Lib.hid hl2
  clear hl2
  rw [← ovTo_zero (fun i => (nth x i + cc * nth y i) % p) x] at ho2
  go_wp2
  go_loopw [11, 26] (fun _ i wr => ∃ j : Nat, j ≤ k ∧ i = .int .i64 j ∧ OI wr w.heap.size 2 A2 k c2 (ovTo (fun i => (nth x i + cc * nth y i) % p) x j) ∧ OI wr w.heap.size 2 A3 k c3 y ∧ Blk wr w.heap.size 135 #[.int .i64 p, .int .i64 k, .slice A n c] ∧ Below w.heap.size w wr) (fun _ i _ => k - (intOf i).toNat)
  case atStart => exact ⟨0, Nat.zero_le _, rfl, ho2, ho3, X3, hw3⟩
  case round =>
    clear ho2 ho3 X3 hw3
    obtain ⟨j, hj, rfl, ho2, ho3, X, hw⟩ := hrel
    by_cases hlt : j < k
    · have hw0 := hw.trans (below_drewn' _ wr 1)
      have ho20 := ho2.below (below_drewn wr 1)
      have ho30 := ho3.below (below_drewn wr 1)
      have X0 := X.after (below_drewn wr 1)
      obtain ⟨gA, rfl, ca, fa, ia⟩ := ho20.cell hlt
      obtain ⟨gB, rfl, cb, fb, ib⟩ := ho30.cell hlt
      rw [ovTo_nth] at ca ia
      obtain ⟨z0, z1⟩ := hD2 j
      obtain ⟨y0, y1⟩ := hD3 j
      obtain ⟨q1, q2, q3, q4, q5, q6, q7⟩ := comb_step (x := nth x j) (y := nth y j) (s := s) (c := cc) hp (by omega) z0 z1 y0 y1 hs
      have HS := Lib.hid (show (ovTo (fun i => (nth x i + cc * nth y i) % p) x j).set j ((nth x j + cc * nth y j) % p) = ovTo (fun i => (nth x i + cc * nth y i) % p) x (j + 1) from ovTo_step (F := fun i => (nth x i + cc * nth y i) % p) (by rw [HL2.out]; exact hlt))
      have hne : some w.heap.size ≠ blk (some ⟨gA, 0, none⟩ : Option Addr) := OS.typed' ho20.os X0 (by decide)
      have hgl := (ho20.os.lt (k := gA) rfl).1
      have hapg : gB ≠ gA := fun e => by
        rcases hap with h | h
        · cases h
        · exact h (by simp [blk, e])
      have hneg : w.heap.size ≠ gA := fun e => hne (by simp [blk, e])
      have o2 := ho20.set j (u := (nth x j + cc * nth y j) % p) ⟨by omega, by omega⟩
      have o3 := ho30.kept (grown_set (g := gA) (p := j) (u := .int .i64 ((nth x j + cc * nth y j) % p))) (.inr fun e => by simp [blk] at e; exact hapg e)
      have XN := X0.far (p := ⟨gA, j, none⟩) hneg (.int .i64 ((nth x j + cc * nth y j) % p))
      have hwN := hw0.setCell (p := ⟨gA, j, none⟩) hgl (.int .i64 ((nth x j + cc * nth y j) % p))
      rw [HS.out] at o2
      have cp := X0.cells3.1
      simp only [← World.drew_is_drewN] at ca fa cb cp o2 o3 XN hwN
      clear ho20 ho30 X0 hw0 ho2 ho3 X hw HS hne hapg hneg q5 q6 ia ib
      generalize nth x j = xx at *
      generalize nth y j = yy at *
      go_wp2
      refine region_last (P := Tryz.prog) (S := fun w' => w'.cell? ⟨gA, j, none⟩ = some (.int .i64 xx) ∧ w'.cell? ⟨gB, j, none⟩ = some (.int .i64 yy) ∧ w'.cell? ⟨w.heap.size, 0, none⟩ = some (.int .i64 p)) (by kernel_rfl) (by simp only [List.getLast?_cons_cons, List.getLast?_singleton]; rfl) (by dsimp only [List.dropLast]) (by kernel_rfl) ⟨ca, cb, cp⟩ ?_
      intro hS
      refine wpAnyH_take (i := 0) (v := ?_) rfl (by kernel_rfl) (by kernel_rfl) (by kernel_rfl) (fun _ _ _ h => h) (Or.inl ⟨by rfl, ?_⟩) (by assumption) ?_
      rotate_left
      · (intro w hSw; (try dsimp only at hSw); go_simp; (try with_reducible rfl))
      simp only [Act.put, List.setIfInBounds_toArray, List.set_cons_zero, List.set_cons_succ]
      refine wpAnyH_take (i := 1) (v := ?_) rfl (by kernel_rfl) (by kernel_rfl) (by kernel_rfl) (fun _ _ _ h => h) (Or.inl ⟨by rfl, ?_⟩) (by assumption) ?_
      rotate_left
      · (intro w hSw; (try dsimp only at hSw); go_simp; (try with_reducible rfl))
      simp only [Act.put, List.setIfInBounds_toArray, List.set_cons_zero, List.set_cons_succ]
      refine wpAnyH_take (i := 2) (v := ?_) rfl (by kernel_rfl) (by kernel_rfl) (by kernel_rfl) (fun _ _ _ h => h) (Or.inl ⟨by rfl, ?_⟩) (by assumption) ?_
      rotate_left
      · (intro w hSw; (try dsimp only at hSw); go_simp; (try with_reducible rfl))
      simp only [Act.put, List.setIfInBounds_toArray, List.set_cons_zero, List.set_cons_succ]
      refine wpAnyH_take (i := 3) (v := ?_) rfl (by kernel_rfl) (by kernel_rfl) (by kernel_rfl) (fun _ _ _ h => h) (Or.inl ⟨by rfl, ?_⟩) (by assumption) ?_
      rotate_left
      · (intro w hSw; (try dsimp only at hSw); go_simp; (try with_reducible rfl))
      simp only [Act.put, List.setIfInBounds_toArray, List.set_cons_zero, List.set_cons_succ]
      refine wpAnyH_take (i := 4) (v := ?_) rfl (by kernel_rfl) (by kernel_rfl) (by kernel_rfl) (fun _ _ _ h => h) (Or.inl ⟨by rfl, ?_⟩) (by assumption) ?_
      rotate_left
      · (intro w hSw; (try dsimp only at hSw); go_simp; (try with_reducible rfl))
      simp only [Act.put, List.setIfInBounds_toArray, List.set_cons_zero, List.set_cons_succ]
      refine wpAnyH_take (i := 5) (v := ?_) rfl (by kernel_rfl) (by kernel_rfl) (by kernel_rfl) (fun _ _ _ h => h) (Or.inl ⟨by rfl, ?_⟩) (by assumption) ?_
      rotate_left
      · (intro w hSw; (try dsimp only at hSw); go_simp; (try with_reducible rfl))
      simp only [Act.put, List.setIfInBounds_toArray, List.set_cons_zero, List.set_cons_succ]
      refine wpAnyH_take (i := 6) (v := ?_) rfl (by kernel_rfl) (by kernel_rfl) (by kernel_rfl) (fun _ _ _ h => h) (Or.inl ⟨by rfl, ?_⟩) (by assumption) ?_
      rotate_left
      · (intro w hSw; (try dsimp only at hSw); go_simp; (try with_reducible rfl))
      simp only [Act.put, List.setIfInBounds_toArray, List.set_cons_zero, List.set_cons_succ]
      refine wpAnyH_take (i := 7) (v := ?_) rfl (by kernel_rfl) (by kernel_rfl) (by kernel_rfl) (fun _ _ _ h => h) (Or.inl ⟨by rfl, ?_⟩) (by assumption) ?_
      rotate_left
      · (intro w hSw; (try dsimp only at hSw); go_simp; (try with_reducible rfl))
      simp only [Act.put, List.setIfInBounds_toArray, List.set_cons_zero, List.set_cons_succ]
      refine wpAnyH_take (i := 8) (v := ?_) rfl (by kernel_rfl) (by kernel_rfl) (by kernel_rfl) (fun _ _ _ h => h) (Or.inl ⟨by rfl, ?_⟩) (by assumption) ?_
      rotate_left
      · (intro w hSw; (try dsimp only at hSw); go_simp; (try with_reducible rfl))
      simp only [Act.put, List.setIfInBounds_toArray, List.set_cons_zero, List.set_cons_succ]
      refine wpAnyH_take (i := 9) (v := ?_) rfl (by kernel_rfl) (by kernel_rfl) (by kernel_rfl) (fun _ _ _ h => h) (Or.inl ⟨by rfl, ?_⟩) (by assumption) ?_
      rotate_left
      · (intro w hSw; (try dsimp only at hSw); go_simp; (try with_reducible rfl))
      simp only [Act.put, List.setIfInBounds_toArray, List.set_cons_zero, List.set_cons_succ]
      refine wpAnyH_take (i := 10) (v := ?_) rfl (by kernel_rfl) (by kernel_rfl) (by kernel_rfl) (fun _ _ _ h => h) (Or.inl ⟨by rfl, ?_⟩) (by assumption) ?_
      rotate_left
      · (intro w hSw; (try dsimp only at hSw); go_simp; (try with_reducible rfl))
      simp only [Act.put, List.setIfInBounds_toArray, List.set_cons_zero, List.set_cons_succ]
      refine wpAnyH_take (i := 11) (v := ?_) rfl (by kernel_rfl) (by kernel_rfl) (by kernel_rfl) (fun _ _ _ h => h) (Or.inl ⟨by rfl, ?_⟩) (by assumption) ?_
      rotate_left
      · (intro w hSw; (try dsimp only at hSw); go_simp; (try with_reducible rfl))
      simp only [Act.put, List.setIfInBounds_toArray, List.set_cons_zero, List.set_cons_succ]
      refine wpAnyH_take (i := 12) (v := ?_) rfl (by kernel_rfl) (by kernel_rfl) (by kernel_rfl) (fun _ _ _ h => h) (Or.inl ⟨by rfl, ?_⟩) (by assumption) ?_
      rotate_left
      · (intro w hSw; (try dsimp only at hSw); go_simp; (try with_reducible rfl))
      simp only [Act.put, List.setIfInBounds_toArray, List.set_cons_zero, List.set_cons_succ]
      refine wpAnyH_take (i := 13) (v := ?_) rfl (by kernel_rfl) (by kernel_rfl) (by kernel_rfl) (fun _ _ _ h => h) (Or.inl ⟨by rfl, ?_⟩) (by assumption) ?_
      rotate_left
      · (intro w hSw; (try dsimp only at hSw); go_simp; (try with_reducible rfl))
      simp only [Act.put, List.setIfInBounds_toArray, List.set_cons_zero, List.set_cons_succ]
      refine wpAnyH_take (i := 14) (v := ?_) rfl (by kernel_rfl) (by kernel_rfl) (by kernel_rfl) (fun _ _ _ h => h) (Or.inl ⟨by rfl, ?_⟩) (by assumption) ?_
      rotate_left
      · (intro w hSw; (try dsimp only at hSw); go_simp; (try with_reducible rfl))
      simp only [Act.put, List.setIfInBounds_toArray, List.set_cons_zero, List.set_cons_succ]
      refine wpAnyH_take (i := 15) (v := ?_) rfl (by kernel_rfl) (by kernel_rfl) (by kernel_rfl) (fun _ _ _ h => h) (Or.inl ⟨by rfl, ?_⟩) (by assumption) ?_
      rotate_left
      · (intro w hSw; (try dsimp only at hSw); go_simp; (try with_reducible rfl))
      simp only [Act.put, List.setIfInBounds_toArray, List.set_cons_zero, List.set_cons_succ]
      refine wpAnyH_take (i := 16) (v := ?_) rfl (by kernel_rfl) (by kernel_rfl) (by kernel_rfl) (fun _ _ _ h => h) (Or.inl ⟨by rfl, ?_⟩) (by assumption) ?_
      rotate_left
      · (intro w hSw; (try dsimp only at hSw); go_simp; (try with_reducible rfl))
      simp only [Act.put, List.setIfInBounds_toArray, List.set_cons_zero, List.set_cons_succ]
      refine wpAnyH_take (i := 17) (v := ?_) rfl (by kernel_rfl) (by kernel_rfl) (by kernel_rfl) (fun _ _ _ h => h) (Or.inl ⟨by rfl, ?_⟩) (by assumption) ?_
      rotate_left
      · (intro w hSw; (try dsimp only at hSw); go_simp; (try with_reducible rfl))
      simp only [Act.put, List.setIfInBounds_toArray, List.set_cons_zero, List.set_cons_succ]
      refine wpAnyH_take (i := 18) (v := ?_) rfl (by kernel_rfl) (by kernel_rfl) (by kernel_rfl) (fun _ _ _ h => h) (Or.inl ⟨by rfl, ?_⟩) (by assumption) ?_
      rotate_left
      · (intro w hSw; (try dsimp only at hSw); go_simp; (try with_reducible rfl))
      simp only [Act.put, List.setIfInBounds_toArray, List.set_cons_zero, List.set_cons_succ]
      refine wpAnyH_take (i := 19) (v := ?_) rfl (by kernel_rfl) (by kernel_rfl) (by kernel_rfl) (fun _ _ _ h => h) (Or.inl ⟨by rfl, ?_⟩) (by assumption) ?_
      rotate_left
      · (intro w hSw; (try dsimp only at hSw); go_simp; (try with_reducible rfl))
      simp only [Act.put, List.setIfInBounds_toArray, List.set_cons_zero, List.set_cons_succ]
      simp only [List.getElem_toArray, List.getElem_cons_succ, List.getElem_cons_zero]
      refine wpAnyH_done (by kernel_rfl) ?_ _
      dsimp only [atEnd]
      clear hS q1 q2 q3 q4 q7
      generalize wr.drew = W at *
      go_wp2
      go_roundw
      case rel => exact ⟨j + 1, by omega, by go_num, o2, o3, XN, hwN⟩
      case measure => simp [intOf]; omega
    · obtain rfl : k = j := by omega
      have hpa : ovTo (fun i => (nth x i + cc * nth y i) % p) x k = (List.range k).map fun i => (nth x i + cc * nth y i) % p := by
        have := ovTo_all (fun i => (nth x i + cc * nth y i) % p) x
        rwa [HL2.out] at this
      rw [hpa] at ho2
      clear hpa
      have hDg := map_dg (p := p) (by omega) k fun i => nth x i + cc * nth y i
      have hnum := numberOf_any A2 k c2 _ p wr ho2.reads hDg hp (by omega) (by rw [List.length_map, List.length_range]; have := HQ.out; omega) (by omega)
      rw [← HSum.out] at hnum
      obtain ⟨y0, y1, y2⟩ := X.cells3
      clear hDg ho2 ho3 X
      go_wp2_with fail
      refine hnum.mono ?_
      rintro e w' ⟨rfl, rfl⟩
      go_wp2
      go_ret
      exact ⟨rfl, hw⟩
theorem sum_step {x y c p : Int} (hp : 2 ≤ p) (hp2 : p ≤ 64) (hx : 0 ≤ x) (hx2 : x < p) (hy : 0 ≤ y) (hy2 : y < p) (hc : 0 ≤ c) (hc2 : c ≤ 64) :
    IntKind.i64.wrap (c * y) = c * y ∧ IntKind.i64.wrap (x + c * y) = x + c * y ∧ (x + c * y).tmod p = (x + c * y) % p ∧ 0 ≤ (x + c * y) % p ∧ (x + c * y) % p < p ∧ ¬ p = 0 := by
  obtain ⟨m1, m2⟩ := mul_bdF (a := c) (b := y) (x := 64) (y := 64) hc hc2 hy (by omega)
  exact ⟨IntWalk.i64_in _ (by omega), IntWalk.i64_in _ (by omega), Int.tmod_eq_emod_of_nonneg (by omega), Int.emod_nonneg _ (by omega), Int.emod_lt_of_pos _ (by omega), by omega⟩
set_option maxHeartbeats 400000 in
theorem l03Size_any (g : Nat) (p : Int) (k : Nat) (A : Option Addr) (n c : Nat) (f : List Int) (w : World) (h : FAt w g p k A n c f) (hp : 2 ≤ p) (hp2 : p ≤ 64) (hk : k ≤ 6) :
    Calls Tryz.prog 197 #[.pointer (some ⟨g, 0, none⟩)] w (Quiet w (.int .i64 (p ^ k))) := by
  have x0 := h.c0
  have x1 := h.c1
  go_enter Tryz.func197, Tryz.ntmps197
  go_wp2
  go_quiet ((go_at_call 79; exact Quiet.call ((l03Power_any p k _ hp hp2 hk).mono fun _ _ h => Quiet.of_same h)))
  go_wp2
  go_ret
  exact ⟨rfl, ⟨_, rfl⟩⟩
set_option maxRecDepth 100000 in
set_option maxHeartbeats 800000 in
theorem l03Sum_any (g : Nat) (p : Int) (k : Nat) (A : Option Addr) (n c : Nat) (f : List Int) (a b cc : Int) (w : World) (h : FAt w g p k A n c f) (hp : 2 ≤ p) (hp2 : p ≤ 61) (hq : p ^ k ≤ 64) (hk : k ≤ 6) (ha : 0 ≤ a ∧ a ≤ 64) (hb : 0 ≤ b ∧ b ≤ 64) (hc : 0 ≤ cc ∧ cc ≤ 64) :
    Calls Tryz.prog 164 #[.pointer (some ⟨g, 0, none⟩), .int .i64 a, .int .i64 b, .int .i64 cc] w (fun e w' => e = .returned (.int .i64 (sumP p k cc a b)) ∧ Below w.heap.size w w') := by
  obtain ⟨a0, a1⟩ := ha
  obtain ⟨b0, b1⟩ := hb
  obtain ⟨c0, c1⟩ := hc
  have HQ := Lib.hid hq
  have H := Lib.hid h
  have HF1 := Lib.hid (h.keep (below_drewn w 1))
  have x0 := h.c0
  have x1 := h.c1
  clear hq h
  go_enter Tryz.func164, Tryz.ntmps164
  go_wp2
  clear x0 x1
  go_region_held_law (fun w' => w'.cell? ⟨g, 0, none⟩ = some (.int .i64 p) ∧ w'.cell? ⟨g, 1, none⟩ = some (.int .i64 k))
    (first | exact ⟨HF1.out.c0, HF1.out.c1⟩ | exact ⟨HF2.out.c0, HF2.out.c1⟩)
    ((go_at_call 193; refine (l03Digits_any a p k _ a0 (by omega) hp (by omega) (by omega)).mono ?_; rintro e w2 ⟨A2, n2, c2, rfl, ho2, hb2⟩; have HF2 := Lib.hid (HF1.out.keep hb2)))
  have hw2 := (below_drewn w 1).trans (hb2.mono (Nat.le_refl _))
  have hzz : w.heap.size ≤ (w.drewN 1).heap.size := Nat.le_refl _
  obtain rfl : k = n2 := by rw [← ho2.len, digs_len]
  have HF3 := Lib.hid (HF2.out.keep (below_drewn w2 1))
  have x0 := HF2.out.c0
  have x1 := HF2.out.c1
  have ho2 := (ho2.below (below_drewn w2 1)).more hzz
  clear hb2
  go_wp2
  clear x0 x1
  go_region_held_law (fun w' => w'.cell? ⟨g, 0, none⟩ = some (.int .i64 p) ∧ w'.cell? ⟨g, 1, none⟩ = some (.int .i64 k))
    (first | exact ⟨HF3.out.c0, HF3.out.c1⟩ | exact ⟨HF4.out.c0, HF4.out.c1⟩)
    ((go_at_call 193; refine (l03Digits_any b p k _ b0 (by omega) hp (by omega) (by omega)).mono ?_; rintro e w3 ⟨A3, n3, c3, rfl, ho3, hb3⟩; have HF4 := Lib.hid (HF3.out.keep hb3)))
  have hw3 := (hw2.trans (below_drewn' _ w2 1)).trans (hb3.mono hw2.size)
  obtain rfl : k = n3 := by rw [← ho3.len, digs_len]
  have hap : blk A3 = none ∨ blk A3 ≠ blk A2 := by
    cases h3 : blk A3 with
    | none => exact .inl rfl
    | some g3 =>
      refine .inr fun e => ?_
      have h1 : w2.heap.size ≤ g3 := (ho3.os.lt h3).1
      have h2 : g3 < w2.heap.size := (ho2.os.lt e.symm).2
      omega
  have ho2 := ho2.below hb3
  have ho3 := ho3.more (show w.heap.size ≤ (w2.drewN 1).heap.size from hw2.size)
  have hD2 := digs_dg (p := p) (by omega) a k
  have hD3 := digs_dg (p := p) (by omega) b k
  have hl2 := digs_len a p k
  clear hw2 hb3 hzz HF1 HF2 HF3 HF4
  have HSum := Lib.hid (show sumP p k cc a b = numR ((List.range k).map fun i => (nth (digsP a p k) i + cc * nth (digsP b p k) i) % p) p from rfl)
  generalize digsP a p k = x at *
  generalize digsP b p k = y at *
  have HL2 := Lib.hid hl2
  clear hl2
  rw [← ovTo_zero (fun i => (nth x i + cc * nth y i) % p) x] at ho2
  go_wp2
  go_loopw [11] (fun i wr => ∃ j : Nat, j ≤ k ∧ i = .int .i64 j ∧ OI wr w.heap.size 2 A2 k c2 (ovTo (fun i => (nth x i + cc * nth y i) % p) x j) ∧ OI wr w.heap.size 2 A3 k c3 y ∧ Below w.heap.size w wr) (fun i _ => k - (intOf i).toNat)
  case atStart => exact ⟨0, Nat.zero_le _, rfl, ho2, ho3, hw3⟩
  case round =>
    clear ho2 ho3 hw3
    obtain ⟨j, hj, rfl, ho2, ho3, hw⟩ := hrel
    by_cases hlt : j < k
    · have hw0 := hw.trans (below_drewn' _ wr 1)
      have ho20 := ho2.below (below_drewn wr 1)
      have ho30 := ho3.below (below_drewn wr 1)
      have X0 := H.out.keep hw0
      obtain ⟨gA, rfl, ca, fa, ia⟩ := ho20.cell hlt
      obtain ⟨gB, rfl, cb, fb, ib⟩ := ho30.cell hlt
      rw [ovTo_nth] at ca ia
      obtain ⟨z0, z1⟩ := hD2 j
      obtain ⟨y0, y1⟩ := hD3 j
      obtain ⟨q1, q2, q4, q5, q6, q7⟩ := sum_step (x := nth x j) (y := nth y j) (c := cc) hp (by omega) z0 z1 y0 y1 c0 c1
      have HS := Lib.hid (show (ovTo (fun i => (nth x i + cc * nth y i) % p) x j).set j ((nth x j + cc * nth y j) % p) = ovTo (fun i => (nth x i + cc * nth y i) % p) x (j + 1) from ovTo_step (F := fun i => (nth x i + cc * nth y i) % p) (by rw [HL2.out]; exact hlt))
      have hgl := (ho20.os.lt (k := gA) rfl).1
      have hapg : gB ≠ gA := fun e => by
        rcases hap with h | h
        · cases h
        · exact h (by simp [blk, e])
      have o2 := ho20.set j (u := (nth x j + cc * nth y j) % p) ⟨by omega, by omega⟩
      have o3 := ho30.kept (grown_set (g := gA) (p := j) (u := .int .i64 ((nth x j + cc * nth y j) % p))) (.inr fun e => by simp [blk] at e; exact hapg e)
      have hwN := hw0.setCell (p := ⟨gA, j, none⟩) hgl (.int .i64 ((nth x j + cc * nth y j) % p))
      rw [HS.out] at o2
      have cp := X0.c0
      simp only [← World.drew_is_drewN] at ca fa cb cp o2 o3 hwN
      clear ho20 ho30 X0 hw0 ho2 ho3 hw HS hapg q5 q6 ia ib
      generalize nth x j = xx at *
      generalize nth y j = yy at *
      go_wp2
      refine region_last (P := Tryz.prog) (S := fun w' => w'.cell? ⟨gA, j, none⟩ = some (.int .i64 xx) ∧ w'.cell? ⟨gB, j, none⟩ = some (.int .i64 yy) ∧ w'.cell? ⟨g, 0, none⟩ = some (.int .i64 p)) (by kernel_rfl) (by simp only [List.getLast?_cons_cons, List.getLast?_singleton]; rfl) (by dsimp only [List.dropLast]) (by kernel_rfl) ⟨ca, cb, cp⟩ ?_
      intro hS
      refine wpAnyH_take (i := 0) (v := ?_) rfl (by kernel_rfl) (by kernel_rfl) (by kernel_rfl) (fun _ _ _ h => h) (Or.inl ⟨by rfl, ?_⟩) (by assumption) ?_
      rotate_left
      · (intro w hSw; (try dsimp only at hSw); go_simp; (try with_reducible rfl))
      simp only [Act.put, List.setIfInBounds_toArray, List.set_cons_zero, List.set_cons_succ]
      refine wpAnyH_take (i := 1) (v := ?_) rfl (by kernel_rfl) (by kernel_rfl) (by kernel_rfl) (fun _ _ _ h => h) (Or.inl ⟨by rfl, ?_⟩) (by assumption) ?_
      rotate_left
      · (intro w hSw; (try dsimp only at hSw); go_simp; (try with_reducible rfl))
      simp only [Act.put, List.setIfInBounds_toArray, List.set_cons_zero, List.set_cons_succ]
      refine wpAnyH_take (i := 2) (v := ?_) rfl (by kernel_rfl) (by kernel_rfl) (by kernel_rfl) (fun _ _ _ h => h) (Or.inl ⟨by rfl, ?_⟩) (by assumption) ?_
      rotate_left
      · (intro w hSw; (try dsimp only at hSw); go_simp; (try with_reducible rfl))
      simp only [Act.put, List.setIfInBounds_toArray, List.set_cons_zero, List.set_cons_succ]
      refine wpAnyH_take (i := 3) (v := ?_) rfl (by kernel_rfl) (by kernel_rfl) (by kernel_rfl) (fun _ _ _ h => h) (Or.inl ⟨by rfl, ?_⟩) (by assumption) ?_
      rotate_left
      · (intro w hSw; (try dsimp only at hSw); go_simp; (try with_reducible rfl))
      simp only [Act.put, List.setIfInBounds_toArray, List.set_cons_zero, List.set_cons_succ]
      refine wpAnyH_take (i := 4) (v := ?_) rfl (by kernel_rfl) (by kernel_rfl) (by kernel_rfl) (fun _ _ _ h => h) (Or.inl ⟨by rfl, ?_⟩) (by assumption) ?_
      rotate_left
      · (intro w hSw; (try dsimp only at hSw); go_simp; (try with_reducible rfl))
      simp only [Act.put, List.setIfInBounds_toArray, List.set_cons_zero, List.set_cons_succ]
      refine wpAnyH_take (i := 5) (v := ?_) rfl (by kernel_rfl) (by kernel_rfl) (by kernel_rfl) (fun _ _ _ h => h) (Or.inl ⟨by rfl, ?_⟩) (by assumption) ?_
      rotate_left
      · (intro w hSw; (try dsimp only at hSw); go_simp; (try with_reducible rfl))
      simp only [Act.put, List.setIfInBounds_toArray, List.set_cons_zero, List.set_cons_succ]
      refine wpAnyH_take (i := 6) (v := ?_) rfl (by kernel_rfl) (by kernel_rfl) (by kernel_rfl) (fun _ _ _ h => h) (Or.inl ⟨by rfl, ?_⟩) (by assumption) ?_
      rotate_left
      · (intro w hSw; (try dsimp only at hSw); go_simp; (try with_reducible rfl))
      simp only [Act.put, List.setIfInBounds_toArray, List.set_cons_zero, List.set_cons_succ]
      refine wpAnyH_take (i := 7) (v := ?_) rfl (by kernel_rfl) (by kernel_rfl) (by kernel_rfl) (fun _ _ _ h => h) (Or.inl ⟨by rfl, ?_⟩) (by assumption) ?_
      rotate_left
      · (intro w hSw; (try dsimp only at hSw); go_simp; (try with_reducible rfl))
      simp only [Act.put, List.setIfInBounds_toArray, List.set_cons_zero, List.set_cons_succ]
      refine wpAnyH_take (i := 8) (v := ?_) rfl (by kernel_rfl) (by kernel_rfl) (by kernel_rfl) (fun _ _ _ h => h) (Or.inl ⟨by rfl, ?_⟩) (by assumption) ?_
      rotate_left
      · (intro w hSw; (try dsimp only at hSw); go_simp; (try with_reducible rfl))
      simp only [Act.put, List.setIfInBounds_toArray, List.set_cons_zero, List.set_cons_succ]
      refine wpAnyH_take (i := 9) (v := ?_) rfl (by kernel_rfl) (by kernel_rfl) (by kernel_rfl) (fun _ _ _ h => h) (Or.inl ⟨by rfl, ?_⟩) (by assumption) ?_
      rotate_left
      · (intro w hSw; (try dsimp only at hSw); go_simp; (try with_reducible rfl))
      simp only [Act.put, List.setIfInBounds_toArray, List.set_cons_zero, List.set_cons_succ]
      refine wpAnyH_take (i := 10) (v := ?_) rfl (by kernel_rfl) (by kernel_rfl) (by kernel_rfl) (fun _ _ _ h => h) (Or.inl ⟨by rfl, ?_⟩) (by assumption) ?_
      rotate_left
      · (intro w hSw; (try dsimp only at hSw); go_simp; (try with_reducible rfl))
      simp only [Act.put, List.setIfInBounds_toArray, List.set_cons_zero, List.set_cons_succ]
      refine wpAnyH_take (i := 11) (v := ?_) rfl (by kernel_rfl) (by kernel_rfl) (by kernel_rfl) (fun _ _ _ h => h) (Or.inl ⟨by rfl, ?_⟩) (by assumption) ?_
      rotate_left
      · (intro w hSw; (try dsimp only at hSw); go_simp; (try with_reducible rfl))
      simp only [Act.put, List.setIfInBounds_toArray, List.set_cons_zero, List.set_cons_succ]
      refine wpAnyH_take (i := 12) (v := ?_) rfl (by kernel_rfl) (by kernel_rfl) (by kernel_rfl) (fun _ _ _ h => h) (Or.inl ⟨by rfl, ?_⟩) (by assumption) ?_
      rotate_left
      · (intro w hSw; (try dsimp only at hSw); go_simp; (try with_reducible rfl))
      simp only [Act.put, List.setIfInBounds_toArray, List.set_cons_zero, List.set_cons_succ]
      refine wpAnyH_take (i := 13) (v := ?_) rfl (by kernel_rfl) (by kernel_rfl) (by kernel_rfl) (fun _ _ _ h => h) (Or.inl ⟨by rfl, ?_⟩) (by assumption) ?_
      rotate_left
      · (intro w hSw; (try dsimp only at hSw); go_simp; (try with_reducible rfl))
      simp only [Act.put, List.setIfInBounds_toArray, List.set_cons_zero, List.set_cons_succ]
      refine wpAnyH_take (i := 14) (v := ?_) rfl (by kernel_rfl) (by kernel_rfl) (by kernel_rfl) (fun _ _ _ h => h) (Or.inl ⟨by rfl, ?_⟩) (by assumption) ?_
      rotate_left
      · (intro w hSw; (try dsimp only at hSw); go_simp; (try with_reducible rfl))
      simp only [Act.put, List.setIfInBounds_toArray, List.set_cons_zero, List.set_cons_succ]
      refine wpAnyH_take (i := 15) (v := ?_) rfl (by kernel_rfl) (by kernel_rfl) (by kernel_rfl) (fun _ _ _ h => h) (Or.inl ⟨by rfl, ?_⟩) (by assumption) ?_
      rotate_left
      · (intro w hSw; (try dsimp only at hSw); go_simp; (try with_reducible rfl))
      simp only [Act.put, List.setIfInBounds_toArray, List.set_cons_zero, List.set_cons_succ]
      refine wpAnyH_take (i := 16) (v := ?_) rfl (by kernel_rfl) (by kernel_rfl) (by kernel_rfl) (fun _ _ _ h => h) (Or.inl ⟨by rfl, ?_⟩) (by assumption) ?_
      rotate_left
      · (intro w hSw; (try dsimp only at hSw); go_simp; (try with_reducible rfl))
      simp only [Act.put, List.setIfInBounds_toArray, List.set_cons_zero, List.set_cons_succ]
      refine wpAnyH_take (i := 17) (v := ?_) rfl (by kernel_rfl) (by kernel_rfl) (by kernel_rfl) (fun _ _ _ h => h) (Or.inl ⟨by rfl, ?_⟩) (by assumption) ?_
      rotate_left
      · (intro w hSw; (try dsimp only at hSw); go_simp; (try with_reducible rfl))
      simp only [Act.put, List.setIfInBounds_toArray, List.set_cons_zero, List.set_cons_succ]
      refine wpAnyH_take (i := 18) (v := ?_) rfl (by kernel_rfl) (by kernel_rfl) (by kernel_rfl) (fun _ _ _ h => h) (Or.inl ⟨by rfl, ?_⟩) (by assumption) ?_
      rotate_left
      · (intro w hSw; (try dsimp only at hSw); go_simp; (try with_reducible rfl))
      simp only [Act.put, List.setIfInBounds_toArray, List.set_cons_zero, List.set_cons_succ]
      simp only [List.getElem_toArray, List.getElem_cons_succ, List.getElem_cons_zero]
      refine wpAnyH_done (by kernel_rfl) ?_ _
      dsimp only [atEnd]
      clear hS q1 q2 q4 q7
      generalize wr.drew = W at *
      go_wp2
      go_roundw
      case rel => exact ⟨j + 1, by omega, by go_num, o2, o3, hwN⟩
      case measure => simp [intOf]; omega
    · obtain rfl : k = j := by omega
      have hpa : ovTo (fun i => (nth x i + cc * nth y i) % p) x k = (List.range k).map fun i => (nth x i + cc * nth y i) % p := by
        have := ovTo_all (fun i => (nth x i + cc * nth y i) % p) x
        rwa [HL2.out] at this
      rw [hpa] at ho2
      clear hpa
      have hDg := map_dg (p := p) (by omega) k fun i => nth x i + cc * nth y i
      have hnum := l03Number_any A2 k c2 _ p wr ho2.reads hDg hp (by omega) (by rw [List.length_map, List.length_range]; have := HQ.out; omega) (by omega)
      rw [← HSum.out] at hnum
      have y0 := (H.out.keep hw).c0
      clear hDg ho2 ho3
      go_wp2_with fail
      refine hnum.mono ?_
      rintro e w' ⟨rfl, rfl⟩
      go_wp2
      go_ret
      exact ⟨rfl, hw⟩
end Go.Proofs.YtnmcmologlgccaaGreat
