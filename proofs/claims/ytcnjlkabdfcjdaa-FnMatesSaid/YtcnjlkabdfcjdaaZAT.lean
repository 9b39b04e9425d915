/- The field of a size, on both sides. No condition beyond those stated. -/
import Derived.Test.YtcnjlkabdfcjdaaZAS
import Derived.Test.YtcnjlkabdfcjdaaZAM
import Derived.Deep.RegionHeldLaw
set_option linter.unusedVariables false
set_option linter.unusedSimpArgs false
namespace Go.Proofs.Ytcnjlkabdfcjdaa
open Go.RowKit

def irrB (p : Int) (k : Nat) (f : List Int) : Bool := (List.range (k + 1)).all fun d => decide (d < 1) || decide (k < 2 * d) || (List.range (p ^ d).toNat).all fun n => (remP p (digsP (n : Int) p d ++ [1]) f).any fun x => x != 0
theorem irrB_ok {p : Int} {k : Nat} {f : List Int} (h : irrB p k f = true) : IrrC p k f := fun d h1 h2 n h3 h4 => by
  have a := List.all_eq_true.1 h d (List.mem_range.2 (by omega))
  have e1 : decide (d < 1) = false := by simp; omega
  have e2 : decide (k < 2 * d) = false := by simp; omega
  rw [e1, e2, Bool.false_or, Bool.false_or] at a
  have b := List.all_eq_true.1 a n.toNat (List.mem_range.2 (by omega))
  rw [Int.toNat_of_nonneg h3] at b
  obtain ⟨x, hx, hne⟩ := List.any_eq_true.1 b
  obtain ⟨t, ht, rfl⟩ := List.mem_iff_getElem.1 hx
  exact ⟨t, by rw [nth_get ht]; simpa using hne⟩
/-- digits that do -/
def witN (p : Int) (k : Nat) : Nat := if k = 1 then 0 else if p = 2 then (if k = 5 then 5 else 3) else if p = 3 then (if k = 2 then 1 else 7) else if p = 5 then 2 else 1
theorem wit_table : (PKL.all fun a => irrB a.1 a.2 (digsP (witN a.1 a.2 : Nat) a.1 a.2 ++ [1])) = true := by decide +kernel
theorem wit_ok {p : Int} {k : Nat} (h : (p, k) ∈ PKL) : IrrC p k (digsP (witN p k : Nat) p k ++ [1]) := irrB_ok (List.all_eq_true.1 wit_table (p, k) h)
theorem wit_le (p : Int) (k : Nat) : witN p k ≤ 7 := by unfold witN; repeat (first | omega | split)
theorem mk_least {p : Int} {k : Nat} (h : (p, k) ∈ PKL) : ∃ n : Nat, n ≤ witN p k ∧ IrrC p k (digsP (n : Int) p k ++ [1]) ∧ ∀ m : Nat, m < n → ¬ IrrC p k (digsP (m : Int) p k ++ [1]) :=
  least_ (P := fun n : Nat => IrrC p k (digsP (n : Int) p k ++ [1])) (wit_ok h)
/-- the polynomial of the field that is made -/
noncomputable def mkP (p : Int) (k : Nat) : List Int := open Classical in if h : (p, k) ∈ PKL then digsP ((mk_least h).choose : Int) p k ++ [1] else []
theorem mkP_eq {p : Int} {k : Nat} (h : (p, k) ∈ PKL) {n : Nat} (h1 : IrrC p k (digsP (n : Int) p k ++ [1])) (h2 : ∀ m : Nat, m < n → ¬ IrrC p k (digsP (m : Int) p k ++ [1])) : mkP p k = digsP (n : Int) p k ++ [1] := by
  unfold mkP
  rw [dif_pos h]
  have hs := (mk_least h).choose_spec
  rcases Nat.lt_trichotomy (mk_least h).choose n with e | e | e
  · exact absurd hs.2.1 (h2 _ e)
  · rw [e]
  · exact absurd h1 (hs.2.2 _ e)
theorem mkP_ok {p : Int} {k : Nat} (h : (p, k) ∈ PKL) : FldZ p (k : Int) (mkP p k) ∧ (mkP p k).length = k + 1 := by
  obtain ⟨a, b, c, d, e⟩ := PKL_ok h
  obtain ⟨n, -, h1, h2⟩ := mk_least h
  have h2p := (PR_bd a).1
  have hD : Dg p (digsP (n : Int) p k ++ [1]) := dg_snoc h2p (digs_dg (by omega) _ _)
  have hl : (digsP (n : Int) p k ++ [1]).length = k + 1 := by simp [digs_len]
  have hm : nth (digsP (n : Int) p k ++ [1]) k = 1 := by
    have := nth_snoc (l := digsP (n : Int) p k) (x := 1)
    rwa [digs_len] at this
  rw [mkP_eq h h1 h2]
  exact ⟨(fldZ_iff a b e hl hm).2 ⟨hD, h1⟩, hl⟩
/-- a field in memory of its own, and a code -/
def RetFC (w : World) (p k : Int) (f : List Int) (code : Int) (e : Ending) (w' : World) : Prop := ∃ A n c, e = .returned (.tuple #[.agg #[.int .i64 p, .int .i64 k, .slice A n c], .int .i64 code]) ∧ OI w' w.heap.size 2 A n c f ∧ Below w.heap.size w w'
def RetF (w : World) (p k : Int) (f : List Int) (e : Ending) (w' : World) : Prop := ∃ A n c, e = .returned (.agg #[.int .i64 p, .int .i64 k, .slice A n c]) ∧ OI w' w.heap.size 2 A n c f ∧ Below w.heap.size w w'
set_option maxRecDepth 100000 in
set_option maxHeartbeats 800000 in
theorem l03Make_any {p : Int} {k : Nat} (hm : (p, k) ∈ PKL) (q : Int) (w : World) (hq : p ^ k = q) :
    Calls Try.prog 105 #[.int .i64 q] w (RetF w p k (mkP p k)) := by
  obtain ⟨m1, m2, m3, m4, m5⟩ := PKL_ok hm
  obtain ⟨p2, p61⟩ := PR_bd m1
  have hpp := l03Split_any q (w.alloc (.cells #[.int .i64 0, .int .i64 0, .slice none 0 0] 119)) (by omega) (by omega)
  rw [splF_of hm hq] at hpp
  have hb0 := below_alloc w (.cells #[.int .i64 0, .int .i64 0, .slice none 0 0] 119)
  have X := Blk.new w 119 #[.int .i64 0, .int .i64 0, .slice none 0 0]
  have HM := Lib.hid hm
  have HMI := Lib.hid m1
  have hq64 : q ≤ 64 := by omega
  have HQ := Lib.hid hq
  have HW := Lib.hid (wit_ok hm)
  have hwl := wit_le p k
  have hp0 : (p == 0) = false := by simp; omega
  clear hm m1 m4 m5 hq
  generalize hN : witN p k = N at *
  clear hN
  go_enter Try.func105, Try.ntmps105
  go_wp2_with fail
  refine hpp.mono ?_
  rintro e w1 ⟨rfl, rfl⟩
  clear hpp
  go_wp2
  go_loopw [5, 6] (fun i _ wr => ∃ n : Nat, n ≤ N ∧ i = .int .i64 n ∧ Below w.heap.size w wr ∧ Blk wr w.heap.size 119 #[.int .i64 0, .int .i64 0, .slice none 0 0] ∧ ∀ m : Nat, m < n → ¬ IrrC p k (digsP (m : Int) p k ++ [1])) (fun i _ _ => N - (intOf i).toNat)
  case atStart => exact ⟨0, Nat.zero_le _, rfl, hb0, X, fun m h => by omega⟩
  case round =>
    clear hb0 X
    obtain ⟨n, hn, rfl, hw, X, hno⟩ := hrel
    have HNO := Lib.hid hno
    clear hno
    have hdg := fun W : World => l03Digits_any (n : Int) p k W (by omega) (by omega) p2 (by omega) (by omega)
    go_wp2_with fail
    refine (hdg wr).mono ?_
    rintro e w2 ⟨A2, n2, c2, rfl, ho2, hb2⟩
    obtain rfl : n2 = k := by rw [← ho2.len, digs_len]
    have hw2 := hw.trans (hb2.mono hw.size)
    have X2 := X.after hb2
    have ho2 := ho2.more hw.size
    clear hb2 X
    have hws := hw2.size
    go_wp2_with (at_builtin; refine app_int _ rfl (.tmp 17) (.tmp 18) rfl w.heap.size A2 n2 c2 _ rfl ho2 1 w2.heap.size rfl rfl ⟨by omega, by omega⟩ (by omega) hws ?_; intro A4 c4 w4 ho4 hg4 hf4; have hb4 := below_own hw2 hg4 hws (fun q hq => (ho2.os.lt hq).1); have X4 := X2.grown hg4 (OS.typed' ho2.os X2 (by decide)))
    have hir := l03Irreducible_any A4 (n2 + 1) c4 _ p n2 w4 ho4.reads rfl (dg_snoc p2 (digs_dg (by omega) _ _)) p2 (by omega) (by rw [HQ.out]; exact hq64) m3
    clear ho2 hg4 hf4 hw2 hws X2
    by_cases hI : IrrC p n2 (digsP (n : Int) p n2 ++ [1])
    · rw [tB_yes hI] at hir
      have HP := Lib.hid (mkP_eq HM.out hI HNO.out)
      clear hI
      go_wp2_with fail
      refine hir.mono ?_
      rintro e w5 ⟨rfl, hb5⟩
      have hb8 := hb4.trans (hb5.mono hb4.size)
      have X8 := X4.after hb5
      have ho8 := ho4.below hb5
      clear hir hb4 hb5 X4 ho4
      obtain ⟨x0, x1, x2⟩ := X8.cells3
      have f0 := X8.frozen 0
      have f1 := X8.frozen 1
      have f2 := X8.frozen 2
      go_wp2
      have e1 : some w.heap.size ≠ blk A4 := OS.typed' ho8.os X8 (by decide)
      have X9 := ((X8.set_ 0 (.int .i64 p)).set_ 1 (.int .i64 n2)).set_ 2 (.slice A4 (n2 + 1) c4)
      have hw9 := ((hb8.setCell (p := ⟨w.heap.size, 0, none⟩) (Nat.le_refl _) (.int .i64 p)).setCell (p := ⟨w.heap.size, 1, none⟩) (Nat.le_refl _) (.int .i64 n2)).setCell (p := ⟨w.heap.size, 2, none⟩) (Nat.le_refl _) (.slice A4 (n2 + 1) c4)
      have ho9 := ((ho8.kept (grown_set (g := w.heap.size) (p := 0) (u := .int .i64 p)) (.inr fun e => e1 e.symm)).kept (grown_set (g := w.heap.size) (p := 1) (u := .int .i64 n2)) (.inr fun e => e1 e.symm)).kept (grown_set (g := w.heap.size) (p := 2) (u := .slice A4 (n2 + 1) c4)) (.inr fun e => e1 e.symm)
      clear x0 x1 x2
      obtain ⟨x0, x1, x2⟩ := X9.cells3
      exact bodyPost_ret (v := .agg #[.int .i64 p, .int .i64 n2, .slice A4 (n2 + 1) c4]) (by simp [results, Try.results105, go_sem, x0, x1, x2]) rfl ⟨A4, n2 + 1, c4, rfl, by rw [HP.out]; exact ho9, hw9⟩
    · rw [tB_no hI] at hir
      have hlt : n < N := by
        rcases Nat.lt_or_ge n N with h | h
        · exact h
        · obtain rfl : n = N := by omega
          exact absurd HW.out hI
      have HNX := Lib.hid (show ∀ m : Nat, m < n + 1 → ¬ IrrC p n2 (digsP (m : Int) p n2 ++ [1]) from fun m hm => by
        by_cases e : m = n
        · subst e; exact hI
        · exact HNO.out m (by omega))
      clear hI
      go_wp2_with fail
      refine hir.mono ?_
      rintro e w5 ⟨rfl, hb5⟩
      have hw5 := hb4.trans (hb5.mono hb4.size)
      have X5 := X4.after hb5
      clear hir hb4 hb5 X4
      go_wp2
      go_roundw
      case rel => exact ⟨n + 1, by omega, by go_num, hw5, X5, HNX.out⟩
      case measure => simp [intOf]; omega
end Go.Proofs.Ytcnjlkabdfcjdaa
/- spec.l03Ok: whether a field in memory is valid. No condition beyond those stated. -/
namespace Go.Proofs.Ytcnjlkabdfcjdaa
open Go.RowKit

/-- a field in memory: its three cells, its polynomial -/
structure FAt (w : World) (g : Nat) (P D : Int) (A : Option Addr) (n c : Nat) (f : List Int) : Prop where
  c0 : w.cell? ⟨g, 0, none⟩ = some (.int .i64 P)
  c1 : w.cell? ⟨g, 1, none⟩ = some (.int .i64 D)
  c2 : w.cell? ⟨g, 2, none⟩ = some (.slice A n c)
  ri : RI w A n f
theorem FAt.keep {w w' : World} {g : Nat} {P D : Int} {A : Option Addr} {n c : Nat} {f : List Int} (h : FAt w g P D A n c f) (hb : Below w.heap.size w w') : FAt w' g P D A n c f :=
  ⟨below_cell hb h.c0, below_cell hb h.c1, below_cell hb h.c2, h.ri.keep hb⟩
/-- what splitting tells of P to the power k -/
def splS (q : Int) : Int := if 2 ≤ q ∧ q ≤ 64 then (splF q).1 else 0
theorem splS_iff {P : Int} {k : Nat} (hP : 2 ≤ P) (hk : 1 ≤ k) : splS (P ^ k) = P ↔ P ∈ PR ∧ P ^ k ≤ 64 := by
  have hq2 : 2 ≤ P ^ k := by
    have := pow_mono (p := P) (by omega) hk
    rw [Int.pow_succ, Int.pow_zero, Int.one_mul] at this
    omega
  constructor
  · intro h
    unfold splS at h
    by_cases hc : 2 ≤ P ^ k ∧ P ^ k ≤ 64
    · rw [if_pos hc] at h
      rcases splF_cases (P ^ k) with ⟨p', k', h1, -, h3⟩ | ⟨-, h3⟩
      · rw [h3] at h
        have : p' = P := h
        subst this
        exact ⟨(PKL_ok h1).1, hc.2⟩
      · rw [h3] at h
        have : (0 : Int) = P := h
        omega
    · rw [if_neg hc] at h
      omega
  · rintro ⟨h1, h2⟩
    unfold splS
    rw [if_pos ⟨hq2, h2⟩, splF_of (PKL_mem h1 hk (pow_le64 hP hk h2).2 h2) rfl]
end Go.Proofs.Ytcnjlkabdfcjdaa
