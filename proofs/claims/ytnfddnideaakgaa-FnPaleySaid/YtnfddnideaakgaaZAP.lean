/- Least translates, multipliers: the program's side. No condition beyond those stated. -/
import Derived.Test.YtnfddnideaakgaaZAO
import Derived.Test.YtnfddnideaakgaaZAG
import Derived.Test.YtnfddnideaakgaaZAC
import Derived.Test.YtnfddnideaakgaaZAD
import Derived.Test.YtnfddnideaakgaaZAB
set_option linter.unusedVariables false
set_option linter.unusedSimpArgs false
namespace Go.Proofs.Ytnfddnideaakgaa
open Go.RowKit

theorem mapK_len (n : Nat) (f : Int → Int) (s : List Int) : (mapK n f s).length = s.length := by unfold mapK; rw [srt_len, List.length_map]
theorem normK_len (n : Nat) (s : List Int) (k : Nat) : (normK n s k).length = s.length := by
  induction k with
  | zero => rfl
  | succ k ih => unfold normK; split; exact mapK_len _ _ _; exact ih
set_option maxRecDepth 100000 in
set_option maxHeartbeats 2000000 in
theorem normalSet_any (n : Nat) (A : Option Addr) (m c : Nat) (s : List Int) (w : World) (ha : RI w A m s) (hm : m ≤ 1000) (hn : 1 ≤ n) (hn2 : n ≤ 1000) (hs : ∀ i, i < s.length → 0 ≤ nth s i ∧ nth s i ≤ 1000) :
    Calls Try.prog 16 #[.int .i64 n, .slice A m c] w (RetI w 2 (normK n s n)) := by
  have hla := ha.len
  have HS := Lib.hid hs
  clear hs
  go_enter Try.func16, Try.ntmps16
  go_wp2
  go_loopw [5, 10] (fun r iv wr => ∃ (k : Nat) (B : Option Addr) (b bc : Nat), k ≤ n ∧ iv = .int .i64 k ∧ r = .slice B b bc ∧ RI wr B b (normK n s k) ∧ Below w.heap.size w wr) (fun _ iv _ => n - (intOf iv).toNat)
  case atStart => exact ⟨0, A, m, c, Nat.zero_le _, rfl, rfl, ha, Below.refl _ _⟩
  case round =>
    obtain ⟨k, B, b, bc, hk, rfl, rfl, hr, hb⟩ := hrel
    have hbl := hr.len
    rw [normK_len] at hbl
    by_cases hlt : k < n
    · have htr := translate_any n A m c s k wr (ha.keep hb) hm hn hn2 (by omega) HS.out
      go_wp2_with fail
      refine htr.mono ?_
      rintro e w2 ⟨B2, b2, c2, rfl, ho2, hb2⟩
      have hl2 := ho2.len
      rw [show (transK n s (k : Int)).length = s.length from mapK_len _ _ _] at hl2
      have hw2 := hb.trans (hb2.mono hb.size)
      have hr2 := hr.keep hb2
      have hcm := slicesCompare_any B2 B b2 b c2 bc _ _ w2 ho2.reads hr2 (by omega) (by omega)
      by_cases hc : cmpL (transK n s (k : Int)) (normK n s k) < 0
      · have HN := Lib.hid (show normK n s (k + 1) = transK n s (k : Int) by rw [normK, if_pos hc])
        have ho3 := ho2.reads
        rw [← HN.out] at ho3
        generalize cmpL (transK n s (k : Int)) (normK n s k) = z at *
        go_wp2_with fail
        refine hcm.mono ?_
        rintro e w3 ⟨rfl, rfl⟩
        go_wp2
        go_roundw
        case rel => exact ⟨k + 1, B2, b2, c2, by omega, by go_num, rfl, ho3, hw2⟩
        case measure => simp [intOf]; omega
      · have HN := Lib.hid (show normK n s (k + 1) = normK n s k by rw [normK, if_neg hc])
        rw [← HN.out] at hr2
        generalize hz : cmpL (transK n s (k : Int)) (normK n s k) = z at *
        clear hz
        go_wp2_with fail
        refine hcm.mono ?_
        rintro e w3 ⟨rfl, rfl⟩
        go_wp2
        go_roundw
        case rel => exact ⟨k + 1, B, b, bc, by omega, by go_num, rfl, hr2, hw2⟩
        case measure => simp [intOf]; omega
    · obtain rfl : k = n := by omega
      go_wp2_with fail
      refine (clone_any B b bc _ wr hr (by omega)).mono ?_
      rintro e w2 ⟨B2, b2, c2, rfl, ho2, hb2⟩
      go_wp2
      go_ret
      exact ⟨B2, b2, c2, rfl, ho2.more hb.size, hb.trans (hb2.mono hb.size)⟩
/-- the multipliers below k -/
def mulsK (n : Nat) (s : List Int) (k : Nat) : List Int := ((List.range k).filter fun t => decide (Nat.gcd t n = 1) && decide (0 < t) && decide (normK n (mulK n s (t : Int)) n = normK n s n)).map fun (t : Nat) => (t : Int)
theorem mulsK_one (n : Nat) (s : List Int) : mulsK n s 1 = [] := by simp [mulsK, List.range_succ]
theorem mulsK_yes {n k : Nat} {s : List Int} (h0 : 0 < k) (h1 : Nat.gcd k n = 1) (h2 : normK n (mulK n s (k : Int)) n = normK n s n) : mulsK n s (k + 1) = mulsK n s k ++ [(k : Int)] := by
  unfold mulsK
  rw [List.range_succ, List.filter_append, List.map_append, List.filter_cons_of_pos (by simp [h0, h1, h2])]
  simp
theorem mulsK_no {n k : Nat} {s : List Int} (h : ¬ (Nat.gcd k n = 1 ∧ normK n (mulK n s (k : Int)) n = normK n s n)) : mulsK n s (k + 1) = mulsK n s k := by
  unfold mulsK
  rw [List.range_succ, List.filter_append, List.map_append, List.filter_cons_of_neg (by
    simp only [Bool.and_eq_true, decide_eq_true_eq]
    exact fun ⟨⟨a, _⟩, b⟩ => h ⟨a, b⟩)]
  simp
theorem mulsK_len (n k : Nat) (s : List Int) : (mulsK n s k).length ≤ k := by
  unfold mulsK
  rw [List.length_map]
  exact Nat.le_trans (List.length_filter_le _ _) (by simp)
theorem mapK_bd {n : Nat} {f : Int → Int} {s : List Int} (hn : 1 ≤ n) (hn2 : n ≤ 1000) : ∀ i, i < (mapK n f s).length → 0 ≤ nth (mapK n f s) i ∧ nth (mapK n f s) i ≤ 1000 := fun i hi => by
  rw [nth_get hi]
  have hm : (mapK n f s)[i] ∈ s.map fun x => f x % n := (srt_perm _).mem_iff.1 (List.getElem_mem hi)
  obtain ⟨x, _, e⟩ := List.mem_map.1 hm
  rw [← e]
  have h1 := Int.emod_nonneg (f x) (show (n : Int) ≠ 0 by omega)
  have h2 := Int.emod_lt_of_pos (f x) (show (0 : Int) < n by omega)
  omega
set_option maxRecDepth 100000 in
set_option maxHeartbeats 4000000 in
theorem multipliersOf_ok (n : Nat) (A : Option Addr) (m c : Nat) (s : List Int) (lam : Int) (w : World) (ha : RI w A m s) (hc : m ≤ c) (hc2 : c ≤ 9223372036854775807) (hn2 : 2 ≤ n) (hn : n ≤ 32) (hS : okS n s = true) (hT : flatT n s lam = true) :
    Calls Try.prog 7 #[.int .i64 n, .slice A m c] w (RetIC w 2 (mulsK n s n) 0) := by
  have hbk := okS_block hS
  have hla := ha.len
  have hm0 : 0 < m := by rw [← hla]; exact hbk.1.1
  have hm32 : m ≤ 32 := by rw [← hla]; exact hbk.2
  have hbd : ∀ i, i < s.length → 0 ≤ nth s i ∧ nth s i ≤ 1000 := fun i hi => by have := hbk.1.2.bd i hi; omega
  have hrs := isResidueSet_ok n A m c s w ha (by omega) hn hbk.1 hm32
  have hba := below_alloc w (.cells #[.slice A m c] 23)
  have hfl := familyLambda_ok n (some ⟨w.heap.size, 0, none⟩) 1 1 [s] lam _ (RR.one ha hc hc2) (by omega) hn2 hn (resS_one hS) (fun i h1 h2 => flatT_at hT h1 h2)
  have e0 : ((m : Int) == 0) = false := by simp; omega
  go_enter Try.func7, Try.ntmps7
  go_wp2_with fail
  refine hrs.mono ?_
  rintro e w' ⟨rfl, rfl⟩
  go_wp2_with fail
  refine hfl.mono ?_
  rintro e w1 ⟨rfl, hb1⟩
  have hw1 := hba.trans (hb1.mono hba.size)
  go_wp2_with fail
  refine (normalSet_any n A m c s w1 (ha.keep hw1) (by omega) (by omega) (by omega) hbd).mono ?_
  rintro e w2 ⟨B, b, bc, rfl, ho, hb2⟩
  have hw2 := hw1.trans (hb2.mono hw1.size)
  have hrN := ho.reads
  have hbl := ho.len
  rw [normK_len] at hbl
  have HW := Lib.hid hw2
  clear hrs hfl ho hb2 hb1 hba
  go_wp2
  go_loopw [9, 10] (fun l iv wr => ∃ (k : Nat) (L : Option Addr) (ln lc : Nat), 1 ≤ k ∧ k ≤ n ∧ iv = .int .i64 k ∧ l = .slice L ln lc ∧ OI wr w2.heap.size 2 L ln lc (mulsK n s k) ∧ Below w2.heap.size w2 wr) (fun _ iv _ => n - (intOf iv).toNat)
  case atStart => exact ⟨1, none, 0, 0, Nat.le_refl _, by omega, rfl, rfl, by rw [mulsK_one]; exact OI.nil_ _ _ _, Below.refl _ _⟩
  case round =>
    obtain ⟨k, L, ln, lc, hk1, hk, rfl, rfl, ho, hb⟩ := hrel
    have hll := ho.len
    have hml := mulsK_len n k s
    have hwr := HW.out.trans (hb.mono HW.out.size)
    by_cases hlt : k < n
    · have hgc := gcd_any k n wr (by omega) (by omega)
      by_cases hg : Nat.gcd k n = 1
      · rw [hg] at hgc
        have hki : I64 (k : Int) := by unfold I64; omega
        go_wp2_with fail
        refine hgc.mono ?_
        rintro e w3 ⟨rfl, hd3⟩
        have hb3 := hb.trans (hd3.below.mono hb.size)
        have hw3 := HW.out.trans (hb3.mono HW.out.size)
        go_wp2_with fail
        refine (multiply_any n A m c s k w3 (ha.keep hw3) (by omega) (by omega) (by omega) (by omega) hbd).mono ?_
        rintro e w4 ⟨M, mn, mc, rfl, hom, hb4⟩
        have hlm := hom.len
        rw [show (mulK n s (k : Int)).length = s.length from mapK_len _ _ _] at hlm
        have hb4' := hb3.trans (hb4.mono hb3.size)
        go_wp2_with fail
        refine (normalSet_any n M mn mc (mulK n s (k : Int)) w4 hom.reads (by omega) (by omega) (by omega) (mapK_bd (by omega) (by omega))).mono ?_
        rintro e w5 ⟨N, nn, nc, rfl, hon, hb5⟩
        have hln := hon.len
        rw [normK_len, show (mulK n s (k : Int)).length = s.length from mapK_len _ _ _] at hln
        have hb5' := hb4'.trans (hb5.mono hb4'.size)
        have hrN5 := hrN.keep hb5'
        have ho5 := ho.below ((hd3.below.trans (hb4.mono hd3.below.size)).trans (hb5.mono (hd3.below.trans (hb4.mono hd3.below.size)).size))
        have heq := slicesEqual_any N B nn b nc bc _ _ w5 hon.reads hrN5 (by omega) (by omega)
        by_cases he : normK n (mulK n s (k : Int)) n = normK n s n
        · rw [show decide (normK n (mulK n s (k : Int)) n = normK n s n) = true by simp [he]] at heq
          have HY := Lib.hid (mulsK_yes (by omega) hg he)
          clear he hgc hon hom hrN5 hg
          go_wp2_with fail
          refine heq.mono ?_
          rintro e w6 ⟨rfl, hd6⟩
          have hb6 := hb5'.trans (hd6.below.mono hb5'.size)
          have ho6 := ho5.below hd6.below
          have hbs := hb6.size
          clear heq hb5' ho5 hb4' hb3
          go_wp2_with (at_builtin; refine app_int _ rfl (.tmp 51) (.tmp 53) rfl w2.heap.size L ln lc _ rfl ho6 (k : Int) w6.heap.size rfl rfl hki (by omega) hbs ?_; intro A7 c7 w7 ho7 hg7 hf7; have hb7 := below_own hb6 hg7 hbs (fun q hq => (ho6.os.lt hq).1))
          go_roundw
          case rel => exact ⟨k + 1, A7, ln + 1, c7, by omega, by omega, by go_num, rfl, by rw [HY.out]; exact ho7, hb7⟩
          case measure => simp [intOf]; omega
        · rw [show decide (normK n (mulK n s (k : Int)) n = normK n s n) = false by simp [he]] at heq
          have HY := Lib.hid (mulsK_no (k := k) (n := n) (s := s) (fun h => he h.2))
          clear he hgc hon hom hrN5 hg
          go_wp2_with fail
          refine heq.mono ?_
          rintro e w6 ⟨rfl, hd6⟩
          have hb6 := hb5'.trans (hd6.below.mono hb5'.size)
          have ho6 := ho5.below hd6.below
          go_wp2
          go_roundw
          case rel => exact ⟨k + 1, L, ln, lc, by omega, by omega, by go_num, rfl, by rw [HY.out]; exact ho6, hb6⟩
          case measure => simp [intOf]; omega
      · have HY := Lib.hid (mulsK_no (k := k) (n := n) (s := s) (fun h => hg h.1))
        have hg1 : ((Nat.gcd k n : Int) == 1) = false := by simp; omega
        have hg2 := Nat.le_of_dvd (show 0 < n by omega) (Nat.gcd_dvd_right k n)
        clear hg
        generalize hgg : Nat.gcd k n = gg at *
        clear hgg
        go_wp2_with fail
        refine hgc.mono ?_
        rintro e w3 ⟨rfl, hd3⟩
        have hb3 := hb.trans (hd3.below.mono hb.size)
        have ho3 := ho.below hd3.below
        go_wp2
        go_roundw
        case rel => exact ⟨k + 1, L, ln, lc, by omega, by omega, by go_num, rfl, by rw [HY.out]; exact ho3, hb3⟩
        case measure => simp [intOf]; omega
    · obtain rfl : k = n := by omega
      go_wp2
      go_ret2
      exact ⟨L, ln, lc, rfl, ho.more HW.out.size, hwr⟩
end Go.Proofs.Ytnfddnideaakgaa
/- Whether a budget is one, both sides. No condition beyond those stated. -/
namespace Go.Proofs.Ytnfddnideaakgaa
open Go.RowKit

theorem isBudget_any (b : Int) (w : World) : Calls Try.prog 35 #[.int .i64 b] w (fun e w' => e = .returned (.bool (inB b 1 20000)) ∧ w = w') := by
  go_enter Try.func35, Try.ntmps35
  go_wp2_with (go_at_call 20; refine (within_any _ _ _ _).mono ?_; rintro e w' ⟨rfl, rfl⟩)
  go_ret
  exact ⟨rfl, rfl⟩
end Go.Proofs.Ytnfddnideaakgaa
/- The search for a difference set: the program's side. No condition beyond those stated. -/
namespace Go.Proofs.Ytnfddnideaakgaa
open Go.RowKit

/-- the greatest of the first i + 1 numbers -/
def maxU (xs : List Int) : Nat → Int
  | 0 => nth xs 0
  | i + 1 => max (maxU xs i) (nth xs (i + 1))
abbrev CSt := Nat × Bool
def loopF (f : List Int → CSt → Option (List Int) × CSt) (s : List Int) : List Nat → CSt → Option (List Int) × CSt
  | [], c => (none, c)
  | x :: xs, c => match f (s ++ [(x : Int)]) c with
    | (some r, c') => (some r, c')
    | (none, c') => loopF f s xs c'
def lastK (s : List Int) : Nat := (nth s (s.length - 1)).toNat
/-- the search: what is found, and the budget that is left -/
def srchF (n k : Nat) (lam : Int) : Nat → List Int → CSt → Option (List Int) × CSt
  | 0, _, c => (none, c)
  | d + 1, s, c =>
    if c.2 = true then (none, c) else if c.1 = 0 then (none, (0, true)) else
    if maxU (cntT n (difS n s s.length)) (n - 1) > lam then (none, (c.1 - 1, false)) else
    if s.length = k then (some s, (c.1 - 1, false)) else
    loopF (srchF n k lam d) s ((List.range n).drop (lastK s + 1)) (c.1 - 1, false)
theorem loopF_le {f : List Int → CSt → Option (List Int) × CSt} (hf : ∀ s c, (f s c).2.1 ≤ c.1) (s : List Int) : ∀ xs c, (loopF f s xs c).2.1 ≤ c.1 := by
  intro xs
  induction xs with
  | nil => intro c; exact Nat.le_refl _
  | cons x xs ih =>
    intro c
    have h := hf (s ++ [(x : Int)]) c
    unfold loopF
    split
    · rename_i r c' e; rw [e] at h; exact h
    · rename_i c' e; rw [e] at h; exact Nat.le_trans (ih c') h
theorem srchF_le (n k : Nat) (lam : Int) : ∀ d s c, (srchF n k lam d s c).2.1 ≤ c.1 := by
  intro d
  induction d with
  | zero => intro s c; exact Nat.le_refl _
  | succ d ih =>
    intro s c
    unfold srchF
    split
    · exact Nat.le_refl _
    · split
      · exact Nat.zero_le _
      · split
        · exact Nat.sub_le _ _
        · split
          · exact Nat.sub_le _ _
          · exact Nat.le_trans (loopF_le ih s _ _) (Nat.sub_le _ _)
theorem range_drop {n x : Nat} (h : x < n) : (List.range n).drop x = x :: (List.range n).drop (x + 1) := by
  rw [List.drop_eq_getElem_cons (by simpa using h)]
  simp
theorem range_drop_all {n x : Nat} (h : n ≤ x) : (List.range n).drop x = [] := List.drop_eq_nil_of_le (by simpa using h)
/-- a list of residues -/
def ResL (n : Nat) (s : List Int) : Prop := 0 < s.length ∧ s.length ≤ 32 ∧ ∀ i, i < s.length → ∃ x : Nat, nth s i = (x : Int) ∧ x < n
theorem ResL.res {n : Nat} {s : List Int} (h : ResL n s) : ResS n [s] := fun q hq => by
  obtain rfl : q = 0 := by simpa using hq
  exact h.2
theorem ResL.snoc {n x : Nat} {s : List Int} (h : ResL n s) (hl : s.length < 32) (hx : x < n) : ResL n (s ++ [(x : Int)]) := by
  refine ⟨by simp, by simp; omega, fun i hi => ?_⟩
  rw [List.length_append, List.length_singleton] at hi
  rcases Nat.lt_succ_iff_lt_or_eq.1 hi with h1 | rfl
  · obtain ⟨y, h2, h3⟩ := h.2.2 i h1
    exact ⟨y, by rw [← h2]; simp [nth, List.getD, List.getElem?_append, h1], h3⟩
  · exact ⟨x, by simp [nth, List.getD], hx⟩
set_option maxRecDepth 100000 in
set_option maxHeartbeats 1000000 in
theorem slicesMax_any (A : Option Addr) (n c : Nat) (xs : List Int) (w : World) (ha : RI w A n xs) (h0 : 0 < n) (hn : n ≤ 1000000) :
    Calls Try.prog 49 #[.slice A n c] w fun e w' => e = .returned (.int .i64 (maxU xs (n - 1))) ∧ w = w' := by
  obtain ⟨ad, rfl, c0, -⟩ := ha.get (k := 0) h0
  have c0 : w.cell? ad = some (.int .i64 (nth xs 0)) := c0
  have hm0 : maxU xs 0 = nth xs 0 := rfl
  go_enter Try.func49, Try.ntmps49
  go_wp2
  go_loop [3, 4] (fun mv iv => ∃ i : Nat, 1 ≤ i ∧ i ≤ n ∧ iv = .int .i64 i ∧ mv = .int .i64 (maxU xs (i - 1))) (fun _ iv => n - (intOf iv).toNat)
  case atStart => exact ⟨1, Nat.le_refl _, h0, rfl, by first | rfl | simp [hm0, Addr.add]⟩
  case round =>
    obtain ⟨i, hi1, hi, rfl, rfl⟩ := hrel
    by_cases hlt : i < n
    · obtain ⟨ad', had, ci, -⟩ := ha.get hlt
      cases had
      have hst := Lib.hid (show maxU xs (i + 1 - 1) = max (maxU xs (i - 1)) (nth xs i) by
        obtain ⟨j, rfl⟩ : ∃ j, i = j + 1 := ⟨i - 1, by omega⟩
        rfl)
      generalize maxU xs (i - 1) = u at *
      generalize nth xs i = v at *
      go_wp2
      go_round
      case rel => exact ⟨i + 1, by omega, by omega, by go_num, by rw [hst.out]⟩
      case measure => simp [intOf]; omega
    · obtain rfl : i = n := by omega
      go_wp2
      go_ret
      exact ⟨rfl, rfl⟩
end Go.Proofs.Ytnfddnideaakgaa
