/- The first design of the first seven constructions: the program's side. No condition beyond those stated. -/
import Derived.Test.YtnmcmologlgccaaGreatSZAX
set_option linter.unusedVariables false
set_option linter.unusedSimpArgs false
namespace Go.Proofs.YtnmcmologlgccaaGreat
open Go.RowKit
def cplL (v k l : Nat) : Int := bnB v k l - 2 * bnR v k l + l
def cplO (v k l : Nat) : Option (List (List Int)) :=
  if bnC v k l = 0 ∧ inRng v ((v : Int) - k) (cplL v k l) = true then (match fstD v (v - k) (cplL v k l).toNat with
    | some (_, bs) => some (srtR (cmlB v bs))
    | none => none) else none
def smpD (v k l : Nat) : Option (Nat × List (List Int)) := match fstD v k l with
  | some x => some x
  | none => (cplO v k l).map fun bs => (7, bs)
structure BaseOk : Prop where
  had : HadOk
  bal : ∀ v k l c bs, InR v k l → fstD v k l = some (c, bs) → Bal v bs k l
theorem nBR_bd {v k l : Nat} (h : InR v k l) : (0 ≤ nB v k l ∧ nB v k l ≤ 1000000) ∧ (0 ≤ nR v k l ∧ nR v k l ≤ 1000000) := by
  obtain ⟨v3, v32, k2, kv, l1, l1000⟩ := h
  have m1 : (l : Int) * v ≤ 1000 * 32 := Int.mul_le_mul (by omega) (by omega) (by omega) (by omega)
  have m2 : 0 ≤ (l : Int) * v := Int.mul_nonneg (by omega) (by omega)
  have m3 : (l : Int) * v * ((v : Int) - 1) ≤ 32000 * 31 := Int.mul_le_mul (by omega) (by omega) (by omega) (by omega)
  have m4 : 0 ≤ (l : Int) * v * ((v : Int) - 1) := Int.mul_nonneg m2 (by omega)
  have m5 : (l : Int) * ((v : Int) - 1) ≤ 1000 * 31 := Int.mul_le_mul (by omega) (by omega) (by omega) (by omega)
  have m6 : 0 ≤ (l : Int) * ((v : Int) - 1) := Int.mul_nonneg (by omega) (by omega)
  have m7 : 0 ≤ (k : Int) * ((k : Int) - 1) := Int.mul_nonneg (by omega) (by omega)
  unfold nB nR
  refine ⟨⟨Int.ediv_nonneg m4 m7, ?_⟩, ⟨Int.ediv_nonneg m6 (by omega), ?_⟩⟩
  · have := Int.ediv_le_self ((k : Int) * ((k : Int) - 1)) m4
    omega
  · have := Int.ediv_le_self ((k : Int) - 1) m6
    omega
theorem bn_bd {v k l : Nat} (h : InR v k l) : (0 ≤ bnB v k l ∧ bnB v k l ≤ 1000000) ∧ (0 ≤ bnR v k l ∧ bnR v k l ≤ 1000000) := by
  have := nBR_bd h
  unfold bnB bnR
  split <;> omega
theorem inRng_of {v k l : Nat} (h : inRng v k l = true) (h32 : v ≤ 32) : InR v k l := by
  obtain ⟨h1, _, h3, h4, h5, h6⟩ := inRng_true h
  exact ⟨by omega, h32, by omega, by omega, by omega, by omega⟩
set_option maxRecDepth 100000 in
set_option maxHeartbeats 8000000 in
theorem firstSimple_any (hB : BaseOk) (v k l : Nat) (w : World) (hr : InR v k l) :
    Calls Tryz.prog 23 #[.int .i64 v, .int .i64 k, .int .i64 l] w (RetFD w v (smpD v k l)) := by
  have hb0 := below_alloc w (.cells #[.int .i64 0, .slice none 0 0] 28)
  have Y := Blk.new w 28 #[.int .i64 0, .slice none 0 0]
  have hz0 : (w.alloc (.cells #[.int .i64 0, .slice none 0 0] 28)).heap.size = w.heap.size + 1 := by simp
  have HFD := Lib.hid (fun (k' l' : Nat) (W : World) (hr' : InR v k' l') => firstDirect_any hB.had v k' l' W hr')
  have hfd := HFD.out k l (w.alloc (.cells #[.int .i64 0, .slice none 0 0] 28)) hr
  have HR := Lib.hid hr
  have hbn := bn_bd hr
  obtain ⟨v3, v32, k2, kv, l1, l1000⟩ := hr
  cases hfo : fstD v k l with
  | some x =>
    obtain ⟨c, bs⟩ := x
    rw [hfo] at hfd
    have HF := Lib.hid (show smpD v k l = some (c, bs) by unfold smpD; rw [hfo])
    clear hfo hbn
    go_enter Tryz.func23, Tryz.ntmps23
    go_wp2_with fail
    refine hfd.mono ?_
    rintro e w5 ⟨A, n, cc, rfl, ho, hb5⟩
    have Y6 := (Y.after hb5).alloc (.cells #[.int .i64 (v : Int), .slice A n cc] 28)
    have Z6 := Blk.new w5 28 #[.int .i64 (v : Int), .slice A n cc]
    have hw5 := hb0.trans (hb5.mono hb0.size)
    have hw6 := hw5.alloc hw5.size (.cells #[.int .i64 (v : Int), .slice A n cc] 28)
    have ho6 := ho.alloc (.cells #[.int .i64 (v : Int), .slice A n cc] 28)
    obtain ⟨y0, y1⟩ := Y6.cells2
    obtain ⟨z0, z1⟩ := Z6.cells2
    have f0 := Y6.frozen 0
    have f1 := Y6.frozen 1
    obtain ⟨q0, q1, q2, q3⟩ := fin_store (v := (v : Int)) Y6 hw6 ho6 (by omega)
    have Q := Lib.hid (And.intro q0 q1)
    clear q0 q1 hfd ho hb5 Y Y6 Z6 hw5 hw6 ho6
    go_wp2
    refine bodyPost_ret (v := .tuple #[.agg #[.int .i64 (v : Int), .slice A n cc], .int .i64 c, .bool true]) (by simp [results, Tryz.results23, go_sem, q2, q3]) rfl ?_
    rw [HF.out]
    exact ⟨A, n, cc, rfl, Q.out.1, Q.out.2⟩
  | none =>
    rw [hfo] at hfd
    have HS := Lib.hid (show smpD v k l = (cplO v k l).map fun bs => (7, bs) by unfold smpD; rw [hfo])
    have HC : Hid (cplO v k l = if bnC v k l = 0 ∧ inRng v ((v : Int) - k) (cplL v k l) = true then (match fstD v (v - k) (cplL v k l).toNat with | some (_, bs) => some (srtR (cmlB v bs)) | none => none) else none) := Lib.hid rfl
    have HL : Hid (cplL v k l = bnB v k l - 2 * bnR v k l + l) := Lib.hid rfl
    have HBN := Lib.hid (fun W => impl_BlockNumbers (v : Int) k l W)
    clear hfo
    obtain ⟨⟨b0, b1⟩, ⟨r0, r1⟩⟩ := hbn
    generalize bnB (v : Int) k l = b at *
    generalize bnR (v : Int) k l = r at *
    generalize bnC (v : Int) k l = cd at *
    have hkv : (v : Int) - k = ((v - k : Nat) : Int) := by omega
    go_enter Tryz.func23, Tryz.ntmps23
    go_wp2_with fail
    refine hfd.mono ?_
    rintro e w1 ⟨A, n, cc, rfl, -, hb1⟩
    have Y1 := (Y.after hb1).alloc (.cells #[.int .i64 0, .slice A n cc] 28)
    have hw1 := (hb0.trans (hb1.mono hb0.size)).alloc (by have := hb1.size; omega) (.cells #[.int .i64 0, .slice A n cc] 28)
    have hz1 : w.heap.size + 1 ≤ (w1.alloc (.cells #[.int .i64 0, .slice A n cc] 28)).heap.size := by have := hb1.size; simp; omega
    clear hfd hb0 hb1 Y hz0
    go_wp2_with fail
    generalize w1.alloc (.cells #[.int .i64 0, .slice A n cc] 28) = W1 at *
    refine (HBN.out _).mono ?_
    rintro e w2 ⟨rfl, hb2⟩
    have Y2 := Y1.after hb2
    have hw2 := hw1.trans (hb2.mono (by omega))
    have hz2 : w.heap.size + 1 ≤ w2.heap.size := by have := hb2.size; omega
    clear HBN hb2 Y1 hw1 hz1
    by_cases hin : cd = 0 ∧ inRng v ((v : Int) - k) (cplL v k l) = true
    · obtain ⟨rfl, hin⟩ := hin
      have HC2 := Lib.hid (HC.out.trans (if_pos ⟨rfl, hin⟩))
      have hir := inRange_any (v : Int) ((v : Int) - k) (cplL v k l) w2
      rw [hin] at hir
      have hpos : 1 ≤ cplL v k l := by have := inRng_true hin; omega
      obtain ⟨m, hm⟩ : ∃ m : Nat, cplL v k l = (m : Int) := ⟨(cplL v k l).toNat, by omega⟩
      rw [hm] at hin hir HC2
      rw [hkv] at hin hir
      have hlm : b - 2 * r + (l : Int) = (m : Int) := by rw [← hm]; exact HL.out.symm
      have HRm := Lib.hid (inRng_of hin v32)
      have hm1000 := HRm.out.l1000
      clear hin hpos hm HC
      rw [Int.toNat_natCast] at HC2
      have hfd2 := HFD.out (v - k) m w2 HRm.out
      clear HFD
      cases hfo2 : fstD v (v - k) m with
      | none =>
        rw [hfo2] at HC2 hfd2
        have HE := Lib.hid (show smpD v k l = none by rw [HS.out, HC2.out]; rfl)
        clear hfo2
        go_wp2_with fail
        refine hir.mono ?_
        rintro e w' ⟨rfl, rfl⟩
        go_wp2_with fail
        refine hfd2.mono ?_
        rintro e w3 ⟨A3, n3, c3, rfl, -, hb3⟩
        have Y3 := (Y2.after hb3).alloc (.cells #[.int .i64 0, .slice A3 n3 c3] 28)
        have hw3 := (hw2.trans (hb3.mono (by omega))).alloc (by have := hb3.size; omega) (.cells #[.int .i64 0, .slice A3 n3 c3] 28)
        clear hfd2 hir hb3 Y2 hw2
        obtain ⟨y0, y1⟩ := Y3.cells2
        have f0 := Y3.frozen 0
        have f1 := Y3.frozen 1
        obtain ⟨q0, q1, q2, q3⟩ := fin_store (v := 0) (A := none) (n := 0) (c := 0) (bs := []) Y3 hw3 (OR.nil_ _ (w.heap.size + 1) (by decide)) (by omega)
        have Q := Lib.hid (And.intro q0 q1)
        clear q0 q1
        go_wp2
        refine bodyPost_ret (v := .tuple #[.agg #[.int .i64 0, .slice none 0 0], .int .i64 0, .bool false]) (by simp [results, Tryz.results23, go_sem, q2, q3]) rfl ?_
        rw [HE.out]
        exact ⟨none, 0, 0, rfl, Q.out.1, Q.out.2⟩
      | some x =>
        obtain ⟨c, bs⟩ := x
        rw [hfo2] at HC2 hfd2
        have HE := Lib.hid (show smpD v k l = some (7, srtR (cmlB v bs)) by rw [HS.out, HC2.out]; rfl)
        have hbal := hB.bal v (v - k) m c bs HRm.out hfo2
        have HCD := Lib.hid (fun (A : Option Addr) (n cc : Nat) (W : World) (ha : RR W A n bs) => complementDesign_any v A n cc bs W ha hbal.d (fun j hj => by rw [hbal.len j (by rw [ha.len]; exact hj)]; omega))
        generalize srtR (cmlB v bs) = L at *
        clear hfo2 hbal hB
        go_wp2_with fail
        refine hir.mono ?_
        rintro e w' ⟨rfl, rfl⟩
        go_wp2_with fail
        refine hfd2.mono ?_
        rintro e w3 ⟨A3, n3, c3, rfl, ho3, hb3⟩
        have hs3 := hb3.size
        have Y3 := (Y2.after hb3).alloc (.cells #[.int .i64 (v : Int), .slice A3 n3 c3] 28)
        have hw3 := (hw2.trans (hb3.mono (by omega))).alloc (by omega) (.cells #[.int .i64 (v : Int), .slice A3 n3 c3] 28)
        have Z3 := Blk.new w3 28 #[.int .i64 (v : Int), .slice A3 n3 c3]
        have hr3 := ho3.reads.keep (below_alloc w3 (.cells #[.int .i64 (v : Int), .slice A3 n3 c3] 28))
        have hz3 : w.heap.size + 1 ≤ (w3.alloc (.cells #[.int .i64 (v : Int), .slice A3 n3 c3] 28)).heap.size := by simp; omega
        have hcd := HCD.out A3 n3 c3 _ hr3
        obtain ⟨z0, z1⟩ := Z3.cells2
        clear hfd2 hir hb3 Y2 hw2 ho3 hr3
        go_wp2_with fail
        refine hcd.mono ?_
        rintro e w5 ⟨A, n, cc, rfl, ho, hb5⟩
        have Y6 := (Y3.after hb5).alloc (.cells #[.int .i64 (v : Int), .slice A n cc] 28)
        have Z6 := Blk.new w5 28 #[.int .i64 (v : Int), .slice A n cc]
        have hw5 := hw3.trans (hb5.mono (by omega))
        have hw6 := hw5.alloc hw5.size (.cells #[.int .i64 (v : Int), .slice A n cc] 28)
        have ho6 := ho.alloc (.cells #[.int .i64 (v : Int), .slice A n cc] 28)
        clear z0 z1
        obtain ⟨y0, y1⟩ := Y6.cells2
        obtain ⟨z0, z1⟩ := Z6.cells2
        have f0 := Y6.frozen 0
        have f1 := Y6.frozen 1
        obtain ⟨q0, q1, q2, q3⟩ := fin_store (v := (v : Int)) Y6 hw6 ho6 (by omega)
        have Q := Lib.hid (And.intro q0 q1)
        clear q0 q1 hcd ho hb5 Y3 Y6 Z3 Z6 hw3 hw5 hw6 ho6
        go_wp2
        refine bodyPost_ret (v := .tuple #[.agg #[.int .i64 (v : Int), .slice A n cc], .int .i64 7, .bool true]) (by simp [results, Tryz.results23, go_sem, q2, q3]) rfl ?_
        rw [HE.out]
        exact ⟨A, n, cc, rfl, Q.out.1, Q.out.2⟩
    · have HC2 := Lib.hid (HC.out.trans (if_neg hin))
      have HE := Lib.hid (show smpD v k l = none by rw [HS.out, HC2.out]; rfl)
      by_cases h0 : cd = 0
      · subst h0
        have hin2 : inRng v ((v : Int) - k) (cplL v k l) = false := by
          cases h : inRng v ((v : Int) - k) (cplL v k l) with
          | false => rfl
          | true => exact absurd ⟨rfl, h⟩ hin
        have hir := inRange_any (v : Int) ((v : Int) - k) (cplL v k l) w2
        rw [hin2] at hir
        have hlm : b - 2 * r + (l : Int) = cplL v k l := HL.out.symm
        generalize cplL v k l = s at *
        rw [hkv] at hir
        clear hin hin2 HC HL
        go_wp2_with fail
        refine hir.mono ?_
        rintro e w' ⟨rfl, rfl⟩
        clear hir hlm
        obtain ⟨y0, y1⟩ := Y2.cells2
        have f0 := Y2.frozen 0
        have f1 := Y2.frozen 1
        obtain ⟨q0, q1, q2, q3⟩ := fin_store (v := 0) (A := none) (n := 0) (c := 0) (bs := []) Y2 hw2 (OR.nil_ _ (w.heap.size + 1) (by decide)) (by omega)
        have Q := Lib.hid (And.intro q0 q1)
        clear q0 q1
        go_wp2
        refine bodyPost_ret (v := .tuple #[.agg #[.int .i64 0, .slice none 0 0], .int .i64 0, .bool false]) (by simp [results, Tryz.results23, go_sem, q2, q3]) rfl ?_
        rw [HE.out]
        exact ⟨none, 0, 0, rfl, Q.out.1, Q.out.2⟩
      · have hc0 : (cd == 0) = false := by simp; exact h0
        have hc1 : (cd != 0) = true := by simp; exact h0
        clear hin HC HL
        obtain ⟨y0, y1⟩ := Y2.cells2
        have f0 := Y2.frozen 0
        have f1 := Y2.frozen 1
        obtain ⟨q0, q1, q2, q3⟩ := fin_store (v := 0) (A := none) (n := 0) (c := 0) (bs := []) Y2 hw2 (OR.nil_ _ (w.heap.size + 1) (by decide)) (by omega)
        have Q := Lib.hid (And.intro q0 q1)
        clear q0 q1
        go_wp2
        refine bodyPost_ret (v := .tuple #[.agg #[.int .i64 0, .slice none 0 0], .int .i64 0, .bool false]) (by simp [results, Tryz.results23, go_sem, q2, q3]) rfl ?_
        rw [HE.out]
        exact ⟨none, 0, 0, rfl, Q.out.1, Q.out.2⟩
def insI (x : Int) : List Int → List Int
  | [] => [x]
  | y :: ys => if x ≤ y then x :: y :: ys else y :: insI x ys
def isortI : List Int → List Int
  | [] => []
  | x :: xs => insI x (isortI xs)
theorem insI_perm (x : Int) (l : List Int) : (insI x l).Perm (x :: l) := by
  induction l with
  | nil => exact List.Perm.refl _
  | cons y ys ih =>
    unfold insI
    split
    · exact List.Perm.refl _
    · exact (ih.cons y).trans (List.Perm.swap x y ys)
theorem isortI_perm (l : List Int) : (isortI l).Perm l := by
  induction l with
  | nil => exact List.Perm.refl _
  | cons x xs ih => exact (insI_perm x _).trans (ih.cons x)
theorem insI_sorted (x : Int) {l : List Int} (h : l.Pairwise (· ≤ ·)) : (insI x l).Pairwise (· ≤ ·) := by
  induction l with
  | nil => simp [insI]
  | cons y ys ih =>
    unfold insI
    split
    · rename_i hxy
      refine List.pairwise_cons.2 ⟨fun z hz => ?_, h⟩
      rcases List.mem_cons.1 hz with rfl | hz
      · exact hxy
      · exact Int.le_trans hxy ((List.pairwise_cons.1 h).1 z hz)
    · refine List.pairwise_cons.2 ⟨fun z hz => ?_, ih (List.pairwise_cons.1 h).2⟩
      rcases List.mem_cons.1 ((insI_perm x ys).mem_iff.1 hz) with rfl | hz
      · omega
      · exact (List.pairwise_cons.1 h).1 z hz
theorem isortI_sorted (l : List Int) : (isortI l).Pairwise (· ≤ ·) := by
  induction l with
  | nil => exact List.Pairwise.nil
  | cons x xs ih => exact insI_sorted x ih
theorem srt_isort (l : List Int) : srt l = isortI l :=
  ((srt_perm l).trans (isortI_perm l).symm).eq_of_pairwise (fun a b _ _ h1 h2 => Int.le_antisymm h1 h2) (srt_le l) (isortI_sorted l)
def insR (x : List Int) : List (List Int) → List (List Int)
  | [] => [x]
  | y :: ys => if cmpL x y ≤ 0 then x :: y :: ys else y :: insR x ys
def isortR : List (List Int) → List (List Int)
  | [] => []
  | x :: xs => insR x (isortR xs)
theorem insR_perm (x : List Int) (l : List (List Int)) : (insR x l).Perm (x :: l) := by
  induction l with
  | nil => exact List.Perm.refl _
  | cons y ys ih =>
    unfold insR
    split
    · exact List.Perm.refl _
    · exact (ih.cons y).trans (List.Perm.swap x y ys)
theorem isortR_perm (l : List (List Int)) : (isortR l).Perm l := by
  induction l with
  | nil => exact List.Perm.refl _
  | cons x xs ih => exact (insR_perm x _).trans (ih.cons x)
theorem insR_sorted (x : List Int) {l : List (List Int)} (h : SortedL cmpL l) : SortedL cmpL (insR x l) := by
  induction l with
  | nil => exact List.pairwise_singleton _ _
  | cons y ys ih =>
    unfold insR
    split
    · rename_i hxy
      refine List.pairwise_cons.2 ⟨fun z hz => ?_, h⟩
      rcases List.mem_cons.1 hz with rfl | hz
      · exact hxy
      · exact cmpL_ord.trans hxy ((List.pairwise_cons.1 h).1 z hz)
    · rename_i hxy
      refine List.pairwise_cons.2 ⟨fun z hz => ?_, ih (List.pairwise_cons.1 h).2⟩
      rcases List.mem_cons.1 ((insR_perm x ys).mem_iff.1 hz) with rfl | hz
      · have := cmpL_swap z y; omega
      · exact (List.pairwise_cons.1 h).1 z hz
theorem isortR_sorted (l : List (List Int)) : SortedL cmpL (isortR l) := by
  induction l with
  | nil => exact List.Pairwise.nil
  | cons x xs ih => exact insR_sorted x ih
theorem srtR_isort (l : List (List Int)) : srtR l = isortR l := (srtR_unique (isortR_perm l) (isortR_sorted l)).symm
def devC (n : Nat) (s : List Int) (k : Nat) : List (List Int) := (List.range k).map fun (b : Nat) => isortI (s.map fun x => (x + (b : Int)) % n)
theorem devK_C (n : Nat) (s : List Int) (k : Nat) : devK n s k = devC n s k := List.map_congr_left fun b _ => srt_isort _
def pairC (bs : List (List Int)) (a b : Int) : Nat := bs.countP fun r => decide (a ∈ r) && decide (b ∈ r)
theorem tB_decide (p : Prop) [Decidable p] : tB p = decide p := by
  by_cases h : p
  · rw [tB_yes h]; simp [h]
  · rw [tB_no h]; simp [h]
theorem pairN_C (bs : List (List Int)) (a b : Int) : pairN bs a b = pairC bs a b := by
  unfold pairN pairC
  congr 1
  funext r
  rw [tB_decide, tB_decide]
def balG (v : Nat) (bs : List (List Int)) (k : Nat) (lam : Nat) : Bool := decide (2 ≤ v) && decide (v ≤ 32) && decide (bs.length ≤ 128) && decide (0 < bs.length) && decide (2 ≤ k) && (bs.all fun s => okS v s && decide (s.length = k)) &&
  ((List.range (bs.length - 1)).all fun i => decide (cmpL (row bs i) (row bs (i + 1)) ≤ 0)) && (List.range v).all fun a => (List.range (v - a - 1)).all fun d => decide (pairC bs (a : Int) ((a + 1 + d : Nat) : Int) = lam)
theorem balG_bal {v k lam : Nat} {bs : List (List Int)} (h : balG v bs k lam = true) : Bal v bs k lam := by
  simp only [balG, Bool.and_eq_true, decide_eq_true_eq, List.all_eq_true, List.mem_range] at h
  obtain ⟨⟨⟨⟨⟨⟨⟨h1, h2⟩, h3⟩, h4⟩, h5⟩, h6⟩, h7⟩, h8⟩ := h
  have hr : ∀ i, i < bs.length → row bs i ∈ bs := fun i hi => by rw [row_get hi]; exact List.getElem_mem hi
  exact ⟨⟨by omega, by omega, h3, fun i hi => (okS_block (h6 _ (hr i hi)).1).1, fun i hi => h7 i (by omega)⟩, h1, h4, fun i hi => (h6 _ (hr i hi)).2, h5, fun j hj => by
    rw [nth_get hj]
    have hm := List.getElem_mem hj
    generalize (prP v bs v)[j] = z at hm ⊢
    unfold prP at hm
    obtain ⟨a, ha, hz⟩ := List.mem_flatMap.1 hm
    unfold prB at hz
    obtain ⟨d, hd, hz⟩ := List.mem_map.1 hz
    have := h8 a (List.mem_range.1 ha) d (List.mem_range.1 hd)
    rw [← hz, pairN_C, this]⟩
/-! pairs counted by masks -/
def maskR : List Int → Nat
  | [] => 0
  | x :: xs => 2 ^ x.toNat ||| maskR xs
theorem maskR_bit {r : List Int} (h : ∀ x ∈ r, 0 ≤ x) (a : Nat) : (maskR r).testBit a = decide ((a : Int) ∈ r) := by
  induction r with
  | nil => simp [maskR]
  | cons x xs ih =>
    have h0 := h x List.mem_cons_self
    have h1 := ih fun y hy => h y (List.mem_cons_of_mem _ hy)
    rw [maskR, Nat.testBit_or, h1, Nat.testBit_two_pow, Bool.eq_iff_iff]
    simp only [Bool.or_eq_true, decide_eq_true_eq, List.mem_cons]
    constructor
    · rintro (h2 | h2)
      · left; omega
      · right; exact h2
    · rintro (h2 | h2)
      · left; omega
      · right; exact h2
theorem land_two (m a b : Nat) : Nat.beq (Nat.land m (Nat.lor (2 ^ a) (2 ^ b))) (Nat.lor (2 ^ a) (2 ^ b)) = (m.testBit a && m.testBit b) := by
  show Nat.beq (m &&& (2 ^ a ||| 2 ^ b)) (2 ^ a ||| 2 ^ b) = _
  rw [Bool.eq_iff_iff, Nat.beq_eq, Bool.and_eq_true]
  constructor
  · intro h
    have ha := congrArg (fun z => z.testBit a) h
    have hb := congrArg (fun z => z.testBit b) h
    simp only [Nat.testBit_and, Nat.testBit_or, Nat.testBit_two_pow] at ha hb
    simp at ha hb
    exact ⟨ha, hb⟩
  · rintro ⟨ha, hb⟩
    refine Nat.eq_of_testBit_eq fun i => ?_
    simp only [Nat.testBit_and, Nat.testBit_or, Nat.testBit_two_pow]
    by_cases h1 : a = i
    · subst h1; simp [ha]
    · by_cases h2 : b = i
      · subst h2; simp [hb]
      · simp [h1, h2]
def cntM (w : Nat) : List Nat → Nat
  | [] => 0
  | m :: ms => cond (Nat.beq (Nat.land m w) w) (Nat.succ (cntM w ms)) (cntM w ms)
theorem cntM_pair {bs : List (List Int)} (h : ∀ r ∈ bs, ∀ x ∈ r, 0 ≤ x) (a b : Nat) : cntM (Nat.lor (2 ^ a) (2 ^ b)) (bs.map maskR) = pairC bs (a : Int) (b : Int) := by
  induction bs with
  | nil => rfl
  | cons r rs ih =>
    have h1 := ih fun s hs => h s (List.mem_cons_of_mem _ hs)
    have h2 := h r List.mem_cons_self
    unfold pairC at h1 ⊢
    rw [List.map_cons, cntM, land_two, maskR_bit h2, maskR_bit h2, List.countP_cons, h1]
    cases (decide ((a : Int) ∈ r) && decide ((b : Int) ∈ r)) <;> simp
def balM (v : Nat) (bs : List (List Int)) (k : Nat) (lam : Nat) : Bool := decide (2 ≤ v) && decide (v ≤ 32) && decide (bs.length ≤ 128) && decide (0 < bs.length) && decide (2 ≤ k) && (bs.all fun s => okS v s && decide (s.length = k)) &&
  ((List.range (bs.length - 1)).all fun i => decide (cmpL (row bs i) (row bs (i + 1)) ≤ 0)) && (List.range v).all fun a => (List.range (v - a - 1)).all fun d => Nat.beq (cntM (Nat.lor (2 ^ a) (2 ^ (a + 1 + d))) (bs.map maskR)) lam
theorem balM_bal {v k lam : Nat} {bs : List (List Int)} (h : balM v bs k lam = true) : Bal v bs k lam := by
  refine balG_bal ?_
  have h0 := h
  simp only [balM, balG, Bool.and_eq_true, decide_eq_true_eq, List.all_eq_true, List.mem_range] at h h0 ⊢
  obtain ⟨⟨⟨⟨⟨⟨⟨h1, h2⟩, h3⟩, h4⟩, h5⟩, h6⟩, h7⟩, h8⟩ := h
  refine ⟨⟨⟨⟨⟨⟨⟨h1, h2⟩, h3⟩, h4⟩, h5⟩, h6⟩, h7⟩, fun a ha d hd => ?_⟩
  have hp : ∀ r ∈ bs, ∀ x ∈ r, 0 ≤ x := fun r hr x hx => by
    have hb := (okS_block (h6 r hr).1).1
    obtain ⟨i, hi, rfl⟩ := List.mem_iff_getElem.1 hx
    have := (hb.2.bd i hi).1
    rwa [nth_get hi] at this
  have := h8 a ha d hd
  rw [cntM_pair hp, Nat.beq_eq] at this
  rw [this]
def triC (x y z : Int) : List Int := isortI [x, y, z]
theorem triP_C (x y z : Int) : triP x y z = triC x y z := srt_isort _
theorem mixT_C (n : Nat) (F : Int → Int) (x y : Nat) : mixT n F x y = fun (i : Nat) => triC ((x : Int) + n * i) ((y : Int) + n * i) (F (((x : Int) + y) % n) + n * (((i : Int) + 1) % 3)) := funext fun _ => triP_C _ _ _
theorem boxT_C (n : Nat) : boxT n = fun (x : Nat) => triC x ((x : Int) + n) ((x : Int) + 2 * n) := funext fun _ => triP_C _ _ _
theorem skT_C (t n x : Nat) : skT t n x = fun (i : Nat) => triC (3 * n) ((x : Int) + t + n * i) ((x : Int) + n * (((i : Int) + 1) % 3)) := funext fun _ => triP_C _ _ _
def bosC (t : Nat) : List (List Int) :=
  (((List.range (2 * t + 1)).drop 0).flatMap fun (x : Nat) => ((List.range (2 * t + 1)).drop (x + 1)).flatMap fun (y : Nat) => ((List.range 3).drop 0).map fun (i : Nat) => triC ((x : Int) + (2 * t + 1 : Nat) * i) ((y : Int) + (2 * t + 1 : Nat) * i) (bosF t (((x : Int) + y) % (2 * t + 1 : Nat)) + (2 * t + 1 : Nat) * (((i : Int) + 1) % 3))) ++
  ((List.range (2 * t + 1)).drop 0).map fun (x : Nat) => triC x ((x : Int) + (2 * t + 1 : Nat)) ((x : Int) + 2 * (2 * t + 1 : Nat))
theorem bosL_C (t : Nat) : bosL t = bosC t := by
  unfold bosL mixX mixY mixI boxX bosC
  simp only [mixT_C, boxT_C]
def skoC (t : Nat) : List (List Int) :=
  (((List.range (2 * t)).drop 0).flatMap fun (x : Nat) => ((List.range (2 * t)).drop (x + 1)).flatMap fun (y : Nat) => ((List.range 3).drop 0).map fun (i : Nat) => triC ((x : Int) + (2 * t : Nat) * i) ((y : Int) + (2 * t : Nat) * i) (skoF t (((x : Int) + y) % (2 * t : Nat)) + (2 * t : Nat) * (((i : Int) + 1) % 3))) ++
  ((List.range t).drop 0).flatMap fun (x : Nat) => triC x ((x : Int) + (2 * t : Nat)) ((x : Int) + 2 * (2 * t : Nat)) :: ((List.range 3).drop 0).map fun (i : Nat) => triC (3 * (2 * t : Nat)) ((x : Int) + t + (2 * t : Nat) * i) ((x : Int) + (2 * t : Nat) * (((i : Int) + 1) % 3))
theorem skoL_C (t : Nat) : skoL t = skoC t := by
  unfold skoL mixX mixY mixI skX skI skoC
  simp only [mixT_C, boxT_C, skT_C]
def triLC (v : Nat) : List (List Int) := if v % 6 = 3 then bosC (v / 6) else skoC (v / 6)
theorem triL_C (v : Nat) : triL v = triLC v := by unfold triL triLC; rw [bosL_C, skoL_C]
end Go.Proofs.YtnmcmologlgccaaGreat
namespace Go.Proofs.YtnmcmologlgccaaGreat
def com2C1 (v k : Nat) : Bool := decide (v < 3) || decide (k < 2) || decide (v ≤ k) || decide (128 < chP v k) || (match alF v k 200 (iotaP k) with | some L => balM v (isortR L) k (chP (v - 2) (k - 2)) | none => false)
set_option maxRecDepth 100000 in
theorem com2_1 : (((List.range 13).drop 0).all fun v => (List.range 33).all fun k => com2C1 v k) = true := by decide +kernel
end Go.Proofs.YtnmcmologlgccaaGreat
namespace Go.Proofs.YtnmcmologlgccaaGreat
def com2C2 (v k : Nat) : Bool := decide (v < 3) || decide (k < 2) || decide (v ≤ k) || decide (128 < chP v k) || (match alF v k 200 (iotaP k) with | some L => balM v (isortR L) k (chP (v - 2) (k - 2)) | none => false)
set_option maxRecDepth 100000 in
theorem com2_2 : (((List.range 17).drop 13).all fun v => (List.range 33).all fun k => com2C2 v k) = true := by decide +kernel
end Go.Proofs.YtnmcmologlgccaaGreat
namespace Go.Proofs.YtnmcmologlgccaaGreat
def com2C3 (v k : Nat) : Bool := decide (v < 3) || decide (k < 2) || decide (v ≤ k) || decide (128 < chP v k) || (match alF v k 200 (iotaP k) with | some L => balM v (isortR L) k (chP (v - 2) (k - 2)) | none => false)
set_option maxRecDepth 100000 in
theorem com2_3 : (((List.range 26).drop 17).all fun v => (List.range 33).all fun k => com2C3 v k) = true := by decide +kernel
end Go.Proofs.YtnmcmologlgccaaGreat
namespace Go.Proofs.YtnmcmologlgccaaGreat
def com2C4 (v k : Nat) : Bool := decide (v < 3) || decide (k < 2) || decide (v ≤ k) || decide (128 < chP v k) || (match alF v k 200 (iotaP k) with | some L => balM v (isortR L) k (chP (v - 2) (k - 2)) | none => false)
set_option maxRecDepth 100000 in
theorem com2_4 : (((List.range 33).drop 26).all fun v => (List.range 33).all fun k => com2C4 v k) = true := by decide +kernel
end Go.Proofs.YtnmcmologlgccaaGreat
namespace Go.Proofs.YtnmcmologlgccaaGreat
set_option maxRecDepth 100000 in
theorem tri_all : ([7, 9, 13, 15, 19, 21, 25, 27].all fun v => balM v (isortR (triLC v)) 3 1) = true := by decide +kernel
set_option maxRecDepth 100000 in
theorem aff_all : ([2, 3, 4, 5].all fun k => balM (k * k) (isortR (affQ k)) k 1) = true := by decide +kernel
set_option maxRecDepth 100000 in
theorem prj_all : ([2, 3, 4, 5].all fun q => balM (q * q + q + 1) (isortR (prjQ q)) (q + 1) 1) = true := by decide +kernel
set_option maxRecDepth 100000 in
theorem dif_all : ([7, 11, 19, 23, 31].all fun v => balM v (isortR (devC v (sqK v v) v)) ((v - 1) / 2) ((v - 3) / 4)) = true := by decide +kernel
set_option maxRecDepth 100000 in
theorem had_all : (balM 15 (isortR (hdL H16)) 7 3 && balM 27 (isortR (hdL H28)) 13 6) = true := by decide +kernel
end Go.Proofs.YtnmcmologlgccaaGreat
namespace Go.Proofs.YtnmcmologlgccaaGreat
open Go.RowKit
structure Rows (w : World) (vs : List Sl) (L : List (List Int)) : Prop where
  len : vs.length = L.length
  row : ∀ (j : Nat) (v : Sl) (z : List Int), vs[j]? = some v → L[j]? = some z → v.2.1 ≤ v.2.2 ∧ v.2.2 ≤ 9223372036854775807 ∧ RI w v.1 v.2.1 z
section
variable {w w' : World} {vs us : List Sl} {L M : List (List Int)}
theorem Rows.nil_ (w : World) : Rows w [] [] := ⟨rfl, fun _ _ _ h => by simp at h⟩
theorem Rows.keep (h : Rows w vs L) (hb : Below w.heap.size w w') : Rows w' vs L := ⟨h.len, fun j v z hv hz => let ⟨a, b, c⟩ := h.row j v z hv hz; ⟨a, b, c.keep hb⟩⟩
theorem Rows.snoc (h : Rows w vs L) {v : Sl} {z : List Int} (h1 : v.2.1 ≤ v.2.2) (h2 : v.2.2 ≤ 9223372036854775807) (h3 : RI w v.1 v.2.1 z) : Rows w (vs ++ [v]) (L ++ [z]) := by
  refine ⟨by simp [h.len], fun j u y hu hy => ?_⟩
  rw [List.getElem?_append] at hu hy
  rw [h.len] at hu
  split at hu
  · rename_i hj
    rw [if_pos hj] at hy
    exact h.row j u y hu hy
  · rename_i hj
    rw [if_neg hj] at hy
    have e : j - L.length = 0 := by have := (List.getElem?_eq_some_iff.1 hu).1; simp at this; omega
    rw [e] at hu hy
    simp at hu hy
    subst hu; subst hy
    exact ⟨h1, h2, h3⟩
theorem Rows.reads (h : Rows w vs L) {B : Nat} {e2 : TypeId} {A : Option Addr} {n c : Nat} (ho : OS w B e2 1 A n c (vs.map slv)) : RR w A n L := by
  have hl := ho.len
  simp at hl
  refine ⟨by rw [← h.len]; exact hl, fun j z hz => ?_⟩
  have hj : j < vs.length := by rw [h.len]; exact (List.getElem?_eq_some_iff.1 hz).1
  have hv := List.getElem?_eq_getElem hj
  obtain ⟨ad, ha, hc⟩ := ho.cells j (slv vs[j]) (by rw [List.getElem?_map, hv]; rfl)
  obtain ⟨h1, h2, h3⟩ := h.row j _ z hv hz
  exact ⟨ad, _, ha, hc, _, _, _, rfl, h1, h2, h3⟩
end
section
variable {ops : Array Oper} {rest : List Oper} {o : Oper} {a : Act} {Q : Exit → Act → World → Prop}
theorem app_sl (w : World) (hgd : o.guard = none) (s x : Operand) (ho : o.op = .call { callee := .builtin .append, args := #[s, x], argTypes := #[26, 26] })
    (B : Nat) (A : Option Addr) (n c : Nat) (vs : List Sl) (hs : a.eval s = .slice A n c) (hown : OS w B 36 1 A n c (vs.map slv)) (v : Sl)
    (g : Nat) (hx : a.eval x = .slice (some ⟨g, 0, none⟩) 1 1) (hgx : g = w.heap.size) (hbig : n + 1 ≤ 2199023255552) (hB : B ≤ w.heap.size)
    (h : ∀ A' c' w', OS w' B 36 1 A' (n + 1) c' ((vs ++ [v]).map slv) → w.grownBy w' (blk A) → (blk A' = blk A ∨ ∃ k, blk A' = some k ∧ w.heap.size ≤ k) → wpList Tryz.prog ops Q rest (a.put o.dst (.slice A' (n + 1) c')) w') :
    wpList Tryz.prog ops Q (o :: rest) a (w.alloc (.cells #[.slice v.1 v.2.1 v.2.2] 36)) :=
  wpList_app1' w hgd s x 26 ho 36 (.slice none 0 0) 24 Tryz.underlying26 ints_info rfl (by omega) B A n c (vs.map slv) hs hown (.slice v.1 v.2.1 v.2.2) g hx hgx rfl hbig hB
    fun A' c' w' h1 h2 h3 => h A' c' w' (by simpa [slv] using h1) h2 h3
end
theorem RR.sls {w : World} {A : Option Addr} {n : Nat} {zss : List (List Int)} (h : RR w A n zss) :
    ∃ vs : List Sl, Rows w vs zss ∧ ∀ j v, vs[j]? = some v → ∃ ad, A = some ad ∧ w.cell? (ad.add j) = some (slv v) := by
  have key : ∀ k, k ≤ n → ∃ vs : List Sl, Rows w vs (zss.take k) ∧ ∀ j v, vs[j]? = some v → ∃ ad, A = some ad ∧ w.cell? (ad.add j) = some (slv v) := by
    intro k
    induction k with
    | zero => intro _; exact ⟨[], by simpa using Rows.nil_ w, fun j v hv => by simp at hv⟩
    | succ k ih =>
      intro hk
      obtain ⟨vs, h1, h2⟩ := ih (by omega)
      obtain ⟨ad, B, m, c, ha, hc, hm, hcc, hr⟩ := h.get (k := k) (by omega)
      refine ⟨vs ++ [(B, m, c)], ?_, fun j v hv => ?_⟩
      · rw [List.take_succ_eq_append_getElem (by rw [h.len]; omega), ← row_get (by rw [h.len]; omega)]
        exact h1.snoc hm hcc hr
      · rw [List.getElem?_append] at hv
        split at hv
        · exact h2 j v hv
        · rename_i hj
          have hl : vs.length = k := by rw [h1.len, List.length_take, h.len]; omega
          have e : j - vs.length = 0 := by have := (List.getElem?_eq_some_iff.1 hv).1; simp at this; omega
          rw [e] at hv
          simp at hv
          subst hv
          obtain rfl : j = k := by omega
          exact ⟨ad, ha, hc⟩
  obtain ⟨vs, h1, h2⟩ := key n (Nat.le_refl _)
  rw [List.take_of_length_le (by rw [h.len]; exact Nat.le_refl _)] at h1
  exact ⟨vs, h1, h2⟩
section
variable {ops : Array Oper} {rest : List Oper} {o : Oper} {a : Act} {Q : Exit → Act → World → Prop}
theorem app_sls (w : World) (hgd : o.guard = none) (s x : Operand) (ho : o.op = .call { callee := .builtin .append, args := #[s, x], argTypes := #[26, 26] })
    (B : Nat) (A : Option Addr) (n c : Nat) (vs : List Sl) (hs : a.eval s = .slice A n c) (hown : OS w B 36 1 A n c (vs.map slv))
    (A2 : Option Addr) (m c2 : Nat) (us : List Sl) (hx : a.eval x = .slice A2 m c2) (hl : us.length = m) (hu : ∀ j v, us[j]? = some v → ∃ ad, A2 = some ad ∧ w.cell? (ad.add j) = some (slv v)) (hbig : n + m ≤ 2199023255552) (hB : B ≤ w.heap.size)
    (h : ∀ A' c' w', OS w' B 36 1 A' (n + m) c' ((vs ++ us).map slv) → w.grownBy w' (blk A) → (blk A' = blk A ∨ blk A' = some w.heap.size) → wpList Tryz.prog ops Q rest (a.put o.dst (.slice A' (n + m) c')) w') :
    wpList Tryz.prog ops Q (o :: rest) a w :=
  wpList_app w hgd s x 26 ho 36 (.slice none 0 0) 1 24 Tryz.underlying26 ints_info rfl (by omega) (by omega) B A n c (vs.map slv) hs hown A2 m c2 (us.map slv) hx (by simp [hl])
    (fun j u hj => by
      rw [List.getElem?_map] at hj
      cases e : us[j]? with
      | none => rw [e] at hj; cases hj
      | some v =>
        rw [e] at hj
        simp only [Option.map_some, Option.some.injEq] at hj
        subst hj
        exact hu j v e)
    (fun u hu => by obtain ⟨v, -, rfl⟩ := List.mem_map.1 hu; rfl) hbig hB
    fun A' c' w' h1 h2 h3 => h A' c' w' (by rw [List.map_append]; exact h1) h2 h3
end
theorem Rows.appH {w : World} {vs us : List Sl} {L M : List (List Int)} (h : Rows w vs L) (h2 : Rows w us M) : Rows w (vs ++ us) (L ++ M) := by
  refine ⟨by simp [h.len, h2.len], fun j u y hu hy => ?_⟩
  rw [List.getElem?_append] at hu hy
  rw [h.len] at hu
  split at hu
  · rename_i hj
    rw [if_pos hj] at hy
    exact h.row j u y hu hy
  · rename_i hj
    rw [if_neg hj] at hy
    exact h2.row _ u y hu hy
end Go.Proofs.YtnmcmologlgccaaGreat
