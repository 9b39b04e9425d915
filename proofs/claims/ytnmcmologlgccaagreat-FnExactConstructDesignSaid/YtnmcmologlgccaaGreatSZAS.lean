/- Paley's matrices and their designs: the program's side. No condition beyond those stated. -/
import Derived.Test.YtnmcmologlgccaaGreatSZAR
set_option linter.unusedVariables false
set_option linter.unusedSimpArgs false
namespace Go.Proofs.YtnmcmologlgccaaGreat
open Go.RowKit
set_option maxRecDepth 100000 in
set_option maxHeartbeats 4000000 in
theorem paleyMatrix_no (q : Nat) (w : World) (hq : q ≤ 1000) (h : (ppF (q : Int)).1 = 0) : Calls Tryz.prog 152 #[.int .i64 q] w (RetRC w 36 2 [] 2) := by
  have hmk := makeField_no (q : Int) w (.inl h)
  go_enter Tryz.func152, Tryz.ntmps152
  go_wp2_with fail
  refine hmk.mono ?_
  rintro e w1 ⟨A, n, c, rfl, hof, hb1⟩
  have ha1 := below_alloc w1 (.cells #[.int .i64 0, .int .i64 0, .slice A n c] 135)
  have hw1 := hb1.trans (ha1.mono hb1.size)
  clear hmk hof hb1 ha1
  go_wp2
  go_ret2
  exact ⟨none, 0, 0, rfl, OR.nil_ _ _ (by decide), hw1⟩
set_option maxRecDepth 100000 in
set_option maxHeartbeats 4000000 in
theorem paleyMatrix_any {p : Int} {k : Nat} (hm : (p, k) ∈ PKL) (q : Nat) (w : World) (hq : p ^ k = (q : Int)) (h4 : q % 4 = 3) (h31 : q ≤ 31) : Calls Tryz.prog 152 #[.int .i64 q] w (RetRC w 36 2 (palP p k (mkP p k) q) 0) := by
  have eg : ∀ (args : Array Value) (w : World), (callFunc 186 args).run Tryz.prog w = .ok (.enter 186 args) w := fun _ _ => by kernel_rfl
  have hmk := makeField_ok hm (q : Int) w hq
  obtain ⟨hfz, hfl⟩ := mkP_ok hm
  have h5 : ((q : Int) % 4 == 3) = true := by simp; omega
  have h6 : ((q : Int) % 4 != 3) = false := by simp; omega
  have hk6 : k ≤ 6 := by
    have hp61 := PR_bd hfz.2.pr
    have hFO : FldOk p k (mkP p k) := by have := hfz.2; rwa [Int.toNat_natCast] at this
    exact (pow_le64 hp61.1 hFO.k1 hFO.q64).2
  have HPP : Hid (palP p k (mkP p k) q = fillS (palF p k (mkP p k) (fsqL p k (mkP p k) q)) (q + 1) (q + 1)) := Lib.hid rfl
  generalize mkP p k = f at *
  have HFZ := Lib.hid hfz
  have HQ := Lib.hid hq
  clear hfz hq
  go_enter Tryz.func152, Tryz.ntmps152
  go_wp2_with fail
  refine hmk.mono ?_
  rintro e w1 ⟨A, n, c, rfl, hof, hb1⟩
  have hnl := hof.len
  have G1 := Blk.new w1 135 #[.int .i64 p, .int .i64 (k : Int), .slice A n c]
  have ha1 := below_alloc w1 (.cells #[.int .i64 p, .int .i64 (k : Int), .slice A n c] 135)
  have hr1 := (hof.reads).keep ha1
  have hw1 := hb1.trans (ha1.mono hb1.size)
  have HFS := Lib.hid (fieldSquares_any HFZ.out q HQ.out A n c (w1.alloc (.cells #[.int .i64 p, .int .i64 (k : Int), .slice A n c] 135)) hr1 (by omega))
  obtain ⟨x0, x1, x2⟩ := G1.cells3
  go_wp2_with fail
  refine HFS.out.mono ?_
  rintro e w2 ⟨S, sn, sc, rfl, hos, hb2⟩
  clear HFS hmk hof hb1 ha1 x0 x1 x2
  have hsz := hw1.size
  have hw2 := hw1.trans (hb2.mono hsz)
  have G2 := G1.after hb2
  have hr2 := hr1.keep hb2
  generalize w1.heap.size = gf at *
  clear G1 hr1 hb2 hw1 hsz
  have hb3 := below_alloc w2 (.cells #[.slice S sn sc] 36)
  have S1 := (Blk.new w2 36 #[.slice S sn sc]).cell 0
  have G3 := G2.alloc (.cells #[.slice S sn sc] 36)
  have hrs := hos.reads.keep hb3
  have hr3 := hr2.keep hb3
  have hw3 := hw2.trans (hb3.mono hw2.size)
  have hsn := hos.len
  have hask : AskS 186 #[.pointer (some ⟨w2.heap.size, 0, none⟩), .pointer (some ⟨gf, 0, none⟩)] (palF p k f (fsqL p k f q)) (q + 1) (w2.alloc (.cells #[.slice S sn sc] 36)) := fun x y W hW hx hy => by
    obtain ⟨y0, y1, y2⟩ := (G3.after hW).cells3
    exact paley1_any _ _ p k f (fsqL p k f q) A S n c sn sc x y q W (below_cell hW S1) (hrs.keep hW) (by
      have h1 := comp_len_le (srt (fsqK p k f (q - 1)))
      rw [srt_len, fsqK_len] at h1
      unfold fsqL at hsn
      omega) gf rfl y0 y1 y2 (by have := HFZ.out.2; rwa [Int.toNat_natCast] at this) HQ.out hx hy
  have h64 : ∀ x y, x < q + 1 → y < q + 1 → I64 (palF p k f (fsqL p k f q) x y) := fun x y hx hy => by
    have := palF_pm p k f (fsqL p k f q) x y
    unfold I64
    omega
  have hfs := filledSquare_any 186 _ eg (palF p k f (fsqL p k f q)) (q + 1) _ (by omega) h64 hask
  have hws := hw3.size
  have HW := Lib.hid hw3
  clear hask h64 eg G2 G3 hr2 hr3 hrs S1 hb3 hw2 hw3 hos hsn
  go_wp2_with fail
  refine hfs.mono ?_
  rintro e w4 ⟨R, rc, rfl, ho, hb4⟩
  have hor := Lib.hid (ho.more hws)
  have hbw := Lib.hid (HW.out.trans (hb4.mono hws))
  clear ho hb4 hfs
  go_wp2
  go_ret2
  refine ⟨R, q + 1, rc, rfl, ?_, hbw.out⟩
  rw [HPP.out]
  exact hor.out
set_option maxHeartbeats 1000000 in
theorem paleySet_no (p : Nat) (w : World) (h : p ≤ 31) (hp : isP p = false) : Calls Tryz.prog 92 #[.int .i64 p] w (RetIC w 2 [] 2) := by
  go_enter Tryz.func92, Tryz.ntmps92
  go_wp2_with fail
  refine (impl_IsPrime _ _).mono ?_
  rintro e w1 ⟨rfl, hb1⟩
  rw [hp]
  go_wp2
  go_ret2
  exact ⟨none, 0, 0, rfl, OI.nil_ _ _ _, hb1⟩
def RetDB (w : World) (v : Int) (bs : List (List Int)) (ok : Bool) (e : Ending) (w' : World) : Prop := ∃ A n c, e = .returned (.tuple #[.agg #[.int .i64 v, .slice A n c], .bool ok]) ∧ OR w' w.heap.size 36 2 A n c bs ∧ Below w.heap.size w w'
def stM (K : Nat) (h0 : List (List Int)) (j : Nat) : List (List Int) := if j ≤ K then h0 else sylP K
def stC (K : Nat) (c0 : Int) (j : Nat) : Int := if j ≤ K then c0 else 0
theorem shl_fact {v K j : Nat} (hv : (v = 15 ∧ K = 4) ∨ (v = 27 ∧ K = 6)) (hj : j < 6) : (wrap64 (2 ^ j) == (v : Int) + 1) = decide (j = K) := by
  have h6 : j = 0 ∨ j = 1 ∨ j = 2 ∨ j = 3 ∨ j = 4 ∨ j = 5 := by omega
  rcases hv with ⟨rfl, rfl⟩ | ⟨rfl, rfl⟩ <;> rcases h6 with rfl | rfl | rfl | rfl | rfl | rfl <;> decide +kernel
set_option maxRecDepth 100000 in
set_option maxHeartbeats 8000000 in
theorem hadamardDesign_any (v K : Nat) (h0 : List (List Int)) (c0 : Int) (w : World) (hv : (v = 15 ∧ K = 4) ∨ (v = 27 ∧ K = 6)) (hpal : ∀ W, Calls Tryz.prog 152 #[.int .i64 v] W (RetRC W 36 2 h0 c0)) (hc : stC K c0 6 = 0) (hh : Had (stM K h0 6)) (hl : (stM K h0 6).length = v + 1) :
    Calls Tryz.prog 94 #[.int .i64 v] w (RetDB w v (srtR (hdL (stM K h0 6))) true) := by
  have hb0 := below_alloc w (.cells #[.int .i64 0, .slice none 0 0] 28)
  have Y := Blk.new w 28 #[.int .i64 0, .slice none 0 0]
  have hz0 : (w.alloc (.cells #[.int .i64 0, .slice none 0 0] 28)).heap.size = w.heap.size + 1 := by simp
  have hp := hpal (w.alloc (.cells #[.int .i64 0, .slice none 0 0] 28))
  have HSY := Lib.hid (fun (j : Nat) (hj : j ≤ 5) (W : World) => sylvester_any j W hj)
  have hm0 : stM K h0 0 = h0 := by unfold stM; rw [if_pos (Nat.zero_le _)]
  have hc00 : stC K c0 0 = c0 := by unfold stC; rw [if_pos (Nat.zero_le _)]
  have HHH := Lib.hid hh
  have HHL := Lib.hid hl
  have HHC := Lib.hid hc
  have hv31 : v ≤ 31 := by omega
  have hv3 : 3 ≤ v := by omega
  clear hpal hc hh hl
  go_enter Tryz.func94, Tryz.ntmps94
  go_wp2_with fail
  refine hp.mono ?_
  rintro e w1 ⟨A, n, c, rfl, ho, hb1⟩
  have Y1 := Y.after hb1
  have hw1 := hb0.trans (hb1.mono hb0.size)
  have hz1 : w.heap.size + 1 ≤ w1.heap.size := by have := hb1.size; omega
  have ho1 := ho.more (B' := w.heap.size + 1) (by omega)
  rw [← hm0] at ho1
  have HC0 := Lib.hid hc00
  clear hp ho hb0 hb1 Y hz0 hm0 hc00
  go_wp2
  go_loopw [4, 5, 13] (fun lv cv jv wr => ∃ (j : Nat) (A : Option Addr) (n c : Nat), j ≤ 6 ∧ jv = .int .i64 j ∧ lv = .slice A n c ∧ cv = .int .i64 (stC K c0 j) ∧ OR wr (w.heap.size + 1) 36 2 A n c (stM K h0 j) ∧ Below (w.heap.size + 1) w1 wr) (fun _ _ jv _ => 6 - (intOf jv).toNat)
  case atStart => exact ⟨0, A, n, c, Nat.zero_le _, rfl, rfl, by rw [HC0.out], ho1, Below.refl _ _⟩
  case round =>
    clear ho1
    obtain ⟨j, A, n, c, hj, rfl, rfl, rfl, ho, hb⟩ := hrel
    have hbs := hb.size
    by_cases hlj : j < 6
    · by_cases hjK : j = K
      · have hsj := HSY.out j (by omega) wr
        have HM1 := Lib.hid (show stM K h0 (j + 1) = sylP j by unfold stM; rw [if_neg (by omega), hjK])
        have HC1 := Lib.hid (show stC K c0 (j + 1) = 0 by unfold stC; rw [if_neg (by omega)])
        have hsh := shl_fact hv hlj
        rw [show decide (j = K) = true by simpa using hjK] at hsh
        generalize sylP j = sy at *
        clear hv hjK
        go_wp2_with fail
        refine hsj.mono ?_
        rintro e w3 ⟨A3, n3, c3, rfl, ho3, hb3⟩
        have hb33 := hb.trans (hb3.mono (by omega))
        have ho33 := ho3.more (B' := w.heap.size + 1) (by omega)
        rw [← HM1.out] at ho33
        clear hsj ho3 hb3 ho
        go_wp2
        go_round
        case rel => exact ⟨j + 1, A3, n3, c3, by omega, by go_num, rfl, by rw [HC1.out], ho33, hb33⟩
        case measure => simp only [intOf]; omega
      · have HM1 := Lib.hid (show stM K h0 (j + 1) = stM K h0 j by unfold stM; by_cases h : j ≤ K <;> simp [h] <;> omega)
        have HC1 := Lib.hid (show stC K c0 (j + 1) = stC K c0 j by unfold stC; by_cases h : j ≤ K <;> simp [h] <;> omega)
        have hsh := shl_fact hv hlj
        rw [show decide (j = K) = false by simpa using hjK] at hsh
        rw [← HM1.out] at ho
        clear hv hjK
        obtain ⟨cj, hcj⟩ : ∃ cj, cj = stC K c0 j := ⟨_, rfl⟩
        rw [← hcj] at HC1 ⊢
        clear hcj
        go_wp2
        exact ⟨⟨j + 1, A, n, c, by omega, by go_num, rfl, by rw [HC1.out], ho, hb⟩, by simp only [intOf]; omega⟩
    · obtain rfl : j = 6 := by omega
      rw [HHC.out]
      have hcap := OR.os_cap ho
      have hrr := OR.reads ho
      have hnl := hrr.len
      rw [HHL.out] at hnl
      subst hnl
      have hdh := designOfHadamard_any A (v + 1) c (stM K h0 6) wr hrr HHH.out (by omega) hcap.1 hcap.2
      rw [Nat.add_sub_cancel] at hdh
      generalize srtR (hdL (stM K h0 6)) = L at *
      have hwr := hw1.trans (hb.mono (by omega))
      have hDr : w.heap.size + 1 ≤ wr.heap.size := by omega
      have Y5 := Y1.below hb (by omega)
      clear hrr ho hb hv hcap
      go_wp2_with fail
      refine hdh.mono ?_
      rintro e w5 ⟨A5, n5, c5, rfl, ho5, hb5⟩
      have Y6 := (Y5.after hb5).alloc (.cells #[.int .i64 (v : Int), .slice A5 n5 c5] 28)
      have Z6 := Blk.new w5 28 #[.int .i64 (v : Int), .slice A5 n5 c5]
      have hw5 := hwr.trans (hb5.mono hwr.size)
      have hw6 := hw5.alloc (hw5.size) (.cells #[.int .i64 (v : Int), .slice A5 n5 c5] 28)
      have ho6 := ho5.alloc (.cells #[.int .i64 (v : Int), .slice A5 n5 c5] 28)
      obtain ⟨y0, y1⟩ := Y6.cells2
      obtain ⟨z0, z1⟩ := Z6.cells2
      have f0 := Y6.frozen 0
      have f1 := Y6.frozen 1
      obtain ⟨q0, q1, q2, q3⟩ := fin_store (v := (v : Int)) Y6 hw6 ho6 hDr
      have Q := Lib.hid (And.intro q0 q1)
      clear q0 q1 hdh
      go_wp2
      exact bodyPost_ret (v := .tuple #[.agg #[.int .i64 (v : Int), .slice A5 n5 c5], .bool true]) (by simp [results, Tryz.results94, go_sem, q2, q3]) rfl ⟨A5, n5, c5, rfl, Q.out.1, Q.out.2⟩
theorem mul_bd {a b A B : Int} (ha : 0 ≤ a) (hA : a ≤ A) (hb : 0 ≤ b) (hB : b ≤ B) : 0 ≤ a * b ∧ a * b ≤ A * B :=
  ⟨Int.mul_nonneg ha hb, Int.mul_le_mul hA hB hb (by omega)⟩
def inRng (v k l : Int) : Bool := inB v 3 1000 && inB k 2 (v - 1) && inB l 1 1000
theorem inRng_true {v k l : Int} (h : inRng v k l = true) : 3 ≤ v ∧ v ≤ 1000 ∧ 2 ≤ k ∧ k ≤ v - 1 ∧ 1 ≤ l ∧ l ≤ 1000 := by
  simp [inRng] at h
  have h1 := inB_true h.1.1; have h2 := inB_true h.1.2; have h3 := inB_true h.2
  omega
theorem inRng_false {v k l : Int} (h : ¬ inRng v k l = true) : inRng v k l = false := by simpa using h
set_option maxHeartbeats 400000 in
theorem l29Range_any (v k l : Int) (w : World) :
    Calls Tryz.prog 31 #[.int .i64 v, .int .i64 k, .int .i64 l] w fun e w' => e = .returned (.bool (inRng v k l)) ∧ w = w' := by
  by_cases h1 : inB v 3 1000 = true
  · have hv := inB_true h1
    have hv1 := hv.1
    have hv2 := hv.2
    clear hv
    by_cases h2 : inB k 2 (v - 1) = true
    · by_cases h3 : inB l 1 1000 = true
      · have H := Lib.hid (show inRng v k l = true by simp [inRng, h1, h2, h3])
        go_enter Tryz.func31, Tryz.ntmps31
        go_wp2_with (go_at_call 38; refine (l00In_any _ _ _ _).mono ?_; rintro e w' ⟨rfl, rfl⟩)
        go_ret
        exact ⟨by rw [H.out]; rfl, rfl⟩
      · have h3' := inB_false h3; clear h3
        have H := Lib.hid (show inRng v k l = false by simp [inRng, h1, h2, h3'])
        go_enter Tryz.func31, Tryz.ntmps31
        go_wp2_with (go_at_call 38; refine (l00In_any _ _ _ _).mono ?_; rintro e w' ⟨rfl, rfl⟩)
        go_ret
        exact ⟨by rw [H.out]; rfl, rfl⟩
    · have h2' := inB_false h2; clear h2
      have H := Lib.hid (show inRng v k l = false by simp [inRng, h2'])
      go_enter Tryz.func31, Tryz.ntmps31
      go_wp2_with (go_at_call 38; refine (l00In_any _ _ _ _).mono ?_; rintro e w' ⟨rfl, rfl⟩)
      go_ret
      exact ⟨by rw [H.out]; rfl, rfl⟩
  · have h1' := inB_false h1; clear h1
    have H := Lib.hid (show inRng v k l = false by simp [inRng, h1'])
    go_enter Tryz.func31, Tryz.ntmps31
    go_wp2_with (go_at_call 38; refine (l00In_any _ _ _ _).mono ?_; rintro e w' ⟨rfl, rfl⟩)
    go_ret
    exact ⟨by rw [H.out]; rfl, rfl⟩
set_option maxHeartbeats 400000 in
theorem inRange_any (v k l : Int) (w : World) :
    Calls Tryz.prog 22 #[.int .i64 v, .int .i64 k, .int .i64 l] w fun e w' => e = .returned (.bool (inRng v k l)) ∧ w = w' := by
  by_cases h1 : inB v 3 1000 = true
  · have hv := inB_true h1
    have hv1 := hv.1
    have hv2 := hv.2
    clear hv
    by_cases h2 : inB k 2 (v - 1) = true
    · by_cases h3 : inB l 1 1000 = true
      · have H := Lib.hid (show inRng v k l = true by simp [inRng, h1, h2, h3])
        go_enter Tryz.func22, Tryz.ntmps22
        go_wp2_with (go_at_call 30; refine (within_any _ _ _ _).mono ?_; rintro e w' ⟨rfl, rfl⟩)
        go_ret
        exact ⟨by rw [H.out]; rfl, rfl⟩
      · have h3' := inB_false h3; clear h3
        have H := Lib.hid (show inRng v k l = false by simp [inRng, h1, h2, h3'])
        go_enter Tryz.func22, Tryz.ntmps22
        go_wp2_with (go_at_call 30; refine (within_any _ _ _ _).mono ?_; rintro e w' ⟨rfl, rfl⟩)
        go_ret
        exact ⟨by rw [H.out]; rfl, rfl⟩
    · have h2' := inB_false h2; clear h2
      have H := Lib.hid (show inRng v k l = false by simp [inRng, h2'])
      go_enter Tryz.func22, Tryz.ntmps22
      go_wp2_with (go_at_call 30; refine (within_any _ _ _ _).mono ?_; rintro e w' ⟨rfl, rfl⟩)
      go_ret
      exact ⟨by rw [H.out]; rfl, rfl⟩
  · have h1' := inB_false h1; clear h1
    have H := Lib.hid (show inRng v k l = false by simp [inRng, h1'])
    go_enter Tryz.func22, Tryz.ntmps22
    go_wp2_with (go_at_call 30; refine (within_any _ _ _ _).mono ?_; rintro e w' ⟨rfl, rfl⟩)
    go_ret
    exact ⟨by rw [H.out]; rfl, rfl⟩
def nB (v k l : Int) : Int := l * v * (v - 1) / (k * (k - 1))
def nR (v k l : Int) : Int := l * (v - 1) / (k - 1)
def okB (v k l : Int) : Bool := l * v * (v - 1) % (k * (k - 1)) == 0
def okR (v k l : Int) : Bool := l * (v - 1) % (k - 1) == 0
structure NumFacts (v k l : Int) : Prop where
  a0 : 0 ≤ l * v
  a1 : l * v ≤ 1000000
  b0 : 0 ≤ l * v * (v - 1)
  b1 : l * v * (v - 1) ≤ 1000000000
  c0 : 0 ≤ l * (v - 1)
  c1 : l * (v - 1) ≤ 1000000
  d0 : 1 ≤ k * (k - 1)
  d1 : k * (k - 1) ≤ 1000000
theorem numFacts {v k l : Int} (h : inRng v k l = true) : NumFacts v k l := by
  obtain ⟨v1, v2, k1, k2, l1, l2⟩ := inRng_true h
  have a := mul_bd (a := l) (b := v) (A := 1000) (B := 1000) (by omega) (by omega) (by omega) (by omega)
  have b := mul_bd (a := l * v) (b := v - 1) (A := 1000000) (B := 1000) (by omega) (by omega) (by omega) (by omega)
  have c := mul_bd (a := l) (b := v - 1) (A := 1000) (B := 1000) (by omega) (by omega) (by omega) (by omega)
  have d := mul_bd (a := k - 2) (b := k - 1) (A := 1000) (B := 1000) (by omega) (by omega) (by omega) (by omega)
  have d' := mul_bd (a := k) (b := k - 1) (A := 1000) (B := 1000) (by omega) (by omega) (by omega) (by omega)
  have e : k * (k - 1) = (k - 2) * (k - 1) + 2 * (k - 1) := by rw [← Int.add_mul]; congr 1; omega
  exact ⟨a.1, by omega, b.1, by omega, c.1, by omega, by omega, by omega⟩
set_option maxHeartbeats 400000 in
theorem l29Numbers_any (v k l : Int) (w : World) (h : inRng v k l = true) :
    Calls Tryz.prog 52 #[.int .i64 v, .int .i64 k, .int .i64 l] w fun e w' => e = .returned (.tuple #[.int .i64 (nB v k l), .int .i64 (nR v k l), .bool (okB v k l), .bool (okR v k l)]) ∧ Below w.heap.size w w' := by
  obtain ⟨v1, v2, k1, k2, l1, l2⟩ := inRng_true h
  obtain ⟨a0, a1, b0, b1, c0, c1, d0, d1⟩ := numFacts h
  clear h
  go_enter Tryz.func52, Tryz.ntmps52
  go_wp2
  go_quiet (fail)
  go_wp2
  refine bodyPost_ret (v := .tuple #[.int .i64 (nB v k l), .int .i64 (nR v k l), .bool (okB v k l), .bool (okR v k l)]) (by simp [results, Tryz.results52, go_sem, nB, nR, okB, okR]) rfl ⟨rfl, ?_⟩
  exact below_drewn _ _
set_option maxHeartbeats 400000 in
theorem blockNumbers_any (v k l : Int) (w : World) (h : inRng v k l = true) :
    Calls Tryz.prog 28 #[.int .i64 v, .int .i64 k, .int .i64 l] w fun e w' => e = .returned (.tuple #[.int .i64 (nB v k l), .int .i64 (nR v k l), .bool (okB v k l), .bool (okR v k l)]) ∧ Below w.heap.size w w' := by
  obtain ⟨v1, v2, k1, k2, l1, l2⟩ := inRng_true h
  obtain ⟨a0, a1, b0, b1, c0, c1, d0, d1⟩ := numFacts h
  clear h
  go_enter Tryz.func28, Tryz.ntmps28
  go_wp2
  go_quiet (fail)
  go_wp2
  refine bodyPost_ret (v := .tuple #[.int .i64 (nB v k l), .int .i64 (nR v k l), .bool (okB v k l), .bool (okR v k l)]) (by simp [results, Tryz.results28, go_sem, nB, nR, okB, okR]) rfl ⟨rfl, ?_⟩
  exact below_drewn _ _
def bnB (v k l : Int) : Int := if inRng v k l && okB v k l && okR v k l then nB v k l else 0
def bnR (v k l : Int) : Int := if inRng v k l && okB v k l && okR v k l then nR v k l else 0
def bnC (v k l : Int) : Int := if inRng v k l then (if okB v k l && okR v k l then 0 else 6) else 2
set_option maxHeartbeats 400000 in
theorem impl_BlockNumbers (v k l : Int) (w : World) :
    Calls Tryz.prog 9 #[.int .i64 v, .int .i64 k, .int .i64 l] w fun e w' => e = .returned (.tuple #[.int .i64 (bnB v k l), .int .i64 (bnR v k l), .int .i64 (bnC v k l)]) ∧ Below w.heap.size w w' := by
  by_cases h : inRng v k l = true
  · by_cases h1 : okB v k l = true
    · by_cases h2 : okR v k l = true
      · have H := Lib.hid (show bnB v k l = nB v k l ∧ bnR v k l = nR v k l ∧ bnC v k l = 0 by simp [bnB, bnR, bnC, h, h1, h2])
        go_enter Tryz.func9, Tryz.ntmps9
        go_wp2_with (first
          | (go_at_call 22; refine (inRange_any _ _ _ _).mono ?_; rintro e w' ⟨rfl, rfl⟩)
          | (go_at_call 28; refine (blockNumbers_any _ _ _ _ h).mono ?_; rintro e w1 ⟨rfl, hb1⟩))
        go_ret3
        exact ⟨by rw [H.out.1, H.out.2.1, H.out.2.2]; rfl, hb1⟩
      · have h2' : okR v k l = false := by simpa using h2
        clear h2
        have H := Lib.hid (show bnB v k l = 0 ∧ bnR v k l = 0 ∧ bnC v k l = 6 by simp [bnB, bnR, bnC, h, h1, h2'])
        go_enter Tryz.func9, Tryz.ntmps9
        go_wp2_with (first
          | (go_at_call 22; refine (inRange_any _ _ _ _).mono ?_; rintro e w' ⟨rfl, rfl⟩)
          | (go_at_call 28; refine (blockNumbers_any _ _ _ _ h).mono ?_; rintro e w1 ⟨rfl, hb1⟩))
        go_ret3
        exact ⟨by rw [H.out.1, H.out.2.1, H.out.2.2]; rfl, hb1⟩
    · have h1' : okB v k l = false := by simpa using h1
      clear h1
      have H := Lib.hid (show bnB v k l = 0 ∧ bnR v k l = 0 ∧ bnC v k l = 6 by simp [bnB, bnR, bnC, h, h1'])
      go_enter Tryz.func9, Tryz.ntmps9
      go_wp2_with (first
        | (go_at_call 22; refine (inRange_any _ _ _ _).mono ?_; rintro e w' ⟨rfl, rfl⟩)
        | (go_at_call 28; refine (blockNumbers_any _ _ _ _ h).mono ?_; rintro e w1 ⟨rfl, hb1⟩))
      go_ret3
      exact ⟨by rw [H.out.1, H.out.2.1, H.out.2.2]; rfl, hb1⟩
  · have h' := inRng_false h
    clear h
    have H := Lib.hid (show bnB v k l = 0 ∧ bnR v k l = 0 ∧ bnC v k l = 2 by simp [bnB, bnR, bnC, h'])
    go_enter Tryz.func9, Tryz.ntmps9
    go_wp2_with (go_at_call 22; refine (inRange_any _ _ _ _).mono ?_; rintro e w' ⟨rfl, rfl⟩)
    go_ret3
    exact ⟨by rw [H.out.1, H.out.2.1, H.out.2.2]; rfl, Below.refl _ _⟩
def noneTo' (zs : List Int) (x : Int) (k : Nat) : Prop := ∀ j, j < k → nth zs j ≠ x
set_option maxHeartbeats 400000 in
theorem l00Has_any (A : Option Addr) (n c : Nat) (zs : List Int) (x : Int) (w : World) (ha : RI w A n zs) (hn : n ≤ 9223372036854775807) :
    Calls Tryz.prog 119 #[.slice A n c, .int .i64 x] w fun e w' => e = .returned (.bool (tB (x ∈ zs))) ∧ w = w' := by
  have hla := Lib.hid ha.len
  go_enter Tryz.func119, Tryz.ntmps119
  go_wp2
  go_loop [5] (fun i => ∃ k : Nat, k ≤ n ∧ i = .int .i64 k ∧ noneTo' zs x k) (fun i => n - (intOf i).toNat)
  case atStart => exact ⟨0, Nat.zero_le _, rfl, fun _ h => absurd h (by omega)⟩
  case round =>
    obtain ⟨k, hk, rfl, hno⟩ := hrel
    by_cases hlt : k < n
    · obtain ⟨a, rfl, hca, hia⟩ := ha.get hlt
      by_cases he : nth zs k = x
      · have he' : (nth zs k == x) = true := by simp [he]
        have H := Lib.hid (show tB (x ∈ zs) = true from tB_yes (by rw [← he]; exact nth_mem (by rw [hla.out]; exact hlt)))
        clear he hno
        go_wp2
        go_ret
        exact ⟨by rw [H.out]; rfl, rfl⟩
      · have he' : (nth zs k == x) = false := by simp [he]
        have H := Lib.hid (show noneTo' zs x (k + 1) from fun j hj => by
          rcases Nat.lt_succ_iff_lt_or_eq.1 hj with h' | h'
          · exact hno j h'
          · rw [h']; exact he)
        clear he hno
        go_wp2
        go_round
        case rel => exact ⟨k + 1, by omega, by go_num, H.out⟩
        case measure => simp [intOf]; omega
    · have H := Lib.hid (show tB (x ∈ zs) = false from tB_no fun hm => by
        obtain ⟨j, hj, e⟩ := mem_nth hm
        exact hno j (by rw [hla.out] at hj; omega) e)
      clear hno
      go_wp2
      go_ret
      exact ⟨by rw [H.out]; rfl, rfl⟩
def chF (n k : Nat) : Nat → Nat
  | 0 => 1
  | i + 1 => chF n k i * (n - k + i + 1) / (i + 1)
def chP (n k : Nat) : Nat := if k ≤ n then chF n k k else 0
def chFs (n k : Nat) (c i : Nat) : Nat → Bool
  | 0 => decide (c ≤ 1000000000)
  | f + 1 => decide (c ≤ 1000000000) && chFs n k (c * (n - k + i + 1) / (i + 1)) (i + 1) f
theorem chFs_ok (n k : Nat) : ∀ (f c i : Nat), c = chF n k i → chFs n k c i f = true → ∀ j, j ≤ f → chF n k (i + j) ≤ 1000000000 := by
  intro f
  induction f with
  | zero =>
    intro c i hc h j hj
    obtain rfl : j = 0 := by omega
    rw [Nat.add_zero, ← hc]
    simpa [chFs] using h
  | succ f ih =>
    intro c i hc h j hj
    unfold chFs at h
    rw [Bool.and_eq_true] at h
    cases j with
    | zero => rw [Nat.add_zero, ← hc]; simpa using h.1
    | succ j =>
      have := ih _ (i + 1) (by rw [hc]; rfl) h.2 j (by omega)
      rwa [show i + 1 + j = i + (j + 1) by omega] at this
theorem chFs_all : ((List.range 33).all fun n => (List.range (n + 1)).all fun k => chFs n k 1 0 k) = true := by decide +kernel
theorem chF_le {n k i : Nat} (hn : n ≤ 32) (hk : k ≤ n) (hi : i ≤ k) : chF n k i ≤ 1000000000 := by
  have h := List.all_eq_true.1 (List.all_eq_true.1 chFs_all n (List.mem_range.2 (by omega))) k (List.mem_range.2 (by omega))
  have := chFs_ok n k k 1 0 rfl h i hi
  rwa [Nat.zero_add] at this
theorem chP_le {n k : Nat} (hn : n ≤ 32) : chP n k ≤ 1000000000 := by
  unfold chP
  split
  · exact chF_le hn (by assumption) (Nat.le_refl _)
  · omega
set_option maxRecDepth 100000 in
set_option maxHeartbeats 1000000 in
theorem choose_any (n k : Nat) (w : World) (hn : n ≤ 32) :
    Calls Tryz.prog 87 #[.int .i64 n, .int .i64 k] w (fun e w' => e = .returned (.int .i64 (chP n k : Int)) ∧ w = w') := by
  have hi : inB (n : Int) 0 32 = true := inB_mk ⟨by omega, by omega⟩
  by_cases hk : k ≤ n
  · have hik : inB (k : Int) 0 n = true := inB_mk ⟨by omega, by omega⟩
    have HC := Lib.hid (show chP n k = chF n k k by rw [chP, if_pos hk])
    go_enter Tryz.func87, Tryz.ntmps87
    go_wp2_with (go_at_call 30; refine (within_any _ _ _ _).mono ?_; rintro e w' ⟨rfl, rfl⟩; first | rw [hi] | rw [hik])
    go_loop [5, 6] (fun cv iv => ∃ i : Nat, i ≤ k ∧ iv = .int .i64 ((i : Int) + 1) ∧ cv = .int .i64 (chF n k i : Int)) (fun _ iv => (k + 1) - (intOf iv).toNat)
    case atStart => exact ⟨0, Nat.zero_le _, rfl, rfl⟩
    case round =>
      obtain ⟨i, hik, rfl, rfl⟩ := hrel
      by_cases hlt : i < k
      · have hbd := chF_le hn hk (Nat.le_of_lt hlt)
        have hbd2 := chF_le (i := i + 1) hn hk (by omega)
        have HST := Lib.hid (show chF n k (i + 1) = chF n k i * (n - k + i + 1) / (i + 1) from rfl)
        have hm : chF n k i * (n - k + i + 1) ≤ 1000000000 * 32 := Nat.mul_le_mul hbd (by omega)
        have e1 : (chF n k i : Int) * ((n : Int) - k + (i + 1)) = ((chF n k i * (n - k + i + 1) : Nat) : Int) := by
          rw [show (n : Int) - k + (i + 1) = ((n - k + i + 1 : Nat) : Int) by omega]
          push_cast
          rfl
        have e2 : ((chF n k i * (n - k + i + 1) : Nat) : Int) / ((i : Int) + 1) = ((chF n k i * (n - k + i + 1) / (i + 1) : Nat) : Int) := by push_cast; rfl
        have hd : chF n k i * (n - k + i + 1) / (i + 1) ≤ 1000000000 * 32 := Nat.le_trans (Nat.div_le_self _ _) hm
        have HB2 := Lib.hid hbd2
        clear hbd2
        generalize chF n k i = q at *
        generalize q * (n - k + i + 1) / (i + 1) = d at *
        generalize q * (n - k + i + 1) = m at *
        go_wp2
        exact ⟨⟨i + 1, by omega, by go_num, by rw [HST.out]⟩, by simp only [intOf]; omega⟩
      · obtain rfl : i = k := by omega
        go_wp2
        go_ret
        exact ⟨by rw [HC.out]; rfl, rfl⟩
  · have hik : inB (k : Int) 0 n = false := by simp [inB]; omega
    have HC := Lib.hid (show chP n k = 0 by rw [chP, if_neg hk])
    go_enter Tryz.func87, Tryz.ntmps87
    go_wp2_with (go_at_call 30; refine (within_any _ _ _ _).mono ?_; rintro e w' ⟨rfl, rfl⟩; first | rw [hi] | rw [hik])
    go_ret
    exact ⟨by rw [HC.out]; rfl, rfl⟩
set_option maxRecDepth 100000 in
set_option maxHeartbeats 1000000 in
theorem specChoose_any (n k : Nat) (w : World) (hn : n ≤ 32) :
    Calls Tryz.prog 20 #[.int .i64 n, .int .i64 k] w (fun e w' => e = .returned (.int .i64 (chP n k : Int)) ∧ w = w') := by
  have hi : inB (n : Int) 0 32 = true := inB_mk ⟨by omega, by omega⟩
  by_cases hk : k ≤ n
  · have hik : inB (k : Int) 0 n = true := inB_mk ⟨by omega, by omega⟩
    have HC := Lib.hid (show chP n k = chF n k k by rw [chP, if_pos hk])
    go_enter Tryz.func20, Tryz.ntmps20
    go_wp2_with (go_at_call 38; refine (l00In_any _ _ _ _).mono ?_; rintro e w' ⟨rfl, rfl⟩; first | rw [hi] | rw [hik])
    go_loop [5, 6] (fun cv iv => ∃ i : Nat, i ≤ k ∧ iv = .int .i64 ((i : Int) + 1) ∧ cv = .int .i64 (chF n k i : Int)) (fun _ iv => (k + 1) - (intOf iv).toNat)
    case atStart => exact ⟨0, Nat.zero_le _, rfl, rfl⟩
    case round =>
      obtain ⟨i, hik, rfl, rfl⟩ := hrel
      by_cases hlt : i < k
      · have hbd := chF_le hn hk (Nat.le_of_lt hlt)
        have hbd2 := chF_le (i := i + 1) hn hk (by omega)
        have HST := Lib.hid (show chF n k (i + 1) = chF n k i * (n - k + i + 1) / (i + 1) from rfl)
        have hm : chF n k i * (n - k + i + 1) ≤ 1000000000 * 32 := Nat.mul_le_mul hbd (by omega)
        have e1 : (chF n k i : Int) * ((n : Int) - k + (i + 1)) = ((chF n k i * (n - k + i + 1) : Nat) : Int) := by
          rw [show (n : Int) - k + (i + 1) = ((n - k + i + 1 : Nat) : Int) by omega]
          push_cast
          rfl
        have e2 : ((chF n k i * (n - k + i + 1) : Nat) : Int) / ((i : Int) + 1) = ((chF n k i * (n - k + i + 1) / (i + 1) : Nat) : Int) := by push_cast; rfl
        have hd : chF n k i * (n - k + i + 1) / (i + 1) ≤ 1000000000 * 32 := Nat.le_trans (Nat.div_le_self _ _) hm
        have HB2 := Lib.hid hbd2
        clear hbd2
        generalize chF n k i = q at *
        generalize q * (n - k + i + 1) / (i + 1) = d at *
        generalize q * (n - k + i + 1) = m at *
        go_wp2
        exact ⟨⟨i + 1, by omega, by go_num, by rw [HST.out]⟩, by simp only [intOf]; omega⟩
      · obtain rfl : i = k := by omega
        go_wp2
        go_ret
        exact ⟨by rw [HC.out]; rfl, rfl⟩
  · have hik : inB (k : Int) 0 n = false := by simp [inB]; omega
    have HC := Lib.hid (show chP n k = 0 by rw [chP, if_neg hk])
    go_enter Tryz.func20, Tryz.ntmps20
    go_wp2_with (go_at_call 38; refine (l00In_any _ _ _ _).mono ?_; rintro e w' ⟨rfl, rfl⟩; first | rw [hi] | rw [hik])
    go_ret
    exact ⟨by rw [HC.out]; rfl, rfl⟩
end Go.Proofs.YtnmcmologlgccaaGreat
