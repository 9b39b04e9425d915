/- A square of zeros, the program's own way. No condition beyond those stated. -/
import Derived.Test.YtgnilbbblpkcoaaRLE
import Derived.Test.YtgnilbbblpkcoaaRHF
import Derived.Test.YtgnilbbblpkcoaaRJH
set_option linter.unusedVariables false
set_option linter.unusedSimpArgs false
namespace Go.Proofs.Ytgnilbbblpkcoaa
open Go.RowKit
def zersP (r c : Nat) : List (List Int) := List.replicate r (List.replicate c 0)
theorem zersP_step (r c : Nat) : zersP r c ++ [List.replicate c 0] = zersP (r + 1) c := by simp [zersP, List.replicate_succ']
theorem fresh_more {A A' : Option Addr} {g m : Nat} (h : ∀ b, blk A = some b → g ≤ b) (hn : blk A' = blk A ∨ ∃ k, blk A' = some k ∧ m ≤ k) (hm : g ≤ m) : ∀ b, blk A' = some b → g ≤ b := fun b hb => by
  rcases hn with e | ⟨k, e, hk⟩
  · exact h b (by rw [← e]; exact hb)
  · rw [e] at hb; injection hb with hb; omega
set_option maxHeartbeats 400000 in
theorem emptyCell_any (x y : Int) (w : World) : Calls Try.prog 99 #[.int .i64 x, .int .i64 y] w (fun e w' => e = .returned (.int .i64 0) ∧ w = w') := by
  go_enter Try.func99, Try.ntmps99
  go_wp2
  go_ret
  exact ⟨rfl, rfl⟩
set_option maxRecDepth 100000 in
set_option maxHeartbeats 2000000 in
theorem filledZero_any (n : Nat) (w : World) (hn : n ≤ 1024) :
    Calls Try.prog 98 #[.int .i64 n, .func (.func 99) #[] #[]] w (RetR w 32 2 (zersP n n)) := by
  have eg : ∀ (args : Array Value) (w : World), (callFunc 99 args).run Try.prog w = .ok (.enter 99 args) w := fun _ _ => by kernel_rfl
  have G0 : Grw w w none 0 0 [] := ⟨OR.nil_ _ _ (by decide), Below.refl _ _⟩
  go_enter Try.func98, Try.ntmps98
  go_wp2
  go_loopw [5, 6] (fun av xv wr => ∃ (x : Nat) (A : Option Addr) (c : Nat), x ≤ n ∧ xv = .int .i64 x ∧ av = .slice A x c ∧ Grw w wr A x c (zersP x n)) (fun _ xv _ => n - (intOf xv).toNat)
  case atStart => exact ⟨0, none, 0, Nat.zero_le _, rfl, rfl, G0⟩
  case round =>
    clear G0
    obtain ⟨x, A, c, hx, rfl, rfl, G⟩ := hrel
    by_cases hlt : x < n
    · obtain ⟨wo, rfl⟩ : ∃ wo : World, wo = wr := ⟨_, rfl⟩
      obtain ⟨⟨vs, hov⟩, hw⟩ := G
      have ho0 : OI wo w.heap.size 2 none 0 0 (List.replicate 0 0) := OI.nil_ _ _ _
      go_wp2
      go_loopw [7, 8] (fun rv yv wr => ∃ (y : Nat) (R : Option Addr) (rc : Nat), y ≤ n ∧ yv = .int .i64 y ∧ rv = .slice R y rc ∧ OI wr w.heap.size 2 R y rc (List.replicate y 0) ∧ (∀ b, blk R = some b → wo.heap.size ≤ b) ∧ Below wo.heap.size wo wr) (fun _ yv _ => n - (intOf yv).toNat)
      case atStart => exact ⟨0, none, 0, Nat.zero_le _, rfl, rfl, ho0, fun b hb => by simp [blk] at hb, Below.refl _ _⟩
      case round =>
        clear ho0
        obtain ⟨y, R, rc, hy, rfl, rfl, ho, hfr, hb⟩ := hrel
        have hsz := Nat.le_trans hw.size hb.size
        by_cases hly : y < n
        · have hcl := emptyCell_any (x : Int) (y : Int) wr
          have hby : y ≤ 1024 := by omega
          go_wp2_with (first
            | (go_at_call 99; refine hcl.mono ?_; rintro e w' ⟨rfl, rfl⟩)
            | (at_builtin; refine app_int _ rfl (.tmp 19) (.tmp 24) rfl w.heap.size R y rc _ rfl ho 0 wr.heap.size rfl rfl ⟨by omega, by omega⟩ (Nat.le_trans (Nat.succ_le_succ hby) (by omega)) hsz ?_; intro A4 c4 w4 ho4 hg4 hf4))
          have hb4 : Below wo.heap.size wo w4 := below_own hb hg4 hb.size hfr
          have hfr4 : ∀ b, blk A4 = some b → wo.heap.size ≤ b := fresh_more hfr hf4 hb.size
          rw [← List.replicate_succ'] at ho4
          clear ho hfr hb hg4 hf4
          go_roundw
          case rel => exact ⟨y + 1, A4, c4, by omega, by go_num, rfl, ho4, hfr4, hb4⟩
          case measure => simp [intOf]; omega
        · obtain rfl : y = n := by omega
          have hap := hov.apart_new (v := (R, y, rc)) hfr
          have hov1 := hov.below hb
          have hw1 := hw.trans (hb.mono hw.size)
          have hbx : x ≤ 1024 := by omega
          clear hfr hb
          go_wp2_with (at_builtin; refine app_row _ rfl (.tmp 26) (.tmp 28) rfl w.heap.size A x c vs _ rfl hov1 (R, y, rc) _ ho hap _ rfl (by simp) (Nat.le_trans (Nat.succ_le_succ hbx) (by omega)) hsz ?_; intro A3 c3 w3 ho3 hg3 hf3)
          have hw3 := below_own hw1 hg3 hw1.size (fun b hb => (hov1.os.lt hb).1)
          rw [zersP_step] at ho3
          clear ho hap hov1 hg3 hf3
          go_roundw
          case rel => exact ⟨x + 1, A3, c3, by omega, by go_num, rfl, ⟨⟨_, ho3⟩, hw3⟩⟩
          case measure => simp [intOf]; omega
    · obtain rfl : x = n := by omega
      obtain ⟨ho, hw⟩ := G
      go_wp2
      go_ret
      exact ⟨_, _, _, rfl, ho, hw⟩
set_option maxHeartbeats 400000 in
theorem emptySquare_any (n : Nat) (w : World) (hn : n ≤ 1024) :
    Calls Try.prog 83 #[.int .i64 n] w (RetR w 32 2 (zersP n n)) := by
  go_enter Try.func83, Try.ntmps83
  go_wp2_with fail
  refine (filledZero_any n w hn).mono ?_
  rintro e w1 ⟨A, m, c, rfl, ho, hb⟩
  go_wp2
  go_ret
  exact ⟨_, _, _, rfl, ho, hb⟩
noncomputable def pairN (bs : List (List Int)) (a b : Int) : Nat := bs.countP fun r => tB (a ∈ r) && tB (b ∈ r)
noncomputable def prB (bs : List (List Int)) (a j : Nat) : List Int := (List.range j).map fun (d : Nat) => ((pairN bs (a : Int) ((a + 1 + d : Nat) : Int) : Nat) : Int)
noncomputable def prP (v : Nat) (bs : List (List Int)) (a : Nat) : List Int := (List.range a).flatMap fun a => prB bs a (v - a - 1)
theorem prB_step (bs : List (List Int)) (a j : Nat) : prB bs a (j + 1) = prB bs a j ++ [((pairN bs (a : Int) ((a + 1 + j : Nat) : Int) : Nat) : Int)] := by simp [prB, List.range_succ]
theorem prP_step (v : Nat) (bs : List (List Int)) (a : Nat) : prP v bs (a + 1) = prP v bs a ++ prB bs a (v - a - 1) := by simp [prP, List.range_succ, List.flatMap_append]
theorem pair_step {bs : List (List Int)} {a b : Int} {i : Nat} (h : i < bs.length) : (bs.take (i + 1)).countP (fun r => tB (a ∈ r) && tB (b ∈ r)) = (bs.take i).countP (fun r => tB (a ∈ r) && tB (b ∈ r)) + if tB (a ∈ row bs i) && tB (b ∈ row bs i) then 1 else 0 := by
  rw [List.take_succ_eq_append_getElem h, List.countP_append, ← row_get h]
  simp [List.countP_cons]
theorem pair_le (bs : List (List Int)) (a b : Int) : pairN bs a b ≤ bs.length := List.countP_le_length
theorem Blk.after' {w w' : World} {g B : Nat} {t e : TypeId} {cs : Array Value} {A : Option Addr} {n c : Nat} {zs : List Int} (h : Blk w g t cs) (hg : w.grownBy w' (blk A)) (ho : OI w B e A n c zs) (hne : e ≠ t := by decide) : Blk w' g t cs := by
  refine h.grown hg fun e' => ?_
  rcases ho.os.cases with ⟨rfl, _⟩ | ⟨g', cur, rfl, _, hg', _⟩
  · simp [blk] at e'
  · have : g = g' := by simpa [blk] using e'
    subst this
    unfold Blk at h
    rw [h] at hg'
    injection hg' with hg'
    injection hg' with _ ht
    exact hne ht.symm
set_option maxRecDepth 100000 in
set_option maxHeartbeats 1000000 in
theorem l10Pairs_any (g v : Nat) (A : Option Addr) (n c : Nat) (bs : List (List Int)) (w : World) (hB : Blk w g 26 #[.int .i64 (v : Int), .slice A n c]) (ha : RR w A n bs) (hv : v ≤ 32) (hn : n ≤ 128) :
    Calls Try.prog 48 #[.pointer (some ⟨g, 0, none⟩)] w (RetI w 2 (prP v bs v)) := by
  have hla := Lib.hid ha.len
  have ho0 : OI (w.alloc (.cells #[] 2)) w.heap.size 2 (some ⟨w.heap.size, 0, none⟩) 0 0 (prP v bs 0) := by simpa [ints, prP] using OI.lit w w.heap.size 2 [] (Nat.le_refl _) (by simp) (by simp [All64])
  have hb0 := below_alloc w (.cells #[] 2)
  have hX0 := hB.after hb0
  go_enter Try.func48, Try.ntmps48
  go_wp2
  go_loopw [3, 4] (fun ov av wr => ∃ (a : Nat) (O : Option Addr) (k oc : Nat), a ≤ v ∧ av = .int .i64 a ∧ ov = .slice O k oc ∧ k ≤ 32 * a ∧ OI wr w.heap.size 2 O k oc (prP v bs a) ∧ Below w.heap.size w wr ∧ Blk wr g 26 #[.int .i64 (v : Int), .slice A n c]) (fun _ av _ => v - (intOf av).toNat)
  case atStart => exact ⟨0, _, 0, 0, Nat.zero_le _, rfl, rfl, Nat.le_refl _, ho0, hb0, hX0⟩
  case round =>
    clear ho0 hb0 hX0
    obtain ⟨a, O, k, oc, hav, rfl, rfl, hk, ho, hw, X⟩ := hrel
    obtain ⟨x0, x1⟩ := X.cells2
    by_cases hlt : a < v
    · go_wp2
      clear x0 x1
      go_loopw [3, 5] (fun ov bv wr => ∃ (j : Nat) (O : Option Addr) (k oc : Nat), a + 1 + j ≤ v ∧ bv = .int .i64 ((a + 1 + j : Nat) : Int) ∧ ov = .slice O k oc ∧ k ≤ 32 * a + j ∧ OI wr w.heap.size 2 O k oc (prP v bs a ++ prB bs a j) ∧ Below w.heap.size w wr ∧ Blk wr g 26 #[.int .i64 (v : Int), .slice A n c]) (fun _ bv _ => v - (intOf bv).toNat)
      case atStart => exact ⟨0, O, k, oc, by omega, by go_num, rfl, by omega, by simpa [prB] using ho, hw, X⟩
      case round =>
        clear ho hw X hk
        obtain ⟨j, O, k, oc, hj, rfl, rfl, hk, ho, hw, X⟩ := hrel
        obtain ⟨x0, x1⟩ := X.cells2
        obtain ⟨y, hy⟩ : ∃ y, y = a + 1 + j := ⟨_, rfl⟩
        have HY := Lib.hid hy
        have HPB := Lib.hid (prB_step bs a j)
        rw [← hy] at hj HPB ⊢
        have hj31 : j ≤ 31 := by omega
        clear hy
        by_cases hly : y < v
        · have hr := ha.keep hw
          go_wp2
          go_loop [6, 7] (fun mv iv => ∃ i : Nat, i ≤ n ∧ iv = .int .i64 i ∧ mv = .int .i64 (((bs.take i).countP (fun r => tB ((a : Int) ∈ r) && tB ((y : Int) ∈ r)) : Nat) : Int)) (fun _ iv => n - (intOf iv).toNat)
          case atStart => exact ⟨0, Nat.zero_le _, rfl, by simp⟩
          case round =>
            obtain ⟨i, hi, rfl, rfl⟩ := hrel
            by_cases hlin : i < n
            · obtain ⟨ad, R, m, rc, rfl, cr, hm1, hm2, hri⟩ := hr.get hlin
              have HS := Lib.hid (pair_step (bs := bs) (a := (a : Int)) (b := (y : Int)) (i := i) (by rw [hla.out]; exact hlin))
              have hcn : (bs.take i).countP (fun r => tB ((a : Int) ∈ r) && tB ((y : Int) ∈ r)) ≤ 128 := Nat.le_trans List.countP_le_length (by rw [List.length_take]; omega)
              have hx1 := l00Has_any R m rc (row bs i) (a : Int) wr hri (by omega)
              have hx2 := l00Has_any R m rc (row bs i) (y : Int) wr hri (by omega)
              generalize hq2 : (bs.take (i + 1)).countP (fun r => tB ((a : Int) ∈ r) && tB ((y : Int) ∈ r)) = q2 at HS
              have HQ2 := Lib.hid hq2
              clear hq2
              generalize (bs.take i).countP (fun r => tB ((a : Int) ∈ r) && tB ((y : Int) ∈ r)) = q1 at *
              cases h1 : tB ((a : Int) ∈ row bs i) with
              | false =>
                rw [h1] at hx1 HS
                have HS3 : Hid (q2 = q1) := Lib.hid (by simpa using HS.out)
                clear h1 HS hx2
                go_wp2_with fail
                refine hx1.mono ?_
                rintro e w' ⟨rfl, rfl⟩
                go_wp2
                go_round
                case rel => exact ⟨i + 1, by omega, by go_num, by rw [HQ2.out, HS3.out]⟩
                case measure => simp [intOf]; omega
              | true =>
                cases h2 : tB ((y : Int) ∈ row bs i) with
                | false =>
                  rw [h1] at hx1 HS
                  rw [h2] at hx2 HS
                  have HS3 : Hid (q2 = q1) := Lib.hid (by simpa using HS.out)
                  clear h1 h2 HS
                  go_wp2_with fail
                  refine hx1.mono ?_
                  rintro e w' ⟨rfl, rfl⟩
                  go_wp2_with fail
                  refine hx2.mono ?_
                  rintro e w' ⟨rfl, rfl⟩
                  go_wp2
                  go_round
                  case rel => exact ⟨i + 1, by omega, by go_num, by rw [HQ2.out, HS3.out]⟩
                  case measure => simp [intOf]; omega
                | true =>
                  rw [h1] at hx1 HS
                  rw [h2] at hx2 HS
                  have HS3 : Hid (q2 = q1 + 1) := Lib.hid (by simpa using HS.out)
                  clear h1 h2 HS
                  go_wp2_with fail
                  refine hx1.mono ?_
                  rintro e w' ⟨rfl, rfl⟩
                  go_wp2_with fail
                  refine hx2.mono ?_
                  rintro e w' ⟨rfl, rfl⟩
                  go_wp2
                  go_round
                  case rel => exact ⟨i + 1, by omega, by go_num, by rw [HQ2.out, HS3.out]; go_num⟩
                  case measure => simp [intOf]; omega
            · obtain rfl : i = n := by omega
              have hcn : pairN bs (a : Int) (y : Int) ≤ 128 := Nat.le_trans (pair_le _ _ _) (by rw [hla.out]; omega)
              rw [show (bs.take i).countP (fun r => tB ((a : Int) ∈ r) && tB ((y : Int) ∈ r)) = pairN bs (a : Int) (y : Int) by rw [List.take_of_length_le (by rw [hla.out]; exact Nat.le_refl _)]; rfl]
              have hsz := hw.size
              generalize pairN bs (a : Int) (y : Int) = m at *
              clear hr
              go_wp2_with (at_builtin; refine app_int _ rfl (.tmp 58) (.tmp 60) rfl w.heap.size O k oc _ rfl ho (m : Int) wr.heap.size rfl rfl ⟨by omega, by omega⟩ (Nat.le_trans (Nat.succ_le_succ hk) (by omega)) hsz ?_; intro A4 c4 w4 ho4 hg4 hf4)
              have hw4 := below_own hw hg4 hsz (fun q hq => (ho.os.lt hq).1)
              have X4 := X.after' hg4 ho
              rw [List.append_assoc, ← HPB.out] at ho4
              clear ho hw X hg4 hf4
              go_roundw
              case rel => exact ⟨j + 1, A4, k + 1, c4, by have := HY.out; omega, by rw [HY.out]; go_num, rfl, by omega, ho4, hw4, X4⟩
              case measure => have := HY.out; simp [intOf]; omega
        · have hjn : j = v - a - 1 := by have := HY.out; omega
          rw [hjn, ← prP_step] at ho
          clear hjn
          go_wp2
          go_roundw
          case rel => exact ⟨a + 1, O, k, oc, by omega, by go_num, rfl, by omega, ho, hw, X⟩
          case measure => simp [intOf]; omega
    · obtain rfl : a = v := by omega
      go_wp2
      go_ret
      exact ⟨_, _, _, rfl, ho, hw⟩
def CntIs (v : Nat) (zs L : List Int) : Prop := zs.length = v ∧ ∀ x, x < v → nth zs x = ((L.count (x : Int) : Nat) : Int)
theorem nth_set' {l : List Int} {i j : Nat} {x : Int} (hj : j < l.length) : nth (l.set i x) j = if i = j then x else nth l j := by
  rw [nth_get (by simpa using hj), List.getElem_set]
  split
  · rfl
  · rw [nth_get hj]
theorem CntIs.step {v : Nat} {zs L : List Int} (h : CntIs v zs L) {y : Nat} (hy : y < v) : CntIs v (zs.set y (nth zs y + 1)) (L ++ [(y : Int)]) := by
  refine ⟨by rw [List.length_set, h.1], fun x hx => ?_⟩
  rw [nth_set' (by rw [h.1]; exact hx), List.count_append, List.count_singleton]
  by_cases e : y = x
  · subst e
    rw [if_pos rfl, h.2 y hy]
    simp
  · rw [if_neg e, h.2 x hx]
    have : ((y : Int) == (x : Int)) = false := by simp; omega
    rw [this]
    simp
noncomputable def repP (v : Nat) (bs : List (List Int)) : List Int := (List.range v).map fun (x : Nat) => ((bs.flatten.count (x : Int) : Nat) : Int)
theorem CntIs.eq {v : Nat} {zs : List Int} {bs : List (List Int)} (h : CntIs v zs bs.flatten) : zs = repP v bs := by
  refine List.ext_getElem (by rw [h.1]; simp [repP]) fun x h1 h2 => ?_
  have hx : x < v := by rw [← h.1]; exact h1
  have := h.2 x hx
  rw [nth_get h1] at this
  rw [this]
  simp [repP]
theorem flat_take {bs : List (List Int)} {i : Nat} (h : i < bs.length) : (bs.take (i + 1)).flatten = (bs.take i).flatten ++ row bs i := by
  rw [List.take_succ_eq_append_getElem h, List.flatten_append, ← row_get h]
  simp
theorem row_take {z : List Int} {k : Nat} (h : k < z.length) : z.take (k + 1) = z.take k ++ [nth z k] := by
  rw [List.take_succ_eq_append_getElem h, nth_get h]
theorem flat_len {bs : List (List Int)} {v : Nat} (h : ∀ i, i < bs.length → (row bs i).length ≤ v) : ∀ k, k ≤ bs.length → (bs.take k).flatten.length ≤ k * v := by
  intro k
  induction k with
  | zero => intro _; simp
  | succ k ih =>
    intro hk
    have := ih (by omega)
    have := h k (by omega)
    rw [flat_take (by omega), List.length_append, Nat.succ_mul]
    omega
theorem des_row {v : Nat} {bs : List (List Int)} (h : Design (v : Int) bs) {i : Nat} (hi : i < bs.length) : (row bs i).length ≤ v ∧ ∀ k, k < (row bs i).length → ∃ y : Nat, nth (row bs i) k = (y : Int) ∧ y < v := by
  have hb := h.blk i hi
  have hbd : ∀ k, k < (row bs i).length → ∃ y : Nat, nth (row bs i) k = (y : Int) ∧ y < v := fun k hk => by
    have := hb.2.bd k hk
    exact ⟨(nth (row bs i) k).toNat, by omega, by omega⟩
  refine ⟨?_, hbd⟩
  have hup : ∀ k, k < (row bs i).length → (k : Int) ≤ nth (row bs i) k := by
    intro k
    induction k with
    | zero => intro hk; have := hb.2.bd 0 hk; omega
    | succ k ih =>
      intro hk
      have h1 := ih (by omega)
      have h2 := hb.2.up k hk
      omega
  have h0 := hb.1
  have h1 := hup ((row bs i).length - 1) (by omega)
  have h2 := hb.2.bd ((row bs i).length - 1) (by omega)
  omega
theorem grown_setB {w : World} {g p : Nat} {u : Value} : w.grownBy (w.setCell ⟨g, p, none⟩ u) (blk (some (⟨g, 0, none⟩ : Addr))) :=
  ⟨rfl, rfl, rfl, by simp [World.setCell], fun k _ hk => Below.heap_setCell _ _ _ _ (fun e => hk (by rw [e]; rfl))⟩
set_option maxRecDepth 100000 in
set_option maxHeartbeats 1000000 in
theorem l10Replications_any (g v : Nat) (A : Option Addr) (n c : Nat) (bs : List (List Int)) (w : World) (hB : Blk w g 26 #[.int .i64 (v : Int), .slice A n c]) (ha : RR w A n bs) (hD : Design (v : Int) bs) :
    Calls Try.prog 49 #[.pointer (some ⟨g, 0, none⟩)] w (RetI w 2 (repP v bs)) := by
  have hla := Lib.hid ha.len
  have hv : v ≤ 32 := by have := hD.v2; omega
  have hn : n ≤ 128 := by rw [← hla.out]; exact hD.len
  have HD := Lib.hid hD
  clear hD
  have hmk := run_make_row' (P := Try.prog) 32 2 (.int .i64 0) 8 Try.underlying32 int_info rfl .i64 .i64 v (by omega) (by omega)
  have ho0 := OI.made w w.heap.size 2 v (Nat.le_refl _) (by omega)
  have hb0 := below_alloc w (.cells (madeCells #[.int .i64 0] v) 2)
  have hX0 := hB.after hb0
  have hC0 : CntIs v (List.replicate v 0) [] := ⟨by simp, fun x hx => by simp [nth, List.getD, hx]⟩
  obtain ⟨y0, y1⟩ := hB.cells2
  go_enter Try.func49, Try.ntmps49
  go_wp2
  clear y0 y1
  go_loopw [4] (fun iv wr => ∃ (i : Nat) (zs : List Int), i ≤ n ∧ iv = .int .i64 i ∧ OI wr w.heap.size 2 (some ⟨w.heap.size, 0, none⟩) v v zs ∧ CntIs v zs (bs.take i).flatten ∧ Below w.heap.size w wr ∧ Blk wr g 26 #[.int .i64 (v : Int), .slice A n c]) (fun iv _ => n - (intOf iv).toNat)
  case atStart => exact ⟨0, _, Nat.zero_le _, rfl, ho0, by simpa using hC0, hb0, hX0⟩
  case round =>
    clear ho0 hb0 hX0 hC0 hmk
    obtain ⟨i, zs, hi, rfl, ho, hC, hw, X⟩ := hrel
    obtain ⟨x0, x1⟩ := X.cells2
    by_cases hlt : i < n
    · have hil : i < bs.length := by rw [hla.out]; exact hlt
      obtain ⟨hm, hent⟩ := des_row HD.out hil
      have HM := Lib.hid hent
      clear hent
      go_wp2
      clear x0 x1
      go_loopw [5] (fun kv wr => ∃ (k : Nat) (zs : List Int), k ≤ (row bs i).length ∧ kv = .int .i64 k ∧ OI wr w.heap.size 2 (some ⟨w.heap.size, 0, none⟩) v v zs ∧ CntIs v zs ((bs.take i).flatten ++ (row bs i).take k) ∧ Below w.heap.size w wr ∧ Blk wr g 26 #[.int .i64 (v : Int), .slice A n c]) (fun kv _ => (row bs i).length - (intOf kv).toNat)
      case atStart => exact ⟨0, zs, Nat.zero_le _, rfl, ho, by simpa using hC, hw, X⟩
      case round =>
        clear ho hC hw X
        obtain ⟨k, zs, hk, rfl, ho, hC, hw, X⟩ := hrel
        obtain ⟨x0, x1⟩ := X.cells2
        obtain ⟨ad, R, m, rc, rfl, cr, hm1, hm2, hri⟩ := (ha.keep hw).get hlt
        have hlr := hri.len
        by_cases hlk : k < (row bs i).length
        · obtain ⟨y, hy, hyv⟩ := HM.out k hlk
          obtain ⟨ra, rfl, ck, -⟩ := hri.get (k := k) (by omega)
          rw [hy] at ck
          obtain ⟨g0, hg0, cz, fz, iz⟩ := ho.cell hyv
          cases hg0
          have hzb : nth zs y ≤ 8192 ∧ 0 ≤ nth zs y := by
            rw [hC.2 y hyv]
            have h1 := List.count_le_length (a := (y : Int)) (l := (bs.take i).flatten ++ (row bs i).take k)
            have h2 := flat_len (fun i hi => (des_row HD.out hi).1) i (by omega)
            have h3 : i * v ≤ 128 * 32 := Nat.mul_le_mul (by omega) hv
            rw [List.length_append, List.length_take] at h1
            omega
          have HC2 := Lib.hid (hC.step hyv)
          rw [List.append_assoc, ← hy, ← row_take hlk] at HC2
          have ho2 := ho.set y (u := nth zs y + 1) ⟨by omega, by omega⟩
          have hw2 := Below.setCell hw (p := ⟨w.heap.size, y, none⟩) (Nat.le_refl _) (.int .i64 (nth zs y + 1))
          have X2 := X.after' (grown_setB (w := wr) (g := w.heap.size) (p := y) (u := .int .i64 (nth zs y + 1))) ho
          have hlk' : (k : Int) < m := by omega
          have hkm : k < m := by omega
          clear ho hC hw X hri
          generalize hzn : zs.set y (nth zs y + 1) = zn at *
          clear hzn
          generalize nth zs y = u at *
          go_wp2
          go_roundw
          case rel => exact ⟨k + 1, zn, by omega, by go_num, ho2, HC2.out, hw2, X2⟩
          case measure => simp [intOf]; omega
        · have hkm : k = m := by omega
          have hlk' : ¬ (k : Int) < m := by omega
          have hC2 : CntIs v zs (bs.take (i + 1)).flatten := by
            rw [show (row bs i).take k = row bs i from List.take_of_length_le (by omega), ← flat_take hil] at hC
            exact hC
          clear hC hri hlr hkm
          go_wp2
          go_roundw
          case rel => exact ⟨i + 1, zs, by omega, by go_num, ho, hC2, hw, X⟩
          case measure => simp [intOf]; omega
    · obtain rfl : i = n := by omega
      rw [List.take_of_length_le (by rw [hla.out]; exact Nat.le_refl _)] at hC
      obtain rfl := hC.eq
      go_wp2
      go_ret
      exact ⟨_, _, _, rfl, ho, hw⟩
def prsU (r : List Int) (i : Nat) : List (Int × Int) := (List.range i).flatMap fun p => (r.drop (p + 1)).map fun y => (nth r p, y)
theorem prsU_step (r : List Int) (i : Nat) : prsU r (i + 1) = prsU r i ++ (r.drop (i + 1)).map fun y => (nth r i, y) := by simp [prsU, List.range_succ, List.flatMap_append]
def prsF (bs : List (List Int)) : List (Int × Int) := bs.flatMap fun r => prsU r r.length
theorem prsF_take {bs : List (List Int)} {q : Nat} (h : q < bs.length) : prsF (bs.take (q + 1)) = prsF (bs.take q) ++ prsU (row bs q) (row bs q).length := by
  unfold prsF
  rw [List.take_succ_eq_append_getElem h, List.flatMap_append, ← row_get h]
  simp
theorem drop_take_step {r : List Int} {i j : Nat} (h : j < (r.drop (i + 1)).length) : ((r.drop (i + 1)).take (j + 1)).map (fun y => (nth r i, y)) = ((r.drop (i + 1)).take j).map (fun y => (nth r i, y)) ++ [(nth r i, nth (r.drop (i + 1)) j)] := by
  rw [row_take h, List.map_append]
  rfl
section
variable {r : List Int}
theorem strict_lt (h : r.Pairwise fun x y => x < y) {p q : Nat} (hpq : p < q) (hq : q < r.length) : nth r p < nth r q := by
  rw [nth_get (by omega), nth_get hq]
  exact List.pairwise_iff_getElem.1 h p q (by omega) hq hpq
theorem prsU_mem (x y : Int) (i : Nat) : (x, y) ∈ prsU r i ↔ ∃ p, p < i ∧ x = nth r p ∧ y ∈ r.drop (p + 1) := by
  unfold prsU
  rw [List.mem_flatMap]
  constructor
  · rintro ⟨p, hp, hm⟩
    obtain ⟨z, hz, e⟩ := List.mem_map.1 hm
    injection e with e1 e2
    exact ⟨p, List.mem_range.1 hp, e1.symm, by rw [← e2]; exact hz⟩
  · rintro ⟨p, hp, rfl, hy⟩
    exact ⟨p, List.mem_range.2 hp, List.mem_map.2 ⟨y, hy, rfl⟩⟩
theorem strict_nodup' (h : r.Pairwise fun x y => x < y) : r.Nodup := h.imp fun hab e => by omega
theorem prsU_nodup (h : r.Pairwise fun x y => x < y) : (prsU r r.length).Nodup := by
  unfold prsU
  rw [List.Nodup, List.pairwise_flatMap]
  refine ⟨fun p _ => ?_, ?_⟩
  · rw [List.pairwise_map]
    refine (List.Pairwise.sublist (List.drop_sublist _ _) (strict_nodup' h)).imp fun {a b} hab e => ?_
    injection e with _ e
    exact hab e
  · refine List.Pairwise.imp_of_mem ?_ List.pairwise_lt_range
    intro p q hp hq hpq u hu w hw e
    have hq' := List.mem_range.1 hq
    obtain ⟨_, _, rfl⟩ := List.mem_map.1 hu
    obtain ⟨_, _, rfl⟩ := List.mem_map.1 hw
    injection e with e _
    have := strict_lt h hpq hq'
    omega
theorem prsU_in (h : r.Pairwise fun x y => x < y) {x y : Int} (hxy : x < y) : (x, y) ∈ prsU r r.length ↔ x ∈ r ∧ y ∈ r := by
  rw [prsU_mem]
  constructor
  · rintro ⟨p, hp, rfl, hy⟩
    exact ⟨by rw [nth_get hp]; exact List.getElem_mem hp, List.mem_of_mem_drop hy⟩
  · rintro ⟨hx, hy⟩
    obtain ⟨p, hp, rfl⟩ := List.mem_iff_getElem.1 hx
    obtain ⟨q, hq, rfl⟩ := List.mem_iff_getElem.1 hy
    have hpq : p < q := by
      rcases Nat.lt_trichotomy p q with h1 | rfl | h1
      · exact h1
      · omega
      · have := List.pairwise_iff_getElem.1 h q p hq hp h1
        omega
    refine ⟨p, hp, by rw [nth_get hp], List.mem_iff_getElem.2 ⟨q - (p + 1), by rw [List.length_drop]; omega, ?_⟩⟩
    rw [List.getElem_drop]
    congr 1
    omega
theorem prsU_count (h : r.Pairwise fun x y => x < y) {x y : Int} (hxy : x < y) : (prsU r r.length).count (x, y) = if tB (x ∈ r) && tB (y ∈ r) then 1 else 0 := by
  by_cases hm : x ∈ r ∧ y ∈ r
  · rw [tB_yes hm.1, tB_yes hm.2]
    rw [(prsU_nodup h).count, if_pos ((prsU_in h hxy).2 hm)]; rfl
  · have : ¬ ((x, y) ∈ prsU r r.length) := fun h' => hm ((prsU_in h hxy).1 h')
    rw [List.count_eq_zero_of_not_mem this]
    by_cases h1 : x ∈ r
    · rw [tB_yes h1, tB_no (fun h2 => hm ⟨h1, h2⟩)]; rfl
    · rw [tB_no h1]; rfl
end
theorem des_strict {v : Nat} {bs : List (List Int)} (h : Design (v : Int) bs) {i : Nat} (hi : i < bs.length) : (row bs i).Pairwise fun x y => x < y := by
  have hb := (h.blk i hi).2
  have hs : ∀ d j, j + 1 + d < (row bs i).length → nth (row bs i) j < nth (row bs i) (j + 1 + d) := by
    intro d
    induction d with
    | zero => intro j hj; exact hb.up j hj
    | succ d ih =>
      intro j hj
      have h1 := ih j (by omega)
      have h2 := hb.up (j + 1 + d) (by omega)
      rw [show j + 1 + (d + 1) = j + 1 + d + 1 by omega]
      omega
  refine List.pairwise_iff_getElem.2 fun a b ha hb' hab => ?_
  have := hs (b - a - 1) a (by omega)
  rw [show a + 1 + (b - a - 1) = b by omega, nth_get ha, nth_get hb'] at this
  exact this
theorem prsF_count {v : Nat} {bs : List (List Int)} (h : Design (v : Int) bs) {x y : Int} (hxy : x < y) : (prsF bs).count (x, y) = pairN bs x y := by
  have key : ∀ q, q ≤ bs.length → (prsF (bs.take q)).count (x, y) = (bs.take q).countP fun r => tB (x ∈ r) && tB (y ∈ r) := by
    intro q
    induction q with
    | zero => intro _; simp [prsF]
    | succ q ih =>
      intro hq
      rw [prsF_take (by omega), List.count_append, ih (by omega), prsU_count (des_strict h (by omega)) hxy, pair_step (by omega)]
  have := key bs.length (Nat.le_refl _)
  rwa [List.take_length] at this
structure TIs (v : Nat) (zss : List (List Int)) (L : List (Int × Int)) : Prop where
  len : zss.length = v
  rows : ∀ x, x < v → (row zss x).length = v
  at_ : ∀ x y, x < v → y < v → nth (row zss x) y = ((L.count ((x : Int), (y : Int)) : Nat) : Int)
theorem row_set' {zss : List (List Int)} {i j : Nat} {r : List Int} (hj : j < zss.length) : row (zss.set i r) j = if i = j then r else row zss j := by
  by_cases e : i = j
  · subst e; rw [if_pos rfl]; exact row_eq (by simp [hj])
  · rw [if_neg e]; simp [row, List.getD, List.getElem?_set, e]
theorem TIs.step {v : Nat} {zss : List (List Int)} {L : List (Int × Int)} (h : TIs v zss L) {a b : Nat} (ha : a < v) (hb : b < v) : TIs v (zss.set a ((row zss a).set b (nth (row zss a) b + 1))) (L ++ [((a : Int), (b : Int))]) := by
  have hr : ∀ x, x < v → row (zss.set a ((row zss a).set b (nth (row zss a) b + 1))) x = if a = x then (row zss a).set b (nth (row zss a) b + 1) else row zss x := fun x hx => row_set' (by rw [h.len]; exact hx)
  refine ⟨by rw [List.length_set, h.len], fun x hx => ?_, fun x y hx hy => ?_⟩
  · rw [hr x hx]
    split
    · rw [List.length_set, h.rows a ha]
    · exact h.rows x hx
  · rw [hr x hx, List.count_append, List.count_singleton]
    by_cases e : a = x
    · subst e
      rw [if_pos rfl, nth_set' (by rw [h.rows a ha]; exact hy)]
      by_cases e2 : b = y
      · subst e2
        rw [if_pos rfl, h.at_ a b ha hb]
        simp
      · have : (((a : Int), (b : Int)) == ((a : Int), (y : Int))) = false := by
          rw [beq_eq_false_iff_ne]; intro h'; injection h' with _ h'; exact e2 (by omega)
        rw [if_neg e2, h.at_ a y ha hy, this]
        simp
    · have : (((a : Int), (b : Int)) == ((x : Int), (y : Int))) = false := by
        rw [beq_eq_false_iff_ne]; intro h'; injection h' with h' _; exact e (by omega)
      rw [if_neg e, h.at_ x y hx hy, this]
      simp
theorem TIs.ends {v : Nat} {zss : List (List Int)} {bs : List (List Int)} (hD : Design (v : Int) bs) (h : TIs v zss (prsF bs)) {a : Nat} (ha : a < v) : (row zss a).drop (a + 1) = prB bs a (v - a - 1) := by
  refine List.ext_getElem (by rw [List.length_drop, h.rows a ha]; simp [prB]; omega) fun d h1 h2 => ?_
  have hd : a + 1 + d < v := by rw [List.length_drop, h.rows a ha] at h1; omega
  have := h.at_ a (a + 1 + d) ha hd
  rw [prsF_count hD (by omega), nth_get (by rw [h.rows a ha]; exact hd)] at this
  rw [List.getElem_drop, this]
  simp [prB]
structure Bal (v : Nat) (bs : List (List Int)) (k : Nat) (lam : Int) : Prop where
  d : Design (v : Int) bs
  v2 : 2 ≤ v
  b1 : 0 < bs.length
  len : ∀ i, i < bs.length → (row bs i).length = k
  k2 : 2 ≤ k
  lam : ∀ j, j < (prP v bs v).length → nth (prP v bs v) j = lam
def parV (v b r k : Nat) (lam : Int) : Array Value := #[.int .i64 (v : Int), .int .i64 (b : Int), .int .i64 (r : Int), .int .i64 (k : Int), .int .i64 lam]
def par0 : Array Value := #[.int .i64 0, .int .i64 0, .int .i64 0, .int .i64 0, .int .i64 0]
theorem prB_len (bs : List (List Int)) (a j : Nat) : (prB bs a j).length = j := by simp [prB]
theorem prP_pos {v : Nat} {bs : List (List Int)} (h : 2 ≤ v) : 0 < (prP v bs v).length := by
  obtain ⟨u, rfl⟩ : ∃ u, v = u + 1 := ⟨v - 1, by omega⟩
  have h1 : (prB bs 0 (u + 1 - 0 - 1)).length = u := by rw [prB_len]; omega
  have : (prP (u + 1) bs 1).length = u := by rw [show (1 : Nat) = 0 + 1 from rfl, prP_step, List.length_append, h1]; simp [prP]
  have hm : ∀ a, (prP (u + 1) bs (a + 1)).length ≥ u := by
    intro a
    induction a with
    | zero => simp only [Nat.zero_add]; omega
    | succ a ih => rw [prP_step, List.length_append]; omega
  have := hm u
  omega
theorem Blk.cells5 {w : World} {g : Nat} {t : TypeId} {a b c d e : Value} (h : Blk w g t #[a, b, c, d, e]) : w.cell? ⟨g, 0, none⟩ = some a ∧ w.cell? ⟨g, 1, none⟩ = some b ∧ w.cell? ⟨g, 2, none⟩ = some c ∧ w.cell? ⟨g, 3, none⟩ = some d ∧ w.cell? ⟨g, 4, none⟩ = some e := ⟨h.cell 0, h.cell 1, h.cell 2, h.cell 3, h.cell 4⟩
theorem prP_len_le {v : Nat} {bs : List (List Int)} : ∀ a, a ≤ v → (prP v bs a).length ≤ a * v := by
  intro a
  induction a with
  | zero => intro _; simp [prP]
  | succ a ih =>
    intro h
    have := ih (by omega)
    rw [prP_step, List.length_append, prB_len, Nat.succ_mul]
    omega
theorem put5 {w : World} {rb : Nat} {t : TypeId} {x0 x1 x2 x3 x4 a b c d e : Value} (R : Blk w rb t #[x0, x1, x2, x3, x4]) :
    Blk (((((w.setCell ⟨rb, 0, none⟩ a).setCell ⟨rb, 1, none⟩ b).setCell ⟨rb, 2, none⟩ c).setCell ⟨rb, 3, none⟩ d).setCell ⟨rb, 4, none⟩ e) rb t #[a, b, c, d, e] := by
  have := ((((R.set_ 0 a).set_ 1 b).set_ 2 c).set_ 3 d).set_ 4 e
  simpa using this
theorem below5 {w0 w : World} {rb : Nat} {a b c d e : Value} (h : Below w0.heap.size w0 w) (hr : w0.heap.size ≤ rb) :
    Below w0.heap.size w0 (((((w.setCell ⟨rb, 0, none⟩ a).setCell ⟨rb, 1, none⟩ b).setCell ⟨rb, 2, none⟩ c).setCell ⟨rb, 3, none⟩ d).setCell ⟨rb, 4, none⟩ e) :=
  ((((h.setCell (p := ⟨rb, 0, none⟩) hr a).setCell (p := ⟨rb, 1, none⟩) hr b).setCell (p := ⟨rb, 2, none⟩) hr c).setCell (p := ⟨rb, 3, none⟩) hr d).setCell (p := ⟨rb, 4, none⟩) hr e
def RetPa (w : World) (v : Nat) (bs : List (List Int)) (e : Ending) (w' : World) : Prop :=
  ∃ (ok : Bool) (cs : Array Value), e = .returned (.tuple #[.agg cs, .bool ok]) ∧ Below w.heap.size w w' ∧ cs.size = 5 ∧ (ok = true → ∃ k lam, Bal v bs k lam ∧ cs = parV v bs.length (bs.flatten.count 0) k lam) ∧ (ok = false → cs = par0)
set_option maxRecDepth 100000 in
set_option maxHeartbeats 8000000 in
theorem l10Parameters_any (g v : Nat) (A : Option Addr) (n c : Nat) (bs : List (List Int)) (w : World) (hB : Blk w g 26 #[.int .i64 (v : Int), .slice A n c]) (ha : RR w A n bs) (hD : Design (v : Int) bs) :
    Calls Try.prog 22 #[.pointer (some ⟨g, 0, none⟩)] w (RetPa w v bs) := by
  have hla := Lib.hid ha.len
  have hv : v ≤ 32 := by have := hD.v2; omega
  have hn : n ≤ 128 := by rw [← hla.out]; exact hD.len
  have HD := Lib.hid hD
  clear hD
  have R : Blk (w.alloc (.cells #[.int .i64 0, .int .i64 0, .int .i64 0, .int .i64 0, .int .i64 0] 29)) w.heap.size 29 #[.int .i64 0, .int .i64 0, .int .i64 0, .int .i64 0, .int .i64 0] := Blk.new w 29 _
  have hw := below_alloc w (.cells #[.int .i64 0, .int .i64 0, .int .i64 0, .int .i64 0, .int .i64 0] 29)
  have X := hB.after hw
  have hr := ha.keep hw
  clear hB ha
  obtain ⟨x0, x1⟩ := X.cells2
  go_enter Try.func22, Try.ntmps22
  by_cases hv2 : v < 2
  · have hvi : (v : Int) < 2 := by omega
    obtain ⟨y0, y1, y2, y3, y4⟩ := R.cells5
    have f0 := R.frozen 0
    have f1 := R.frozen 1
    have f2 := R.frozen 2
    have f3 := R.frozen 3
    have f4 := R.frozen 4
    obtain ⟨z0, z1, z2, z3, z4⟩ := (put5 (a := .int .i64 0) (b := .int .i64 0) (c := .int .i64 0) (d := .int .i64 0) (e := .int .i64 0) R).cells5
    have hbz := below5 (a := .int .i64 0) (b := .int .i64 0) (c := .int .i64 0) (d := .int .i64 0) (e := .int .i64 0) hw (Nat.le_refl w.heap.size)
    clear R
    go_wp2
    exact bodyPost_ret (v := .tuple #[.agg #[.int .i64 0, .int .i64 0, .int .i64 0, .int .i64 0, .int .i64 0], .bool false]) (by simp [results, Try.results22, go_sem, y0, y1, y2, y3, y4, z0, z1, z2, z3, z4]) rfl ⟨false, _, rfl, hw, rfl, (fun h => by cases h), fun _ => rfl⟩
  have hvi : ¬ (v : Int) < 2 := by omega
  by_cases hn0 : n = 0
  · subst hn0
    obtain ⟨y0, y1, y2, y3, y4⟩ := R.cells5
    have f0 := R.frozen 0
    have f1 := R.frozen 1
    have f2 := R.frozen 2
    have f3 := R.frozen 3
    have f4 := R.frozen 4
    obtain ⟨z0, z1, z2, z3, z4⟩ := (put5 (a := .int .i64 0) (b := .int .i64 0) (c := .int .i64 0) (d := .int .i64 0) (e := .int .i64 0) R).cells5
    have hbz := below5 (a := .int .i64 0) (b := .int .i64 0) (c := .int .i64 0) (d := .int .i64 0) (e := .int .i64 0) hw (Nat.le_refl w.heap.size)
    clear R
    go_wp2
    exact bodyPost_ret (v := .tuple #[.agg #[.int .i64 0, .int .i64 0, .int .i64 0, .int .i64 0, .int .i64 0], .bool false]) (by simp [results, Try.results22, go_sem, y0, y1, y2, y3, y4, z0, z1, z2, z3, z4]) rfl ⟨false, _, rfl, hw, rfl, (fun h => by cases h), fun _ => rfl⟩
  have hni : ((n : Int) == 0) = false := by simp [hn0]
  obtain ⟨ad, Z, k, zc, rfl, cz, hk1, hk2, hrz⟩ := hr.get (k := 0) (by omega)
  have cz : (w.alloc (.cells #[.int .i64 0, .int .i64 0, .int .i64 0, .int .i64 0, .int .i64 0] 29)).cell? ad = some (.slice Z k zc) := cz
  have hk0 : (row bs 0).length = k := hrz.len
  have HK0 := Lib.hid hk0
  have hkv : k ≤ 32 := by have := (des_row HD.out (i := 0) (by rw [hla.out]; omega)).1; omega
  clear hk0 hrz
  go_wp2
  generalize w.alloc (.cells #[.int .i64 0, .int .i64 0, .int .i64 0, .int .i64 0, .int .i64 0] 29) = W at *
  go_loop [5] (fun iv => ∃ i : Nat, i ≤ n ∧ iv = .int .i64 i ∧ Hid (∀ j, j < i → (row bs j).length = k) ∧ (0 < i → 2 ≤ k)) (fun iv => n - (intOf iv).toNat)
  case atStart => exact ⟨0, Nat.zero_le _, rfl, Lib.hid fun j hj => absurd hj (by omega), fun h => absurd h (by omega)⟩
  case round =>
    obtain ⟨i, hi, rfl, HL, hk2'⟩ := hrel
    by_cases hlt : i < n
    · obtain ⟨ad', Y, m, yc, had, cy, hm1, hm2, hry⟩ := hr.get hlt
      cases had
      have hml := hry.len
      have HML := Lib.hid hml
      clear hry hml
      by_cases hmk : m = k
      · by_cases hk22 : 2 ≤ k
        · have hmi : ((m : Int) == (k : Int)) = true := by simp [hmk]
          have HL2 : Hid (∀ j, j < i + 1 → (row bs j).length = k) := Lib.hid fun j hj => by
            rcases Nat.lt_succ_iff_lt_or_eq.1 hj with h | rfl
            · exact HL.out j h
            · rw [HML.out, hmk]
          subst hmk
          have hk2i : ¬ (m : Int) < 2 := by omega
          clear HL hk2'
          go_wp2
          go_round
          case rel => exact ⟨i + 1, by omega, by go_num, HL2, fun _ => hk22⟩
          case measure => simp [intOf]; omega
        · have hk2i : (k : Int) < 2 := by omega
          subst hmk
          obtain ⟨y0, y1, y2, y3, y4⟩ := R.cells5
          have f0 := R.frozen 0
          have f1 := R.frozen 1
          have f2 := R.frozen 2
          have f3 := R.frozen 3
          have f4 := R.frozen 4
          obtain ⟨z0, z1, z2, z3, z4⟩ := (put5 (a := .int .i64 0) (b := .int .i64 0) (c := .int .i64 0) (d := .int .i64 0) (e := .int .i64 0) R).cells5
          have hbz := below5 (a := .int .i64 0) (b := .int .i64 0) (c := .int .i64 0) (d := .int .i64 0) (e := .int .i64 0) hw (Nat.le_refl w.heap.size)
          clear R
          go_wp2
          exact bodyPost_ret (v := .tuple #[.agg #[.int .i64 0, .int .i64 0, .int .i64 0, .int .i64 0, .int .i64 0], .bool false]) (by simp [results, Try.results22, go_sem, y0, y1, y2, y3, y4, z0, z1, z2, z3, z4]) rfl ⟨false, _, rfl, hbz, rfl, (fun h => by cases h), fun _ => rfl⟩
      · have hmi : ¬ ((m : Int) = (k : Int)) := by omega
        obtain ⟨y0, y1, y2, y3, y4⟩ := R.cells5
        have f0 := R.frozen 0
        have f1 := R.frozen 1
        have f2 := R.frozen 2
        have f3 := R.frozen 3
        have f4 := R.frozen 4
        obtain ⟨z0, z1, z2, z3, z4⟩ := (put5 (a := .int .i64 0) (b := .int .i64 0) (c := .int .i64 0) (d := .int .i64 0) (e := .int .i64 0) R).cells5
        have hbz := below5 (a := .int .i64 0) (b := .int .i64 0) (c := .int .i64 0) (d := .int .i64 0) (e := .int .i64 0) hw (Nat.le_refl w.heap.size)
        clear R
        go_wp2
        exact bodyPost_ret (v := .tuple #[.agg #[.int .i64 0, .int .i64 0, .int .i64 0, .int .i64 0, .int .i64 0], .bool false]) (by simp [results, Try.results22, go_sem, y0, y1, y2, y3, y4, z0, z1, z2, z3, z4]) rfl ⟨false, _, rfl, hbz, rfl, (fun h => by cases h), fun _ => rfl⟩
    · obtain rfl : i = n := by omega
      have hk22 := hk2' (by omega)
      clear hk2' cz
      go_wp2_with fail
      refine (l10Pairs_any g v (some ad) i c bs W X hr hv hn).mono ?_
      rintro e w2 ⟨P, pn, pc, rfl, hop, hb2⟩
      have hw2 := hw.trans (hb2.mono hw.size)
      have X := X.after hb2
      have R := R.after hb2
      have hr := hr.keep hb2
      have hop := hop.more hw.size
      have hpl := hop.len
      have hpos := prP_pos (bs := bs) (v := v) (by omega)
      have hple := prP_len_le (v := v) (bs := bs) v (Nat.le_refl _)
      have hvv : v * v ≤ 32 * 32 := Nat.mul_le_mul hv hv
      obtain ⟨gp, rfl, cp, -, ip⟩ := hop.cell (k := 0) (by omega)
      have HP0 : ∃ lam, lam = nth (prP v bs v) 0 := ⟨_, rfl⟩
      obtain ⟨lam, hlam⟩ := HP0
      have HLam := Lib.hid hlam
      rw [← hlam] at cp ip
      have hpn : 0 < pn := by omega
      have hpn2 : pn ≤ 1024 := by omega
      have HPL := Lib.hid hpl
      clear hlam hpl hple hvv hpos hb2 x0 x1
      go_wp2
      go_loopw [7] (fun jv wr => ∃ j : Nat, j ≤ pn ∧ jv = .int .i64 j ∧ Hid (∀ q, q < j → nth (prP v bs v) q = lam) ∧ Below w2.heap.size w2 wr) (fun jv _ => pn - (intOf jv).toNat)
      case atStart => exact ⟨0, Nat.zero_le _, rfl, Lib.hid fun j hj => absurd hj (by omega), Below.refl _ _⟩
      case round =>
        obtain ⟨j, hj, rfl, HQ, hb3⟩ := hrel
        have hw3 := hw2.trans (hb3.mono hw2.size)
        have X := X.after hb3
        have R := R.after hb3
        have hop := hop.below hb3
        have hr := hr.keep hb3
        by_cases hlj : j < pn
        · obtain ⟨gp', hgp, cj, -, ij⟩ := hop.cell hlj
          cases hgp
          have cp3 := below_cell hb3 cp
          obtain ⟨u, hu⟩ : ∃ u, u = nth (prP v bs v) j := ⟨_, rfl⟩
          have HU := Lib.hid hu
          rw [← hu] at cj ij
          clear hu
          by_cases hul : u = lam
          · subst hul
            have HQ2 : Hid (∀ q, q < j + 1 → nth (prP v bs v) q = u) := Lib.hid fun q hq => by
              rcases Nat.lt_succ_iff_lt_or_eq.1 hq with h | rfl
              · exact HQ.out q h
              · exact HU.out.symm
            clear HQ hop R X hr
            go_wp2
            go_quiet (fail)
            have hb4 := hb3.trans ((below_drewn wr nq).mono hb3.size)
            go_wp2
            go_roundw
            case rel => exact ⟨j + 1, by omega, by go_num, HQ2, hb4⟩
            case measure => simp [intOf]; omega
          · have hul' : ¬ (u = lam) := hul
            have HR := Lib.hid (fun q => R.after (below_drewn wr q))
            have HW := Lib.hid (fun q => hw3.trans ((below_drewn wr q).mono hw3.size))
            clear HQ hop R X hr
            go_wp2
            go_quiet (fail)
            have R := HR.out nq
            have hw4 := HW.out nq
            clear HR HW cj cp3
            generalize wr.drewN nq = W5 at *
            obtain ⟨y0, y1, y2, y3, y4⟩ := R.cells5
            have f0 := R.frozen 0
            have f1 := R.frozen 1
            have f2 := R.frozen 2
            have f3 := R.frozen 3
            have f4 := R.frozen 4
            obtain ⟨z0, z1, z2, z3, z4⟩ := (put5 (a := .int .i64 0) (b := .int .i64 0) (c := .int .i64 0) (d := .int .i64 0) (e := .int .i64 0) R).cells5
            have hbz := below5 (a := .int .i64 0) (b := .int .i64 0) (c := .int .i64 0) (d := .int .i64 0) (e := .int .i64 0) hw4 (Nat.le_refl w.heap.size)
            clear R
            go_wp2
            exact bodyPost_ret (v := .tuple #[.agg #[.int .i64 0, .int .i64 0, .int .i64 0, .int .i64 0, .int .i64 0], .bool false]) (by simp [results, Try.results22, go_sem, y0, y1, y2, y3, y4, z0, z1, z2, z3, z4]) rfl ⟨false, _, rfl, hbz, rfl, (fun h => by cases h), fun _ => rfl⟩
        · obtain rfl : j = pn := by omega
          have HB : Hid (Bal v bs k lam) := Lib.hid ⟨HD.out, by omega, by rw [hla.out]; omega, fun q hq => HL.out q (by rw [← hla.out]; exact hq), hk22, fun q hq => HQ.out q (by rw [← HPL.out]; exact hq)⟩
          have HC := Lib.hid (fun (w' : World) (hb : Below wr.heap.size wr w') => l10Replications_any g v (some ad) i c bs w' (X.after hb) (hr.keep hb) HD.out)
          have HR := Lib.hid (fun (w' : World) (hb : Below wr.heap.size wr w') => R.after hb)
          have cp3 := below_cell hb3 cp
          have HP3 := Lib.hid cp3
          obtain ⟨x0, x1⟩ := X.cells2
          have HX := Lib.hid (And.intro x0 x1)
          have hcb : bs.flatten.count 0 ≤ 4096 := by
            have h1 := List.count_le_length (a := (0 : Int)) (l := bs.flatten)
            have h2 := flat_len (fun i hi => (des_row HD.out hi).1) bs.length (Nat.le_refl _)
            rw [List.take_length] at h2
            have h3 : bs.length * v ≤ 128 * 32 := Nat.mul_le_mul (by rw [hla.out]; exact hn) hv
            omega
          clear HQ HL hop R X hr
          go_wp2
          have hdr : Below wr.heap.size wr wr.drew := by have := below_drewn wr 1; rwa [← World.drew_is_drewN] at this
          refine region_suf (P := Try.prog) (n := 18) (S := fun w' => w'.cell? ⟨g, 0, none⟩ = some (.int .i64 (v : Int)) ∧ w'.cell? ⟨g, 1, none⟩ = some (.slice (some ad) i c) ∧ w'.cell? ⟨gp, 0, none⟩ = some (.int .i64 lam)) (by kernel_rfl) (by simp only [List.take_succ_cons, List.take_zero]; rfl) (by simp only [List.drop_succ_cons, List.drop_zero]; rfl) (by kernel_rfl) (by simpa using ⟨x0, x1, cp3⟩) ?_
          intro hS
          refine wpAnyH_take (i := 0) (v := ?_) rfl (by kernel_rfl) (by kernel_rfl) (by kernel_rfl) (fun _ _ _ h => h) (Or.inl ⟨by rfl, ?_⟩) (by assumption) ?_
          rotate_left
          · (intro w hSw; (try dsimp only at hSw); go_simp; (try with_reducible rfl))
          simp only [Act.put, List.setIfInBounds_toArray, List.set_cons_zero, List.set_cons_succ]
          refine wpAnyH_take (i := 1) (v := ?_) rfl (by kernel_rfl) (by kernel_rfl) (by kernel_rfl) (fun _ _ _ h => h) (Or.inl ⟨by rfl, ?_⟩) (by assumption) ?_
          rotate_left
          · (intro w hSw; (try dsimp only at hSw); go_simp; (try with_reducible rfl))
          simp only [Act.put, List.setIfInBounds_toArray, List.set_cons_zero, List.set_cons_succ]
          refine wpAnyH_take (i := 2) (v := ?_) rfl (by kernel_rfl) (by kernel_rfl) (by kernel_rfl) (fun _ _ _ h => h) (Or.inl ⟨by rfl, ?_⟩) (by assumption) ?_
          rotate_left
          · (intro w hSw; (try dsimp only at hSw); go_simp; (try with_reducible rfl))
          simp only [Act.put, List.setIfInBounds_toArray, List.set_cons_zero, List.set_cons_succ]
          refine wpAnyH_take (i := 3) (v := ?_) rfl (by kernel_rfl) (by kernel_rfl) (by kernel_rfl) (fun _ _ _ h => h) (Or.inl ⟨by rfl, ?_⟩) (by assumption) ?_
          rotate_left
          · (intro w hSw; (try dsimp only at hSw); go_simp; (try with_reducible rfl))
          simp only [Act.put, List.setIfInBounds_toArray, List.set_cons_zero, List.set_cons_succ]
          refine wpAnyH_take (i := 4) (v := ?_) rfl (by kernel_rfl) (by kernel_rfl) (by kernel_rfl) (fun _ _ _ h => h) (Or.inl ⟨by rfl, ?_⟩) (by assumption) ?_
          rotate_left
          · (intro w hSw; (try dsimp only at hSw); go_simp; (try with_reducible rfl))
          simp only [Act.put, List.setIfInBounds_toArray, List.set_cons_zero, List.set_cons_succ]
          refine wpAnyH_take (i := 5) (v := ?_) rfl (by kernel_rfl) (by kernel_rfl) (by kernel_rfl) (fun _ _ _ h => h) (Or.inl ⟨by rfl, ?_⟩) (by assumption) ?_
          rotate_left
          · (intro w hSw; (try dsimp only at hSw); go_simp; (try with_reducible rfl))
          simp only [Act.put, List.setIfInBounds_toArray, List.set_cons_zero, List.set_cons_succ]
          refine wpAnyH_take (i := 6) (v := ?_) rfl (by kernel_rfl) (by kernel_rfl) (by kernel_rfl) (fun _ _ _ h => h) (Or.inl ⟨by rfl, ?_⟩) (by assumption) ?_
          rotate_left
          · (intro w hSw; (try dsimp only at hSw); go_simp; (try with_reducible rfl))
          simp only [Act.put, List.setIfInBounds_toArray, List.set_cons_zero, List.set_cons_succ]
          refine wpAnyH_take (i := 7) (v := ?_) rfl (by kernel_rfl) (by kernel_rfl) (by kernel_rfl) (fun _ _ _ h => h) (Or.inl ⟨by rfl, ?_⟩) (by assumption) ?_
          rotate_left
          · (intro w hSw; (try dsimp only at hSw); go_simp; (try with_reducible rfl))
          simp only [Act.put, List.setIfInBounds_toArray, List.set_cons_zero, List.set_cons_succ]
          refine wpAnyH_take (i := 8) (v := ?_) rfl (by kernel_rfl) (by kernel_rfl) (by kernel_rfl) (fun _ _ _ h => h) (Or.inl ⟨by rfl, ?_⟩) (by assumption) ?_
          rotate_left
          · (intro w hSw; (try dsimp only at hSw); go_simp; (try with_reducible rfl))
          simp only [Act.put, List.setIfInBounds_toArray, List.set_cons_zero, List.set_cons_succ]
          refine wpAnyH_take (i := 9) (v := ?_) rfl (by kernel_rfl) (by kernel_rfl) (by kernel_rfl) (fun _ _ _ h => h) (Or.inl ⟨by rfl, ?_⟩) (by assumption) ?_
          rotate_left
          · (intro w hSw; (try dsimp only at hSw); go_simp; (try with_reducible rfl))
          simp only [Act.put, List.setIfInBounds_toArray, List.set_cons_zero, List.set_cons_succ]
          refine wpAnyH_take (i := 13) (v := ?_) rfl (by kernel_rfl) (by kernel_rfl) (by kernel_rfl) (fun _ _ _ h => h) (Or.inl ⟨by rfl, ?_⟩) (by assumption) ?_
          rotate_left
          · (intro w hSw; (try dsimp only at hSw); go_simp; (try with_reducible rfl))
          simp only [Act.put, List.setIfInBounds_toArray, List.set_cons_zero, List.set_cons_succ]
          refine wpAnyH_take (i := 14) (v := ?_) rfl (by kernel_rfl) (by kernel_rfl) (by kernel_rfl) (fun _ _ _ h => h) (Or.inl ⟨by rfl, ?_⟩) (by assumption) ?_
          rotate_left
          · (intro w hSw; (try dsimp only at hSw); go_simp; (try with_reducible rfl))
          simp only [Act.put, List.setIfInBounds_toArray, List.set_cons_zero, List.set_cons_succ]
          refine wpAnyH_take (i := 15) (v := ?_) rfl (by kernel_rfl) (by kernel_rfl) (by kernel_rfl) (fun _ _ _ h => h) (Or.inl ⟨by rfl, ?_⟩) (by assumption) ?_
          rotate_left
          · (intro w hSw; (try dsimp only at hSw); go_simp; (try with_reducible rfl))
          simp only [Act.put, List.setIfInBounds_toArray, List.set_cons_zero, List.set_cons_succ]
          refine wpAnyH_take (i := 16) (v := ?_) rfl (by kernel_rfl) (by kernel_rfl) (by kernel_rfl) (fun _ _ _ h => h) (Or.inl ⟨by rfl, ?_⟩) (by assumption) ?_
          rotate_left
          · (intro w hSw; (try dsimp only at hSw); go_simp; (try with_reducible rfl))
          simp only [Act.put, List.setIfInBounds_toArray, List.set_cons_zero, List.set_cons_succ]
          refine wpAnyH_ready (rs := [10]) (by kernel_rfl) (by simp) ?_
          refine AllReadyH.cons rfl (fun K hK => ?_) AllReadyH.nil
          go_simp
          refine (HC.out _ hdr).mono ?_
          rintro e w5 ⟨Q, qn, qc, rfl, hoq, hb5⟩
          dsimp only
          have hX5 := hdr.trans (hb5.mono hdr.size)
          have hql := hoq.len
          have hqv : qn = v := by rw [← hql]; simp [repP]
          have R := HR.out _ hX5
          have hw5 := hw3.trans (hX5.mono hw3.size)
          obtain ⟨gq, hgq, cq, -, iq⟩ := hoq.cell (k := 0) (by omega)
          have hrep : nth (repP v bs) 0 = ((bs.flatten.count 0 : Nat) : Int) := by rw [nth_get (by simp [repP]; omega)]; simp [repP]
          rw [hrep] at cq
          refine hK.out _ _ ⟨below_cell hX5 HX.out.1, below_cell hX5 HX.out.2, below_cell hX5 HP3.out⟩ (fun hS1 => ?_)
          clear hK K hS
          subst hgq
          clear hql hrep iq hoq
          obtain ⟨r0, hr0⟩ : ∃ r0, r0 = bs.flatten.count 0 := ⟨_, rfl⟩
          rw [← hr0] at cq hcb
          have HR0 := Lib.hid hr0
          clear hr0
          have hqv' : 0 < qn := by omega
          have hv0 : 0 < v := by omega
          refine wpAnyH_take (i := 11) (v := ?_) rfl (by kernel_rfl) (by kernel_rfl) (by kernel_rfl) (fun _ _ _ h => h) (Or.inl ⟨by rfl, ?_⟩) (by assumption) ?_
          rotate_left
          · (intro w hSw; (try dsimp only at hSw); go_simp; (try with_reducible rfl))
          simp only [Act.put, List.setIfInBounds_toArray, List.set_cons_zero, List.set_cons_succ]
          refine wpAnyH_ready (rs := [12]) (by kernel_rfl) (by simp) ?_
          refine AllReadyH.cons rfl (fun K hK => ?_) AllReadyH.nil
          go_simp
          refine hK.out _ _ hS1 (fun hS2 => ?_)
          clear hK K
          refine wpAnyH_take (i := 17) (v := ?_) rfl (by kernel_rfl) (by kernel_rfl) (by kernel_rfl) (fun _ _ _ h => h) (Or.inl ⟨by rfl, ?_⟩) (by assumption) ?_
          rotate_left
          · (intro w hSw; (try dsimp only at hSw); go_simp; (try with_reducible rfl))
          simp only [Act.put, List.setIfInBounds_toArray, List.set_cons_zero, List.set_cons_succ]
          refine wpAnyH_done (by kernel_rfl) ?_ _
          dsimp only [atEnd]
          clear hS1 hS2
          obtain ⟨y0, y1, y2, y3, y4⟩ := R.cells5
          have f0 := R.frozen 0
          have f1 := R.frozen 1
          have f2 := R.frozen 2
          have f3 := R.frozen 3
          have f4 := R.frozen 4
          obtain ⟨z0, z1, z2, z3, z4⟩ := (put5 (a := .int .i64 (v : Int)) (b := .int .i64 (i : Int)) (c := .int .i64 (r0 : Int)) (d := .int .i64 (k : Int)) (e := .int .i64 lam) R).cells5
          have hbz := below5 (a := .int .i64 (v : Int)) (b := .int .i64 (i : Int)) (c := .int .i64 (r0 : Int)) (d := .int .i64 (k : Int)) (e := .int .i64 lam) hw5 (Nat.le_refl w.heap.size)
          clear R cq HX HP3 cp3 x0 x1
          go_wp2
          exact bodyPost_ret (v := .tuple #[.agg #[.int .i64 (v : Int), .int .i64 (i : Int), .int .i64 (r0 : Int), .int .i64 (k : Int), .int .i64 lam], .bool true]) (by simp [results, Try.results22, go_sem, z0, z1, z2, z3, z4]) rfl ⟨true, _, rfl, hbz, rfl, (fun _ => ⟨k, lam, HB.out, by rw [hla.out, ← HR0.out]; rfl⟩), (fun h => by cases h)⟩
end Go.Proofs.Ytgnilbbblpkcoaa
