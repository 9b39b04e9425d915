/- Transversals, the program's search: its state in memory. No condition beyond those stated. -/
import Derived.Test.YtnmcmologlgccaaGreatSZAG
set_option linter.unusedVariables false
set_option linter.unusedSimpArgs false
namespace Go.Proofs.YtnmcmologlgccaaGreat
open Go.RowKit
section
variable {w0 w w' : World} {M n : Nat} {SA : Option Addr} {sc : Nat} {a : List (List Int)} {lim : Nat} {C C' : Option Addr} {m mc m' mc' : Nat} {FA FA' : Option Addr} {fn fk fk' : Nat} {left : Int} {spent : Bool} {dn dn' : Nat → Bool} {cols cols' : List Int} {vs : List Sl} {found : List (List Int)}
end
def memB (l : List Int) (x : Int) : Bool := l.any fun y => y == x
theorem memB_true {l : List Int} {x : Int} : memB l x = true ↔ x ∈ l := by simp [memB]
theorem memB_false {l : List Int} {x : Int} : memB l x = false ↔ x ∉ l := by rw [← memB_true, Bool.not_eq_true]
set_option maxHeartbeats 400000 in
theorem indexI_any (A : Option Addr) (n c : Nat) (zs : List Int) (x : Int) (w : World) (ha : RI w A n zs) (hn : n ≤ 9223372036854775807) :
    Calls Tryz.prog 190 #[.slice A n c, .int .i64 x] w fun e w' => ∃ r : Int, e = .returned (.int .i64 r) ∧ -1 ≤ r ∧ r ≤ 9223372036854775807 ∧ (0 ≤ r ↔ x ∈ zs) ∧ w = w' := by
  have hla := Lib.hid ha.len
  go_enter Tryz.func190, Tryz.ntmps190
  go_wp2
  go_loopw [5, 8] (fun _ i wr => ∃ k : Nat, k ≤ n ∧ i = .int .i64 k ∧ w = wr ∧ ∀ j, j < k → nth zs j ≠ x) (fun _ i _ => n - (intOf i).toNat)
  case atStart => exact ⟨0, Nat.zero_le _, rfl, by trivial, fun x h => absurd h (by omega)⟩
  case round =>
    obtain ⟨k, hk, rfl, rfl, hno⟩ := hrel
    by_cases hlt : k < n
    · obtain ⟨a, rfl, hca, hia⟩ := ha.get hlt
      by_cases hq : nth zs k = x
      · rw [hq] at hca
        have H := Lib.hid (show x ∈ zs by rw [← hq, nth_get (by rw [hla.out]; exact hlt)]; exact List.getElem_mem _)
        clear hno hq hia
        go_wp2
        go_ret
        exact ⟨k, rfl, by omega, by omega, ⟨fun _ => H.out, fun _ => by omega⟩, rfl⟩
      · have hqb : (x == nth zs k) = false := by simp; exact fun e => hq e.symm
        have H := Lib.hid (show ∀ j, j < k + 1 → nth zs j ≠ x from fun j hx => by
          rcases Nat.lt_succ_iff_lt_or_eq.1 hx with h | h
          · exact hno j h
          · rw [h]; exact hq)
        clear hno hq
        generalize nth zs k = q at *
        go_wp2
        go_roundw
        case rel => exact ⟨k + 1, by omega, by go_num, by trivial, H.out⟩
        case measure => simp [intOf]; omega
    · obtain rfl : k = n := by omega
      have H := Lib.hid hno
      clear hno
      go_wp2
      go_ret
      refine ⟨-1, rfl, by omega, by omega, ⟨fun h => by omega, fun h => ?_⟩, rfl⟩
      obtain ⟨j, hj, rfl⟩ := List.mem_iff_getElem.1 h
      exact absurd (nth_get hj) (H.out j (by rw [← hla.out]; exact hj))
theorem containsI_any (A : Option Addr) (n c : Nat) (zs : List Int) (x : Int) (w : World) (ha : RI w A n zs) (hn : n ≤ 9223372036854775807) :
    Calls Tryz.prog 155 #[.slice A n c, .int .i64 x] w fun e w' => e = .returned (.bool (memB zs x)) ∧ w = w' := by
  go_enter Tryz.func155, Tryz.ntmps155
  go_wp2_with fail
  refine (indexI_any A n c zs x _ ha hn).mono ?_
  rintro e w1 ⟨r, rfl, h1, h2, h3, rfl⟩
  have H := Lib.hid h3
  clear h3
  go_wp2
  go_ret
  refine ⟨?_, rfl⟩
  by_cases h : 0 ≤ r
  · rw [memB_true.2 (H.out.1 h)]; simp [h]
  · rw [memB_false.2 (fun hh => h (H.out.2 hh))]; simp [h]
end Go.Proofs.YtnmcmologlgccaaGreat
namespace Go.Proofs.YtnmcmologlgccaaGreat
/-! permutations as lists -/
def iotaP (n : Nat) : List Int := (List.range n).map fun (k : Nat) => (k : Int)
theorem iotaP_len (n : Nat) : (iotaP n).length = n := by simp [iotaP]
theorem iotaP_nth {n k : Nat} (h : k < n) : nth (iotaP n) k = k := by rw [nth_get (by rw [iotaP_len]; exact h)]; simp [iotaP]
theorem nth_ext {l m : List Int} (hl : l.length = m.length) (h : ∀ k, k < l.length → nth l k = nth m k) : l = m := by
  apply List.ext_getElem hl
  intro k h1 h2
  have := h k h1
  rwa [nth_get h1, nth_get h2] at this
end Go.Proofs.YtnmcmologlgccaaGreat
namespace Go.Proofs.YtnmcmologlgccaaGreat
open Go.RowKit
theorem iota_step {n k : Nat} (h : k < n) : (copied (iotaP n) (List.replicate n 0) k).set k (k : Int) = copied (iotaP n) (List.replicate n 0) (k + 1) := by
  have := copied_step (xs := iotaP n) (zs := List.replicate n 0) (j := k) (by rw [iotaP_len]; exact h) (by simpa using h)
  rwa [iotaP_nth h] at this
set_option maxHeartbeats 1000000 in
theorem identity_any (n : Nat) (w : World) (hn : n ≤ 1048576) :
    Calls Tryz.prog 97 #[.int .i64 n] w (RetI w 2 (iotaP n)) := by
  have hmk := run_make_row' (P := Tryz.prog) 36 2 (.int .i64 0) 8 Tryz.underlying36 int_info rfl .i64 .i64 n (by omega) (by omega)
  have ho0 := OI.made w w.heap.size 2 n (Nat.le_refl _) (by omega)
  rw [← copied_zero (iotaP n) (List.replicate n 0)] at ho0
  have hb0 := below_alloc w (.cells (madeCells #[.int .i64 0] n) 2)
  go_enter Tryz.func97, Tryz.ntmps97
  go_wp2
  go_loopw [4, 9] (fun _ i wr => ∃ k : Nat, k ≤ n ∧ i = .int .i64 k ∧ OI wr w.heap.size 2 (some ⟨w.heap.size, 0, none⟩) n n (copied (iotaP n) (List.replicate n 0) k) ∧ Below w.heap.size w wr) (fun _ i _ => n - (intOf i).toNat)
  case atStart => exact ⟨0, Nat.zero_le _, rfl, ho0, hb0⟩
  case round =>
    clear ho0 hb0 hmk
    obtain ⟨k, hk, rfl, ho, hw⟩ := hrel
    by_cases hlt : k < n
    · obtain ⟨g, hg, cc, cf, -⟩ := ho.cell hlt
      cases hg
      have ho2 := ho.set k (u := (k : Int)) (by unfold I64; omega)
      rw [iota_step hlt] at ho2
      have hw2 := Below.setCell hw (p := ⟨w.heap.size, k, none⟩) (Nat.le_refl _) (.int .i64 (k : Int))
      clear ho hw
      go_wp2
      go_roundw
      case rel => exact ⟨k + 1, by omega, by go_num, ho2, hw2⟩
      case measure => simp [intOf]; omega
    · obtain rfl : k = n := by omega
      have hall := copied_all (xs := iotaP k) (zs := List.replicate k 0) (by rw [iotaP_len]; simp)
      rw [iotaP_len] at hall
      rw [hall] at ho
      go_wp2
      go_ret
      exact ⟨_, _, _, rfl, ho, hw⟩
def minB (a b : List Int) (x : Nat) : Bool := memB a x && !memB b x
def minK (a b : List Int) (k : Nat) : List Int := ((List.range k).filter (minB a b)).map fun (x : Nat) => (x : Int)
theorem minK_yes {a b : List Int} {k : Nat} (h : minB a b k = true) : minK a b (k + 1) = minK a b k ++ [(k : Int)] := by simp [minK, List.range_succ, h]
theorem minK_no {a b : List Int} {k : Nat} (h : minB a b k = false) : minK a b (k + 1) = minK a b k := by simp [minK, List.range_succ, h]
theorem minK_len (a b : List Int) (k : Nat) : (minK a b k).length ≤ k := by
  unfold minK
  rw [List.length_map]
  exact Nat.le_trans (List.length_filter_le _ _) (by simp)
set_option maxHeartbeats 1000000 in
theorem minus1_any (x y : Bool) (w : World) : Calls Tryz.prog 96 #[.bool x, .bool y] w (fun e w' => e = .returned (.bool (x && !y)) ∧ w = w') := by
  cases x <;> cases y
  all_goals
    go_enter Tryz.func96, Tryz.ntmps96
    go_wp2
    go_ret
    exact ⟨rfl, rfl⟩
set_option maxRecDepth 100000 in
set_option maxHeartbeats 4000000 in
theorem filteredM_any (A1 A2 : Option Addr) (n1 c1 n2 c2 : Nat) (a b : List Int) (w : World) (ha : RI w A1 n1 a) (hb : RI w A2 n2 b) (hn1 : n1 ≤ 1000) (hn2 : n2 ≤ 1000) (va : Rises a 0 (32 - 1)) (vb : Rises b 0 (32 - 1)) :
    Calls Tryz.prog 95 #[.slice A1 n1 c1, .slice A2 n2 c2, .func (.func 96) #[] #[]] w (RetI w 2 (minK a b 32)) := by
  have hva := validSet_any A1 n1 c1 a 32 w ha (by omega) (by omega) (by omega)
  have hvb := validSet_any A2 n2 c2 b 32 w hb (by omega) (by omega) (by omega)
  rw [tB_yes va] at hva
  rw [tB_yes vb] at hvb
  clear va vb
  have HA := Lib.hid (fun (x : Int) (W : World) (h : Below w.heap.size w W) => containsI_any A1 n1 c1 a x W (ha.keep h) (by omega))
  have HB := Lib.hid (fun (x : Int) (W : World) (h : Below w.heap.size w W) => containsI_any A2 n2 c2 b x W (hb.keep h) (by omega))
  have HM := Lib.hid minus1_any
  clear ha hb
  go_enter Tryz.func95, Tryz.ntmps95
  go_wp2_with fail
  refine hva.mono ?_
  rintro e w' ⟨rfl, rfl⟩
  go_wp2_with fail
  refine hvb.mono ?_
  rintro e w' ⟨rfl, rfl⟩
  go_wp2
  clear hva hvb
  go_loopw [7, 8] (fun lv xv wr => ∃ (x : Nat) (R : Option Addr) (rn rc : Nat), x ≤ 32 ∧ xv = .int .i64 x ∧ lv = .slice R rn rc ∧ OI wr w.heap.size 2 R rn rc (minK a b x) ∧ Below w.heap.size w wr) (fun _ xv _ => 32 - (intOf xv).toNat)
  case atStart => exact ⟨0, none, 0, 0, by omega, rfl, rfl, OI.nil_ _ _ _, Below.refl _ _⟩
  case round =>
    obtain ⟨x, R, rn, rc, hx, rfl, rfl, ho, hb⟩ := hrel
    have hbs := hb.size
    have hrn := ho.len
    have hml := minK_len a b x
    by_cases hlx : x < 32
    · have hA := HA.out (x : Int) wr hb
      have hB := HB.out (x : Int) wr hb
      cases hm : minB a b x with
      | true =>
        have HST := Lib.hid (minK_yes hm)
        have hmb : (memB a x && !memB b x) = true := hm
        go_wp2_with fail
        refine hA.mono ?_
        rintro e w' ⟨rfl, rfl⟩
        go_wp2_with fail
        refine hB.mono ?_
        rintro e w' ⟨rfl, rfl⟩
        go_wp2_with fail
        refine (HM.out _ _ _).mono ?_
        rintro e w' ⟨rfl, rfl⟩
        rw [hmb]
        go_wp2_with ((at_builtin; refine app_int _ rfl (.tmp 29) (.tmp 31) rfl w.heap.size R rn rc _ rfl ho (x : Int) wr.heap.size rfl rfl ⟨by omega, by omega⟩ (by omega) (by omega) ?_; intro A5 c5 w5 ho5 hg5 hf5; have hb5 := below_own hb hg5 (by omega) (fun b hb => (ho.os.lt hb).1); rw [← HST.out] at ho5))
        exact ⟨⟨x + 1, A5, rn + 1, c5, by omega, by go_num, rfl, ho5, hb5⟩, by simp only [intOf]; omega⟩
      | false =>
        have HST := Lib.hid (minK_no hm)
        have hmb : (memB a x && !memB b x) = false := hm
        go_wp2_with fail
        refine hA.mono ?_
        rintro e w' ⟨rfl, rfl⟩
        go_wp2_with fail
        refine hB.mono ?_
        rintro e w' ⟨rfl, rfl⟩
        go_wp2_with fail
        refine (HM.out _ _ _).mono ?_
        rintro e w' ⟨rfl, rfl⟩
        rw [hmb]
        go_wp2
        exact ⟨⟨x + 1, R, rn, rc, by omega, by go_num, rfl, by rw [HST.out]; exact ho, hb⟩, by simp only [intOf]; omega⟩
    · obtain rfl : x = 32 := by omega
      go_wp2
      go_ret
      exact ⟨R, rn, rc, rfl, ho, hb⟩
theorem minusSets_any (A1 A2 : Option Addr) (n1 c1 n2 c2 : Nat) (a b : List Int) (w : World) (ha : RI w A1 n1 a) (hb : RI w A2 n2 b) (hn1 : n1 ≤ 1000) (hn2 : n2 ≤ 1000) (va : Rises a 0 (32 - 1)) (vb : Rises b 0 (32 - 1)) :
    Calls Tryz.prog 58 #[.slice A1 n1 c1, .slice A2 n2 c2] w (RetI w 2 (minK a b 32)) := by
  have hf := filteredM_any A1 A2 n1 c1 n2 c2 a b w ha hb hn1 hn2 va vb
  clear ha hb va vb
  go_enter Tryz.func58, Tryz.ntmps58
  go_wp2_with fail
  refine hf.mono ?_
  rintro e w1 ⟨R, rn, rc, rfl, ho, hb⟩
  go_wp2
  go_ret
  exact ⟨R, rn, rc, rfl, ho, hb⟩
theorem allPoints_any (n : Nat) (w : World) (hn : n ≤ 1048576) : Calls Tryz.prog 59 #[.int .i64 n] w (RetI w 2 (iotaP n)) := by
  have hf := identity_any n w hn
  go_enter Tryz.func59, Tryz.ntmps59
  go_wp2_with fail
  refine hf.mono ?_
  rintro e w1 ⟨R, rn, rc, rfl, ho, hb⟩
  go_wp2
  go_ret
  exact ⟨R, rn, rc, rfl, ho, hb⟩
def cmlB (v : Nat) (bs : List (List Int)) : List (List Int) := bs.map fun b => minK (iotaP v) b 32
theorem cmlB_len (v : Nat) (bs : List (List Int)) : (cmlB v bs).length = bs.length := by simp [cmlB]
theorem cmlB_take {v : Nat} {bs : List (List Int)} {j : Nat} (h : j < bs.length) : cmlB v (bs.take (j + 1)) = cmlB v (bs.take j) ++ [minK (iotaP v) (row bs j) 32] := by
  unfold cmlB
  rw [List.take_add_one, List.getElem?_eq_getElem h, List.map_append, row_get h]
  rfl
theorem cmlB_cells (v : Nat) (bs : List (List Int)) (h : bs.length ≤ 128) : cells (cmlB v bs) ≤ 1099511627776 := by
  have := cells_le3 (bs := cmlB v bs) (fun b hb => by
    obtain ⟨c, _, rfl⟩ := List.mem_map.1 hb
    exact minK_len _ _ _)
  rw [cmlB_len] at this
  omega
theorem iotaP_rises {v : Nat} (hv : v ≤ 32) : Rises (iotaP v) 0 (32 - 1) := by
  refine ⟨fun k hk => ?_, fun k hk => ?_⟩
  · rw [iotaP_len] at hk
    rw [iotaP_nth hk]
    omega
  · rw [iotaP_len] at hk
    rw [iotaP_nth hk, iotaP_nth (by omega)]
    omega
theorem Rises.wide {z : List Int} {lo hi hi' : Int} (h : Rises z lo hi) (hh : hi ≤ hi') : Rises z lo hi' := ⟨fun k hk => by have := h.bd k hk; omega, h.up⟩
theorem rises_len {z : List Int} (h : Rises z 0 (32 - 1)) : z.length ≤ 32 := by
  have key : ∀ k, k < z.length → (k : Int) ≤ nth z k := by
    intro k
    induction k with
    | zero => intro hk; exact (h.bd 0 hk).1
    | succ k ih =>
      intro hk
      have h1 := ih (by omega)
      have h2 := h.up k hk
      push_cast
      omega
  cases hz : z.length with
  | zero => omega
  | succ m =>
    have h1 := key m (by omega)
    have h2 := (h.bd m (by omega)).2
    omega
theorem fin_store2 {w w5 : World} {B : Nat} {x y : Value} {v : Int} {A : Option Addr} {n c : Nat} {bs : List (List Int)} (Y : Blk w5 (w.heap.size + 1) 28 #[x, y]) (hb : Below w.heap.size w w5) (ho : OR w5 B 36 2 A n c bs) (hB : w.heap.size + 1 + 1 ≤ B) :
    OR ((w5.setCell ⟨w.heap.size + 1, 0, none⟩ (.int .i64 v)).setCell ⟨w.heap.size + 1, 1, none⟩ (.slice A n c)) w.heap.size 36 2 A n c bs ∧ Below w.heap.size w ((w5.setCell ⟨w.heap.size + 1, 0, none⟩ (.int .i64 v)).setCell ⟨w.heap.size + 1, 1, none⟩ (.slice A n c)) ∧
    ((w5.setCell ⟨w.heap.size + 1, 0, none⟩ (.int .i64 v)).setCell ⟨w.heap.size + 1, 1, none⟩ (.slice A n c)).cell? ⟨w.heap.size + 1, 0, none⟩ = some (.int .i64 v) ∧ ((w5.setCell ⟨w.heap.size + 1, 0, none⟩ (.int .i64 v)).setCell ⟨w.heap.size + 1, 1, none⟩ (.slice A n c)).cell? ⟨w.heap.size + 1, 1, none⟩ = some (.slice A n c) := by
  have YF := (Y.set_ 0 (.int .i64 v)).set_ 1 (.slice A n c)
  refine ⟨OR.more ((ho.setLow (p := ⟨w.heap.size + 1, 0, none⟩) (by show w.heap.size + 1 < B; omega) _).setLow (p := ⟨w.heap.size + 1, 1, none⟩) (by show w.heap.size + 1 < B; omega) _) (by omega), (hb.setCell (p := ⟨w.heap.size + 1, 0, none⟩) (by simp) _).setCell (p := ⟨w.heap.size + 1, 1, none⟩) (by simp) _, YF.cell 0, YF.cell 1⟩
set_option maxRecDepth 100000 in
set_option maxHeartbeats 4000000 in
theorem complementDesign_any (v : Nat) (A : Option Addr) (n c : Nat) (bs : List (List Int)) (w : World) (ha : RR w A n bs) (hD : Design v bs) (hs : ∀ j, j < n → (row bs j).length ≠ v) :
    Calls Tryz.prog 40 #[.agg #[.int .i64 v, .slice A n c]] w (RetD w v (srtR (cmlB v bs)) 0) := by
  have hb0 := (below_alloc w (.cells #[.int .i64 v, .slice A n c] 28)).alloc (by simp) (.cells #[.int .i64 0, .slice none 0 0] 28)
  have X := (Blk.new w 28 #[.int .i64 v, .slice A n c]).alloc (.cells #[.int .i64 0, .slice none 0 0] 28)
  have Y := Blk.new (w.alloc (.cells #[.int .i64 v, .slice A n c] 28)) 28 #[.int .i64 0, .slice none 0 0]
  rw [show (w.alloc (.cells #[.int .i64 v, .slice A n c] 28)).heap.size = w.heap.size + 1 by simp] at Y
  have hz0 : ((w.alloc (.cells #[.int .i64 v, .slice A n c] 28)).alloc (.cells #[.int .i64 0, .slice none 0 0] 28)).heap.size = w.heap.size + 1 + 1 := by simp
  have hv1 := hD.v1
  have hv2 := hD.v2
  have hnl := ha.len
  have hn128 := hD.len
  have hvd := validDesign_any v A n c bs ((w.alloc (.cells #[.int .i64 v, .slice A n c] 28)).alloc (.cells #[.int .i64 0, .slice none 0 0] 28)) (ha.keep hb0) (by omega)
  rw [tB_yes hD] at hvd
  have HBK := Lib.hid (fun j (hj : j < n) => (hD.blk j (by omega)).2.wide (show (v : Int) - 1 ≤ 32 - 1 by omega))
  have HSZ := Lib.hid hs
  have hcc := cmlB_cells v bs hn128
  have hcl := cmlB_len v bs
  clear hD hs
  obtain ⟨x0, x1⟩ := X.cells2
  go_enter Tryz.func40, Tryz.ntmps40
  go_wp2_with fail
  clear x0 x1
  generalize (w.alloc (.cells #[.int .i64 v, .slice A n c] 28)).alloc (.cells #[.int .i64 0, .slice none 0 0] 28) = W0 at *
  refine hvd.mono ?_
  rintro e w1 ⟨rfl, hb1⟩
  have X1 := X.after hb1
  have Y1 := Y.after hb1
  have hw1 := hb0.trans (hb1.mono hb0.size)
  have hz1 : w.heap.size + 1 + 1 ≤ w1.heap.size := by have := hb1.size; omega
  clear hvd X Y hb0 hb1 hz0
  obtain ⟨x0, x1⟩ := X1.cells2
  go_wp2
  clear x0 x1
  obtain ⟨D, hD⟩ : ∃ D, D = w1.heap.size := ⟨_, rfl⟩
  rw [← hD] at hz1
  have HDD := Lib.hid hD
  go_loopw [4, 14] (fun lv jv wr => ∃ (j : Nat) (B : Option Addr) (bc : Nat), j ≤ n ∧ jv = .int .i64 j ∧ lv = .slice B j bc ∧ OR wr D 36 2 B j bc (cmlB v (bs.take j)) ∧ Below D w1 wr) (fun _ jv _ => n - (intOf jv).toNat)
  case atStart => exact ⟨0, none, 0, Nat.zero_le _, rfl, rfl, OR.nil_ _ _ (by decide), Below.refl _ _⟩
  case round =>
    obtain ⟨j, B, bc, hj, rfl, rfl, ho, hb⟩ := hrel
    have hwr := hw1.trans (hb.mono (by omega))
    obtain ⟨x0, x1⟩ := (X1.below hb (by omega)).cells2
    have hbs := hb.size
    by_cases hlt : j < n
    · have hr := ha.keep hwr
      obtain ⟨ad, S, sn, sc, rfl, cs, hm1, hm2, hri⟩ := hr.get hlt
      have hsl := hri.len
      have hne : sn ≠ v := by rw [← hsl]; exact HSZ.out j hlt
      have hBR := HBK.out j hlt
      have hsn : sn ≤ 32 := by
        have := rises_len hBR
        omega
      have HST := Lib.hid (cmlB_take (v := v) (bs := bs) (j := j) (by omega))
      obtain ⟨vs, hov⟩ := ho
      have hw2 := fun (z : List Int) (hz : z.length ≤ 32) => hz
      have hir := iotaP_rises (v := v) (by omega)
      have hvv : (sn : Int) ≠ v := by omega
      have hvb : ((sn : Int) == (v : Int)) = false := by simp; omega
      generalize row bs j = rj at *
      have hc1 : ∀ q, Calls Tryz.prog 48 #[.slice S sn sc] (wr.drewN q) (Quiet (wr.drewN q) (.int .i64 sn)) := fun q => (sizeI_any S sn sc _ (by omega)).mono fun _ _ h => Quiet.of_same h
      clear hne hvv hsl
      go_wp2
      go_quiet ((go_at_call 48; exact Quiet.call (hc1 _)))
      clear hc1
      generalize hWq : World.drewN wr _ = W2
      have hdq : Below wr.heap.size wr W2 := hWq ▸ below_drewn wr _
      clear hWq
      replace x0 := below_cell hdq x0
      replace x1 := below_cell hdq x1
      have hap1 := allPoints_any v W2 (by omega)
      have hri := hri.keep hdq
      have hov := hov.below hdq
      have hb := hb.trans (hdq.mono (by omega))
      have hbs := hb.size
      have HMS := Lib.hid (fun (w3 : World) (P : Option Addr) (pn pc : Nat) (hb3 : Below W2.heap.size W2 w3) (hop : OI w3 W2.heap.size 2 P pn pc (iotaP v)) => minusSets_any P S pn pc sn sc (iotaP v) rj w3 hop.reads (hri.keep hb3) (by have := hop.len; rw [iotaP_len] at this; omega) (by omega) hir hBR)
      generalize minK (iotaP v) rj 32 = mj at *
      clear hdq
      go_wp2_with (first | (go_at_call 59; refine hap1.mono ?_; rintro e w3 ⟨P, pn, pc, rfl, hop, hb3⟩; have hms := HMS.out w3 P pn pc hb3 hop; have hbs3 := hb3.size) | (go_at_call 58; refine hms.mono ?_; rintro e w4 ⟨R, rn, rc, rfl, hor, hb4⟩; have hb34 := hb3.trans (hb4.mono hbs3); have hap := hov.apart_new (v := (R, rn, rc)) (fun b hb => Nat.le_trans hbs3 (hor.os.lt hb).1); have hov5 := Lib.hid (hov.below hb34); have hor5 := Lib.hid (hor.more (show D ≤ w3.heap.size by omega)); have hbw := Lib.hid (hb.trans (hb34.mono (by omega))); have hD5 : D ≤ w4.heap.size := by have := hb4.size; omega) | (at_builtin; refine app_row _ rfl (.tmp 24) (.tmp 30) rfl D B j bc vs _ rfl hov5.out (R, rn, rc) mj hor5.out hap _ rfl rfl (by omega) hD5 ?_; intro A7 c7 w7 ho7 hg7 hn7; have hb7 := below_own hbw.out hg7 hD5 (fun b hb => (hov5.out.os.lt hb).1)))
      go_round
      case rel => exact ⟨j + 1, A7, c7, by omega, by go_num, rfl, ⟨_, by rw [HST.out]; exact ho7⟩, hb7⟩
      case measure => simp only [intOf]; omega
    · obtain rfl : j = n := by omega
      rw [List.take_of_length_le (by omega)] at ho
      have hrr := OR.reads ho
      generalize cmlB v bs = L at *
      obtain rfl : j = L.length := by omega
      have Y5 := Y1.below hb (by omega)
      have hso := sorted_any (v : Int) B L.length bc L wr hrr (by omega) hcc
      have hDr : w.heap.size + 1 ≤ wr.heap.size := by omega
      have hlY := Y5.lt
      clear hnl hcl HBK HSZ
      go_wp2_with fail
      refine hso.mono ?_
      rintro e w5 ⟨A5, c5, rfl, ho5, hb5⟩
      have Y6 := Y5.after hb5
      have hw5 := hwr.trans (hb5.mono hwr.size)
      obtain ⟨y0, y1⟩ := Y6.cells2
      have f0 := Y6.frozen 0
      have f1 := Y6.frozen 1
      obtain ⟨q0, q1, q2, q3⟩ := fin_store2 (v := (v : Int)) Y6 hw5 ho5 (show w.heap.size + 1 + 1 ≤ wr.heap.size by omega)
      have Q := Lib.hid (And.intro q0 q1)
      clear q0 q1 hso
      go_wp2
      exact bodyPost_ret (v := .tuple #[.agg #[.int .i64 (v : Int), .slice A5 L.length c5], .int .i64 0]) (by simp [results, Tryz.results40, go_sem, q2, q3]) rfl ⟨A5, L.length, c5, rfl, Q.out.1, Q.out.2⟩
end Go.Proofs.YtnmcmologlgccaaGreat
