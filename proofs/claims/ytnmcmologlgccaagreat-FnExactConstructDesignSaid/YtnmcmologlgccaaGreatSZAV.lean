/- Affine planes: the program's side. No condition beyond those stated. -/
import Derived.Test.YtnmcmologlgccaaGreatSZAR
set_option linter.unusedVariables false
set_option linter.unusedSimpArgs false
namespace Go.Proofs.YtnmcmologlgccaaGreat
open Go.RowKit
theorem range_stepK {α : Type} (F : Nat → α) (k : Nat) : (List.range (k + 1)).map F = (List.range k).map F ++ [F k] := by rw [List.range_succ, List.map_append]; rfl
def lineV (q m : Nat) : List Int := (List.range q).map fun (x : Nat) => (q : Int) * m + x
def lineS (q : Nat) (p : Int) (k : Nat) (f : List Int) (m b : Nat) : List Int := (List.range q).map fun (x : Nat) => (q : Int) * x + sumP p k 1 (mulP p k f m x) b
def affB (q : Nat) (p : Int) (k : Nat) (f : List Int) (m b : Nat) : List (List Int) := ((List.range q).drop b).map (lineS q p k f m)
def affX (q : Nat) (p : Int) (k : Nat) (f : List Int) (m : Nat) : List (List Int) := ((List.range q).drop m).flatMap fun m => lineV q m :: affB q p k f m 0
def affL (q : Nat) (p : Int) (k : Nat) (f : List Int) : List (List Int) := affX q p k f 0
section
variable {q : Nat} {p : Int} {k : Nat} {f : List Int}
theorem affB_step {m b : Nat} (h : b < q) : affB q p k f m b = lineS q p k f m b :: affB q p k f m (b + 1) := by unfold affB; rw [rdropK h, List.map_cons]
theorem affB_end {m b : Nat} (h : q ≤ b) : affB q p k f m b = [] := by unfold affB; rw [rdropK_end h]; rfl
theorem affX_step {m : Nat} (h : m < q) : affX q p k f m = lineV q m :: (affB q p k f m 0 ++ affX q p k f (m + 1)) := by unfold affX; rw [rdropK h, List.flatMap_cons]; rfl
theorem affX_end : affX q p k f q = [] := by unfold affX; rw [rdropK_end (Nat.le_refl _)]; rfl
theorem affX_rows {m : Nat} {b : List Int} (h : b ∈ affX q p k f m) : b.length = q := by
  unfold affX affB at h
  obtain ⟨m, _, h⟩ := List.mem_flatMap.1 h
  rcases List.mem_cons.1 h with rfl | h
  · simp [lineV]
  · obtain ⟨b, _, rfl⟩ := List.mem_map.1 h
    simp [lineS]
theorem affL_len : (affL q p k f).length = q * (q + 1) := by
  unfold affL affX
  have h : ∀ l : List Nat, (l.flatMap fun m => lineV q m :: affB q p k f m 0).length = l.length * (q + 1) := by
    intro l
    induction l with
    | nil => simp
    | cons a l ih => rw [List.flatMap_cons, List.length_append, ih, List.length_cons]; simp [affB, Nat.succ_mul]; omega
  rw [h]
  simp
end
theorem affL_cells {q : Nat} {p : Int} {k : Nat} {f : List Int} (hq : q ≤ 5) : cells (affL q p k f) ≤ 1099511627776 := by
  have := cells_le3 (bs := affL q p k f) (fun b hb => by have := affX_rows hb; omega)
  have h2 := affL_len (q := q) (p := p) (k := k) (f := f)
  have : q * (q + 1) ≤ 5 * 6 := Nat.mul_le_mul (by omega) (by omega)
  omega
set_option maxRecDepth 100000 in
set_option maxHeartbeats 8000000 in
theorem affinePlane_any {p : Int} {k : Nat} (hm : (p, k) ∈ PKL) (q : Nat) (w : World) (hq : p ^ k = (q : Int)) (h2 : 2 ≤ q) (h5 : q ≤ 5) :
    Calls Tryz.prog 90 #[.int .i64 q] w (RetD w ((q * q : Nat) : Int) (srtR (affL q p k (mkP p k))) 0) := by
  have hb0 := below_alloc w (.cells #[.int .i64 0, .slice none 0 0] 28)
  have Y := Blk.new w 28 #[.int .i64 0, .slice none 0 0]
  have hmk := makeField_ok hm (q : Int) (w.alloc (.cells #[.int .i64 0, .slice none 0 0] 28)) hq
  obtain ⟨hfz, hfl⟩ := mkP_ok hm
  have hq2 : q * q ≤ 5 * 5 := Nat.mul_le_mul h5 h5
  obtain ⟨N, hN⟩ : ∃ N, N = q * q := ⟨_, rfl⟩
  have hqc : (q : Int) * q = (N : Int) := by rw [hN]; push_cast; rfl
  have hNb : N ≤ 25 := by omega
  have HN := Lib.hid hN
  have HPQ := Lib.hid hq
  rw [← hN]
  have HQQ := Lib.hid (affL_len (q := q) (p := p) (k := k) (f := mkP p k))
  have HLC := Lib.hid (affL_cells (q := q) (p := p) (k := k) (f := mkP p k) h5)
  have HL0 : Hid (affL q p k (mkP p k) = [] ++ affX q p k (mkP p k) 0) := Lib.hid rfl
  have HX := Lib.hid (fun m (hm : m < q) => affX_step (q := q) (p := p) (k := k) (f := mkP p k) hm)
  generalize hF : mkP p k = f at *
  generalize affL q p k f = L at *
  clear hq2 hF hN
  go_enter Tryz.func90, Tryz.ntmps90
  go_wp2_with fail
  refine hmk.mono ?_
  rintro e w1 ⟨A, n, c, rfl, hof, hb1⟩
  have hz0 : (w.alloc (.cells #[.int .i64 0, .slice none 0 0] 28)).heap.size = w.heap.size + 1 := by simp
  have Y1 := (Y.after hb1).alloc (.cells #[.int .i64 p, .int .i64 (k : Int), .slice A n c] 135)
  have G1 := Blk.new w1 135 #[.int .i64 p, .int .i64 (k : Int), .slice A n c]
  have ha1 := below_alloc w1 (.cells #[.int .i64 p, .int .i64 (k : Int), .slice A n c] 135)
  have hr1 := (hof.reads).keep ha1
  have hw1 := (hb0.trans (hb1.mono hb0.size)).trans (ha1.mono (by have := hb1.size; omega))
  have hzz : w.heap.size + 1 ≤ (w1.alloc (.cells #[.int .i64 p, .int .i64 (k : Int), .slice A n c] 135)).heap.size := by have := hb1.size; simp at this ⊢; omega
  go_wp2
  clear hmk hof hb1 ha1 hb0 Y hz0
  generalize w1.alloc (.cells #[.int .i64 p, .int .i64 (k : Int), .slice A n c] 135) = W0 at *
  generalize w1.heap.size = gf at *
  obtain ⟨D, hD⟩ : ∃ D, D = W0.heap.size := ⟨_, rfl⟩
  have hDw : w.heap.size + 1 ≤ D := by omega
  have HLEN := Lib.hid (fun (done rest : List (List Int)) (h : L = done ++ rest) => len_left h)
  have HFO := Lib.hid (show FldOk p k f from by have := hfz.2; rwa [Int.toNat_natCast] at this)
  have hp61 := PR_bd hfz.2.pr
  have hq64 := hfz.2.q64
  have hk6 : k ≤ 6 := (pow_le64 hp61.1 HFO.out.k1 HFO.out.q64).2
  have HG := Lib.hid (fun (W : World) (h : Below D W0 W) => show W.cell? ⟨gf, 0, none⟩ = some (.int .i64 p) ∧ W.cell? ⟨gf, 1, none⟩ = some (.int .i64 (k : Int)) ∧ W.cell? ⟨gf, 2, none⟩ = some (.slice A n c) ∧ RI W A n f from by
    rw [hD] at h
    exact ⟨below_cell h (by simpa using G1.cell 0), below_cell h (by simpa using G1.cell 1), below_cell h (by simpa using G1.cell 2), hr1.keep h⟩)
  clear hfz hfl hr1 hq64
  go_loopw [6, 28] (fun lv mv wr => ∃ (m : Nat) (B : Option Addr) (j bc : Nat) (done : List (List Int)), m ≤ q ∧ mv = .int .i64 m ∧ lv = .slice B j bc ∧ OR wr D 36 2 B j bc done ∧ Hid (L = done ++ affX q p k f m) ∧ Below D W0 wr) (fun _ mv _ => q - (intOf mv).toNat)
  case atStart => exact ⟨0, none, 0, 0, [], Nat.zero_le _, rfl, rfl, OR.nil_ _ _ (by decide), HL0, Below.refl _ _⟩
  case round =>
    obtain ⟨m, B, j, bc, done, hm, rfl, rfl, ho, HD, hb⟩ := hrel
    by_cases hlm : m < q
    · have hqm : (q : Int) * m ≤ 5 * 5 := Int.mul_le_mul (by omega) (by omega) (by omega) (by omega)
      have hqm0 : 0 ≤ (q : Int) * m := Int.mul_nonneg (by omega) (by omega)
      have H1 : Hid (L = (done ++ [lineV q m]) ++ (affB q p k f m 0 ++ affX q p k f (m + 1))) := Lib.hid (by
        rw [HD.out, HX.out m hlm, List.append_assoc]
        rfl)
      have hj1 := HLEN.out _ _ HD.out
      have hjl := OR.len ho
      rw [hjl, HQQ.out] at hj1
      have hqq : q * (q + 1) ≤ 5 * 6 := Nat.mul_le_mul (by omega) (by omega)
      have hj30 : j ≤ 30 := by omega
      clear HD hj1 hqq hjl
      generalize hW : wr = W1 at *
      clear hW
      have hbs := hb.size
      go_wp2
      go_loopw [8, 32] (fun lv xv wr => ∃ (x : Nat) (R : Option Addr) (rc : Nat), x ≤ q ∧ xv = .int .i64 x ∧ lv = .slice R x rc ∧ OI wr W1.heap.size 2 R x rc ((List.range x).map fun (x : Nat) => (q : Int) * m + x) ∧ Below W1.heap.size W1 wr) (fun _ xv _ => q - (intOf xv).toNat)
      case atStart => exact ⟨0, none, 0, Nat.zero_le _, rfl, rfl, OI.nil_ _ _ _, Below.refl _ _⟩
      case round =>
        obtain ⟨x, R, rc, hx, rfl, rfl, hor, hbr⟩ := hrel
        by_cases hlx : x < q
        · have HST := Lib.hid (range_stepK (fun (x : Nat) => (q : Int) * m + x) x)
          have hbrs := hbr.size
          go_wp2_with (at_builtin; refine app_int _ rfl (.tmp 35) (.tmp 41) rfl W1.heap.size R x rc _ rfl hor ((q : Int) * m + x) wr.heap.size rfl rfl ⟨by omega, by omega⟩ (by omega) (by omega) ?_; intro A5 c5 w5 ho5 hg5 hf5; have hb5 := below_own hbr hg5 (by omega) (fun b hb => (hor.os.lt hb).1); rw [← HST.out] at ho5)
          exact ⟨⟨x + 1, A5, c5, by omega, by go_num, rfl, ho5, hb5⟩, by simp only [intOf]; omega⟩
        · obtain rfl : x = q := by omega
          obtain ⟨vs, hov⟩ := ho
          have hap := hov.apart_new (v := (R, x, rc)) (fun b hb => (hor.os.lt hb).1)
          have hov1 := hov.below hbr
          have hor1 := hor.more (B' := D) (by omega)
          have hbw := hb.trans (hbr.mono (by omega))
          have hDr : D ≤ wr.heap.size := by have := hbr.size; omega
          clear hor
          rw [show ((List.range x).map fun (y : Nat) => (x : Int) * m + y) = lineV x m from rfl] at hor1
          generalize lineV x m = tr at *
          go_wp2_with (at_builtin; refine app_row _ rfl (.tmp 44) (.tmp 46) rfl D B j bc vs done rfl hov1 (R, x, rc) tr hor1 hap _ rfl rfl (by omega) hDr ?_; intro A7 c7 w7 ho7 hg7 hn7; have hb7 := below_own hbw hg7 hDr (fun b hb => (hov1.os.lt hb).1))
          clear hov hap hov1 hor1 hbw hDr hbr hb hbs hg7 hn7
          go_loopw [6, 49] (fun lv bv wr => ∃ (b : Nat) (B : Option Addr) (j bc : Nat) (done : List (List Int)), b ≤ x ∧ bv = .int .i64 b ∧ lv = .slice B j bc ∧ OR wr D 36 2 B j bc done ∧ Hid (L = done ++ (affB x p k f m b ++ affX x p k f (m + 1))) ∧ Below D W0 wr) (fun _ bv _ => x - (intOf bv).toNat)
          case atStart => exact ⟨0, A7, j + 1, c7, _, by omega, rfl, rfl, ⟨_, ho7⟩, H1, hb7⟩
          case round =>
            clear ho7 hb7 H1
            obtain ⟨b, B, j, bc, done, hbq, rfl, rfl, ho, HD, hb⟩ := hrel
            by_cases hlb : b < x
            · have H3 : Hid (L = (done ++ [lineS x p k f m b]) ++ (affB x p k f m (b + 1) ++ affX x p k f (m + 1))) := Lib.hid (by
                rw [HD.out, affB_step hlb, List.append_assoc]
                rfl)
              have hj1 := HLEN.out _ _ HD.out
              have hjl := OR.len ho
              rw [hjl, HQQ.out] at hj1
              have hqq : x * (x + 1) ≤ 5 * 6 := Nat.mul_le_mul (by omega) (by omega)
              have hj30 : j ≤ 30 := by omega
              clear HD hj1 hqq hjl
              generalize hW : wr = W2 at *
              clear hW
              have hbs := hb.size
              go_wp2
              go_loopw [11, 53] (fun lv yv wr => ∃ (y : Nat) (R : Option Addr) (rc : Nat), y ≤ x ∧ yv = .int .i64 y ∧ lv = .slice R y rc ∧ OI wr W2.heap.size 2 R y rc ((List.range y).map fun (y : Nat) => (x : Int) * y + sumP p k 1 (mulP p k f m y) b) ∧ Below W2.heap.size W2 wr) (fun _ yv _ => x - (intOf yv).toNat)
              case atStart => exact ⟨0, none, 0, Nat.zero_le _, rfl, rfl, OI.nil_ _ _ _, Below.refl _ _⟩
              case round =>
                obtain ⟨y, R, rc, hy, rfl, rfl, hor, hbr⟩ := hrel
                by_cases hly : y < x
                · have HST := Lib.hid (range_stepK (fun (y : Nat) => (x : Int) * y + sumP p k 1 (mulP p k f m y) b) y)
                  have hbrs := hbr.size
                  have hwr := hb.trans (hbr.mono (by omega))
                  have hFO := HFO.out
                  have hp0 : 0 < p := by omega
                  obtain ⟨m0, m1⟩ := mulP_bd hp0 k f (m : Int) (y : Int)
                  have hq64 := hFO.q64
                  obtain ⟨s0, s1⟩ := sumP_bd hp0 k 1 (mulP p k f m y) (b : Int)
                  rw [HPQ.out] at m1 s1 hq64
                  have hxy : (x : Int) * y ≤ 5 * 5 := Int.mul_le_mul (by omega) (by omega) (by omega) (by omega)
                  have hxy0 : 0 ≤ (x : Int) * y := Int.mul_nonneg (by omega) (by omega)
                  obtain ⟨g0, g1, g2, hrf⟩ := HG.out _ hwr
                  have hdr : Below wr.heap.size wr wr.drew := by have := below_drewn wr 1; rwa [← World.drew_is_drewN] at this
                  have HPR := Lib.hid (fun (W : World) (h : Below wr.heap.size wr W) => product_any p k A n c f (m : Int) (y : Int) W hFO (hrf.keep h) ⟨by omega, by omega⟩ ⟨by omega, by omega⟩)
                  have HCB := Lib.hid (fun (W : World) => combine_any p k A n c (mulP p k f m y) (b : Int) 1 1 W hp61.1 hp61.2 hFO.q64 hk6 ⟨by omega, by omega⟩ ⟨by omega, by omega⟩ (Or.inl ⟨rfl, rfl⟩))
                  clear hFO
                  go_wp2
                  generalize mulP p k f m y = mu at *
                  generalize sumP p k 1 mu b = su at *
                  refine region_sufX (P := Tryz.prog) (n := 11) (i := 0) (v := .slice R y rc) (S := fun w' => w'.cell? ⟨gf, 0, none⟩ = some (.int .i64 p) ∧ w'.cell? ⟨gf, 1, none⟩ = some (.int .i64 (k : Int)) ∧ w'.cell? ⟨gf, 2, none⟩ = some (.slice A n c) ∧ Below wr.heap.size wr w') (by kernel_rfl) (by simp only [List.take_succ_cons, List.take_zero]; rfl) (by simp only [List.drop_succ_cons, List.drop_zero]; rfl) (by kernel_rfl) rfl (by decide) (by kernel_rfl) (by kernel_rfl) (by kernel_rfl) (by kernel_rfl) (fun _ _ _ h => h) (Or.inl ⟨by rfl, ?_⟩) ⟨below_cell hdr g0, below_cell hdr g1, below_cell hdr g2, hdr⟩ ?_
                  · intro w5
                    go_simp
                  intro hS
                  simp only [Act.put, List.setIfInBounds_toArray, List.set_cons_zero, List.set_cons_succ]
                  generalize wr.drew = W5 at *
                  clear hdr
                  refine wpAnyH_take (i := 1) (v := ?_) rfl (by kernel_rfl) (by kernel_rfl) (by kernel_rfl) (fun _ _ _ h => h) (Or.inl ⟨by rfl, ?_⟩) (by assumption) ?_
                  rotate_left
                  · (intro w hSw; (try dsimp only at hSw); go_simp; (try with_reducible rfl))
                  simp only [Act.put, List.setIfInBounds_toArray, List.set_cons_zero, List.set_cons_succ]
                  refine wpAnyH_take (i := 2) (v := ?_) rfl (by kernel_rfl) (by kernel_rfl) (by kernel_rfl) (fun _ _ _ h => h) (Or.inl ⟨by rfl, ?_⟩) (by assumption) ?_
                  rotate_left
                  · (intro w hSw; (try dsimp only at hSw); go_simp; (try with_reducible rfl))
                  simp only [Act.put, List.setIfInBounds_toArray, List.set_cons_zero, List.set_cons_succ]
                  refine wpAnyH_take (i := 3) (v := ?_) rfl (by kernel_rfl) (by kernel_rfl) (by kernel_rfl) (fun _ _ _ h => h) (Or.inl ⟨by rfl, ?_⟩) (by assumption) ?_
                  rotate_left
                  · (intro w hSw; (try dsimp only at hSw); go_simp; (try with_reducible rfl))
                  simp only [Act.put, List.setIfInBounds_toArray, List.set_cons_zero, List.set_cons_succ]
                  refine wpAnyH_take (i := 4) (v := ?_) rfl (by kernel_rfl) (by kernel_rfl) (by kernel_rfl) (fun _ _ _ h => h) (Or.inl ⟨by rfl, ?_⟩) (by assumption) ?_
                  rotate_left
                  · (intro w hSw; (try dsimp only at hSw); go_simp; (try with_reducible rfl))
                  simp only [Act.put, List.setIfInBounds_toArray, List.set_cons_zero, List.set_cons_succ]
                  refine wpAnyH_take (i := 5) (v := ?_) rfl (by kernel_rfl) (by kernel_rfl) (by kernel_rfl) (fun _ _ _ h => h) (Or.inl ⟨by rfl, ?_⟩) (by assumption) ?_
                  rotate_left
                  · (intro w hSw; (try dsimp only at hSw); go_simp; (try with_reducible rfl))
                  simp only [Act.put, List.setIfInBounds_toArray, List.set_cons_zero, List.set_cons_succ]
                  refine wpAnyH_take (i := 6) (v := ?_) rfl (by kernel_rfl) (by kernel_rfl) (by kernel_rfl) (fun _ _ _ h => h) (Or.inl ⟨by rfl, ?_⟩) (by assumption) ?_
                  rotate_left
                  · (intro w hSw; (try dsimp only at hSw); go_simp; (try with_reducible rfl))
                  simp only [Act.put, List.setIfInBounds_toArray, List.set_cons_zero, List.set_cons_succ]
                  refine wpAnyH_take (i := 7) (v := ?_) rfl (by kernel_rfl) (by kernel_rfl) (by kernel_rfl) (fun _ _ _ h => h) (Or.inl ⟨by rfl, ?_⟩) (by assumption) ?_
                  rotate_left
                  · (intro w hSw; (try dsimp only at hSw); go_simp; (try with_reducible rfl))
                  simp only [Act.put, List.setIfInBounds_toArray, List.set_cons_zero, List.set_cons_succ]
                  refine wpAnyH_take (i := 9) (v := ?_) rfl (by kernel_rfl) (by kernel_rfl) (by kernel_rfl) (fun _ _ _ h => h) (Or.inl ⟨by rfl, ?_⟩) (by assumption) ?_
                  rotate_left
                  · (intro w hSw; (try dsimp only at hSw); go_simp; (try with_reducible rfl))
                  simp only [Act.put, List.setIfInBounds_toArray, List.set_cons_zero, List.set_cons_succ]
                  simp only [List.getElem_toArray, List.getElem_cons_succ, List.getElem_cons_zero]
                  refine wpAnyH_ready (rs := [8]) (by kernel_rfl) (by simp) ?_
                  refine AllReadyH.cons rfl (fun K hK => ?_) AllReadyH.nil
                  go_simp
                  refine (HPR.out _ hS.2.2.2).mono ?_
                  rintro e w6 ⟨rfl, hb6⟩
                  dsimp only
                  refine hK.out _ _ ⟨below_cell hb6 hS.1, below_cell hb6 hS.2.1, below_cell hb6 hS.2.2.1, hS.2.2.2.trans (hb6.mono hS.2.2.2.size)⟩ (fun hS2 => ?_)
                  clear hK K
                  try simp only [List.getElem_toArray, List.getElem_cons_succ, List.getElem_cons_zero, Act.put, List.setIfInBounds_toArray, List.set_cons_zero, List.set_cons_succ]
                  refine wpAnyH_ready (rs := [10]) (by kernel_rfl) (by simp) ?_
                  refine AllReadyH.cons rfl (fun K hK => ?_) AllReadyH.nil
                  go_simp
                  refine (HCB.out _).mono ?_
                  rintro e w7 ⟨rfl, hb7⟩
                  dsimp only
                  refine hK.out _ _ ⟨below_cell hb7 hS2.1, below_cell hb7 hS2.2.1, below_cell hb7 hS2.2.2.1, hS2.2.2.2.trans (hb7.mono hS2.2.2.2.size)⟩ (fun hS3 => ?_)
                  clear hK K
                  try simp only [List.getElem_toArray, List.getElem_cons_succ, List.getElem_cons_zero, Act.put, List.setIfInBounds_toArray, List.set_cons_zero, List.set_cons_succ]
                  refine wpAnyH_done (by kernel_rfl) ?_ _
                  dsimp only [atEnd]
                  have hor7 := hor.below hS3.2.2.2
                  have hbr7 := hbr.trans (hS3.2.2.2.mono hbr.size)
                  have hbs7 := hbr7.size
                  clear hS hS2 hb6 hb7 hor hbr
                  go_wp2_with (at_builtin; refine app_int _ rfl (.tmp 56) (.tmp 68) rfl W2.heap.size R y rc _ rfl hor7 ((x : Int) * y + su) w7.heap.size rfl rfl ⟨by omega, by omega⟩ (by omega) (by omega) ?_; intro A5 c5 w5 ho5 hg5 hf5; have hb5 := below_own hbr7 hg5 (by omega) (fun b hb => (hor7.os.lt hb).1); rw [← HST.out] at ho5)
                  exact ⟨⟨y + 1, A5, c5, by omega, by go_num, rfl, ho5, hb5⟩, by simp only [intOf]; omega⟩
                · obtain rfl : y = x := by omega
                  obtain ⟨vs, hov⟩ := ho
                  have hap := hov.apart_new (v := (R, y, rc)) (fun b hb => (hor.os.lt hb).1)
                  have hov1 := hov.below hbr
                  have hor1 := hor.more (B' := D) (by omega)
                  have hbw := hb.trans (hbr.mono (by omega))
                  have hDr : D ≤ wr.heap.size := by have := hbr.size; omega
                  clear hor
                  rw [show ((List.range y).map fun (z : Nat) => (y : Int) * z + sumP p k 1 (mulP p k f m z) b) = lineS y p k f m b from rfl] at hor1
                  generalize lineS y p k f m b = tr at *
                  go_wp2_with (at_builtin; refine app_row _ rfl (.tmp 71) (.tmp 73) rfl D B j bc vs done rfl hov1 (R, y, rc) tr hor1 hap _ rfl rfl (by omega) hDr ?_; intro A7 c7 w7 ho7 hg7 hn7; have hb7 := below_own hbw hg7 hDr (fun b hb => (hov1.os.lt hb).1))
                  exact ⟨⟨b + 1, A7, j + 1, c7, _, by omega, by go_num, rfl, ⟨_, ho7⟩, H3, hb7⟩, by simp only [intOf]; omega⟩
            · have H4 : Hid (L = done ++ affX x p k f (m + 1)) := Lib.hid (by
                have := HD.out
                rw [affB_end (by omega)] at this
                exact this)
              clear HD
              go_wp2
              go_round
              case rel => exact ⟨m + 1, B, j, bc, done, by omega, by go_num, rfl, ho, H4, hb⟩
              case measure => simp only [intOf]; omega
    · obtain rfl : m = q := by omega
      have HE := Lib.hid (show L = done by rw [HD.out, affX_end, List.append_nil])
      have Y5 := Y1.below hb (by omega)
      obtain ⟨vs, hov⟩ := ho
      have hkl := hov.slen
      have hrr := OR.reads ⟨vs, hov⟩
      rw [← HE.out] at hrr
      have hkL : j = L.length := by rw [HE.out, hkl]
      have hL30 : L.length ≤ 30 := by
        have h1 := HQQ.out
        have : m * (m + 1) ≤ 5 * 6 := Nat.mul_le_mul (by omega) (by omega)
        omega
      have hso := sorted_any (N : Int) B j bc L wr hrr (by omega) HLC.out
      have hwr := hw1.trans (hb.mono (by omega))
      have hDr : w.heap.size + 1 ≤ wr.heap.size := by have := hb.size; omega
      have hlY := Y5.lt
      clear HD hov hkl hrr
      subst hkL
      go_wp2_with fail
      refine hso.mono ?_
      rintro e w5 ⟨A5, c5, rfl, ho5, hb5⟩
      have Y6 := Y5.after hb5
      have hw5 := hwr.trans (hb5.mono hwr.size)
      obtain ⟨y0, y1⟩ := Y6.cells2
      have f0 := Y6.frozen 0
      have f1 := Y6.frozen 1
      obtain ⟨q0, q1, q2, q3⟩ := fin_store (v := (N : Int)) Y6 hw5 ho5 hDr
      have Q := Lib.hid (And.intro q0 q1)
      clear q0 q1 hso
      go_wp2
      exact bodyPost_ret (v := .tuple #[.agg #[.int .i64 (N : Int), .slice A5 L.length c5], .int .i64 0]) (by simp [results, Tryz.results90, go_sem, q2, q3]) rfl ⟨A5, L.length, c5, rfl, Q.out.1, Q.out.2⟩
abbrev Tr := Int × Int × Int
def nthT (ts : List Tr) (k : Nat) : Tr := ts.getD k (0, 0, 0)
theorem nthT_get {ts : List Tr} {k : Nat} (h : k < ts.length) : nthT ts k = ts[k] := by simp [nthT, List.getD, h]
def tcells : List Tr → List Value
  | [] => []
  | e :: r => .int .i64 e.1 :: .int .i64 e.2.1 :: .int .i64 e.2.2 :: tcells r
theorem tcells_app (a b : List Tr) : tcells (a ++ b) = tcells a ++ tcells b := by
  induction a with
  | nil => rfl
  | cons e r ih => simp [tcells, ih]
theorem tcells_at {es : List Tr} {j : Nat} {e : Tr} (h : es[j]? = some e) : (tcells es)[j * 3]? = some (.int .i64 e.1) ∧ (tcells es)[j * 3 + 1]? = some (.int .i64 e.2.1) ∧ (tcells es)[j * 3 + 2]? = some (.int .i64 e.2.2) := by
  induction es generalizing j with
  | nil => simp at h
  | cons x r ih =>
    cases j with
    | zero => simp at h; subst h; simp [tcells]
    | succ j =>
      have h' : r[j]? = some e := by simpa using h
      obtain ⟨h1, h2, h3⟩ := ih h'
      rw [show (j + 1) * 3 = j * 3 + 3 by omega]
      exact ⟨by simpa [tcells] using h1, by simpa [tcells] using h2, by simpa [tcells] using h3⟩
theorem trip_info : (Tryz.prog.info? 142).map (fun i => (i.zero, i.size, i.bytes)) = some (some (.agg #[.int .i64 0, .int .i64 0, .int .i64 0]), 3, 24) := by kernel_rfl
section
variable {ops : Array Oper} {rest : List Oper} {o : Oper} {a : Act} {Q : Exit → Act → World → Prop}
theorem app_trip (w : World) (hgd : o.guard = none) (s x : Operand) (ho : o.op = .call { callee := .builtin .append, args := #[s, x], argTypes := #[140, 140] })
    (B : Nat) (A : Option Addr) (n c : Nat) (ts : List Tr) (hs : a.eval s = .slice A n c) (hown : OS w B 142 3 A n c (tcells ts)) (x0 x1 x2 : Int)
    (g : Nat) (hx : a.eval x = .slice (some ⟨g, 0, none⟩) 1 1) (hgx : g = w.heap.size) (hbig : n + 1 ≤ 2199023255552) (hB : B ≤ w.heap.size)
    (h : ∀ A' c' w', OS w' B 142 3 A' (n + 1) c' (tcells (ts ++ [(x0, x1, x2)])) → w.grownBy w' (blk A) → wpList Tryz.prog ops Q rest (a.put o.dst (.slice A' (n + 1) c')) w') :
    wpList Tryz.prog ops Q (o :: rest) a (w.alloc (.cells #[.int .i64 x0, .int .i64 x1, .int .i64 x2] 142)) := by
  subst hgx
  have hb := below_alloc w (.cells #[.int .i64 x0, .int .i64 x1, .int .i64 x2] 142)
  have hblk := Blk.new w 142 #[.int .i64 x0, .int .i64 x1, .int .i64 x2]
  refine wpList_app _ hgd s x 140 ho 142 (.agg #[.int .i64 0, .int .i64 0, .int .i64 0]) 3 24 Tryz.underlying140 trip_info rfl (by omega) (by omega) B A n c (tcells ts) hs (hown.below hb) (some ⟨w.heap.size, 0, none⟩) 1 1 (tcells [(x0, x1, x2)]) hx rfl ?_ (fun u hu => ?_) hbig (Nat.le_trans hB hb.size) (fun A' c' w' h1 h2 h3 => ?_)
  · intro j u hu
    refine ⟨_, rfl, ?_⟩
    rw [Addr.add_lit, Nat.zero_add, hblk.cell]
    rcases j with _ | _ | _ | j
    · simpa [tcells] using hu
    · simpa [tcells] using hu
    · simpa [tcells] using hu
    · simp [tcells] at hu
  · simp only [tcells, List.mem_cons, List.not_mem_nil, or_false] at hu
    rcases hu with rfl | rfl | rfl <;> rfl
  · rw [← tcells_app] at h1
    exact h A' c' w' h1 ((grownBy_of_below hb (blk A)).trans h2)
end
/-! the points, and what is left of them -/
def ptsZ (q : Nat) (x y : Int) (z : Nat) : List Tr := ((List.range q).drop z).map fun (z : Nat) => (x, y, (z : Int))
def ptsY (q y : Nat) : List Tr := ((List.range q).drop y).flatMap fun (y : Nat) => ptsZ q 1 y 0
def ptsP (q : Nat) : List Tr := (0, 0, 1) :: (ptsZ q 0 1 0 ++ ptsY q 0)
theorem ptsZ_step {q : Nat} (x y : Int) {z : Nat} (h : z < q) : ptsZ q x y z = (x, y, (z : Int)) :: ptsZ q x y (z + 1) := by unfold ptsZ; rw [rdropK h, List.map_cons]
theorem ptsZ_end (q : Nat) (x y : Int) : ptsZ q x y q = [] := by unfold ptsZ; rw [rdropK_end (Nat.le_refl _)]; rfl
theorem ptsY_step {q y : Nat} (h : y < q) : ptsY q y = ptsZ q 1 y 0 ++ ptsY q (y + 1) := by unfold ptsY; rw [rdropK h, List.flatMap_cons]
theorem ptsY_end (q : Nat) : ptsY q q = [] := by unfold ptsY; rw [rdropK_end (Nat.le_refl _)]; rfl
theorem ptsZ_len (q : Nat) (x y : Int) : (ptsZ q x y 0).length = q := by simp [ptsZ]
theorem ptsP_len (q : Nat) : (ptsP q).length = q * q + q + 1 := by
  unfold ptsP ptsY
  have h : ∀ l : List Nat, (l.flatMap fun (y : Nat) => ptsZ q 1 y 0).length = q * l.length := by
    intro l
    induction l with
    | nil => simp
    | cons a l ih => rw [List.flatMap_cons, List.length_append, ih, ptsZ_len, List.length_cons, Nat.mul_succ]; omega
  rw [List.length_cons, List.length_append, ptsZ_len, h]
  simp
  omega
theorem ptsP_bd {q : Nat} (hq : 2 ≤ q) {e : Tr} (h : e ∈ ptsP q) : (0 ≤ e.1 ∧ e.1 < q) ∧ (0 ≤ e.2.1 ∧ e.2.1 < q) ∧ (0 ≤ e.2.2 ∧ e.2.2 < q) := by
  unfold ptsP ptsY ptsZ at h
  rcases List.mem_cons.1 h with rfl | h
  · simp; omega
  · rcases List.mem_append.1 h with h | h
    · obtain ⟨z, hz, rfl⟩ := List.mem_map.1 h
      simp at hz
      simp; omega
    · obtain ⟨y, hy, h⟩ := List.mem_flatMap.1 h
      obtain ⟨z, hz, rfl⟩ := List.mem_map.1 h
      simp at hz hy
      simp; omega
theorem len_leftT {L done rest : List Tr} (h : L = done ++ rest) : done.length ≤ L.length := by rw [h, List.length_append]; omega
set_option maxRecDepth 100000 in
set_option maxHeartbeats 4000000 in
theorem projectivePoints_any (q : Nat) (w : World) (hq : q ≤ 5) :
    Calls Tryz.prog 146 #[.int .i64 q] w (fun e w' => ∃ A c, e = .returned (.slice A (ptsP q).length c) ∧ OS w' w.heap.size 142 3 A (ptsP q).length c (tcells (ptsP q)) ∧ Below w.heap.size w w') := by
  have hb0 := below_alloc w (.cells #[.int .i64 0, .int .i64 0, .int .i64 1] 142)
  have ho0 : OS (w.alloc (.cells #[.int .i64 0, .int .i64 0, .int .i64 1] 142)) w.heap.size 142 3 (some ⟨w.heap.size, 0, none⟩) 1 1 (tcells [(0, 0, 1)]) :=
    OS.lit w w.heap.size 142 3 1 #[.int .i64 0, .int .i64 0, .int .i64 1] (Nat.le_refl _) rfl (by omega)
  have hln := ptsP_len q
  have hqq : q * q ≤ 5 * 5 := Nat.mul_le_mul hq hq
  have HLN := Lib.hid (show (ptsP q).length ≤ 31 by omega)
  have H0 : Hid (ptsP q = [(0, 0, 1)] ++ (ptsZ q 0 1 0 ++ ptsY q 0)) := Lib.hid rfl
  clear hqq hln
  generalize ptsP q = L at *
  have HLEN := Lib.hid (fun (done rest : List Tr) (h : L = done ++ rest) => Nat.le_trans (len_leftT h) HLN.out)
  go_enter Tryz.func146, Tryz.ntmps146
  go_wp2
  go_loopw [3, 10] (fun lv zv wr => ∃ (z : Nat) (B : Option Addr) (j bc : Nat) (done : List Tr), z ≤ q ∧ zv = .int .i64 z ∧ lv = .slice B j bc ∧ OS wr w.heap.size 142 3 B j bc (tcells done) ∧ done.length = j ∧ Hid (L = done ++ (ptsZ q 0 1 z ++ ptsY q 0)) ∧ Below w.heap.size w wr) (fun _ zv _ => q - (intOf zv).toNat)
  case atStart => exact ⟨0, some ⟨w.heap.size, 0, none⟩, 1, 1, [(0, 0, 1)], Nat.zero_le _, rfl, rfl, ho0, rfl, H0, hb0⟩
  case round =>
    clear ho0 hb0 H0
    obtain ⟨z, B, j, bc, done, hz, rfl, rfl, ho, hdl, HD, hb⟩ := hrel
    by_cases hlz : z < q
    · have H1 : Hid (L = (done ++ [(0, 1, (z : Int))]) ++ (ptsZ q 0 1 (z + 1) ++ ptsY q 0)) := Lib.hid (by
        rw [HD.out, ptsZ_step 0 1 hlz, List.append_assoc]
        rfl)
      have hj := HLEN.out _ _ HD.out
      have hbs := hb.size
      clear HD
      go_wp2_with (at_builtin; refine app_trip _ rfl (.tmp 13) (.tmp 16) rfl w.heap.size B j bc done rfl ho 0 1 (z : Int) wr.heap.size rfl rfl (by omega) hbs ?_; intro A7 c7 w7 ho7 hg7; have hb7 := below_own hb hg7 hbs (fun b hb => (ho.lt hb).1))
      exact ⟨⟨z + 1, A7, j + 1, c7, _, by omega, by go_num, rfl, ho7, by simp [hdl], H1, hb7⟩, by simp only [intOf]; omega⟩
    · obtain rfl : z = q := by omega
      have H1 : Hid (L = done ++ ptsY z 0) := Lib.hid (by
        have := HD.out
        rw [ptsZ_end, List.nil_append] at this
        exact this)
      clear HD
      go_wp2
      go_loopw [3, 20] (fun lv yv wr => ∃ (y : Nat) (B : Option Addr) (j bc : Nat) (done : List Tr), y ≤ z ∧ yv = .int .i64 y ∧ lv = .slice B j bc ∧ OS wr w.heap.size 142 3 B j bc (tcells done) ∧ done.length = j ∧ Hid (L = done ++ ptsY z y) ∧ Below w.heap.size w wr) (fun _ yv _ => z - (intOf yv).toNat)
      case atStart => exact ⟨0, B, j, bc, done, Nat.zero_le _, rfl, rfl, ho, hdl, H1, hb⟩
      case round =>
        clear ho hb H1 hdl
        obtain ⟨y, B, j, bc, done, hy, rfl, rfl, ho, hdl, HD, hb⟩ := hrel
        by_cases hly : y < z
        · have H2 : Hid (L = done ++ (ptsZ z 1 y 0 ++ ptsY z (y + 1))) := Lib.hid (by rw [HD.out, ptsY_step hly])
          clear HD
          go_wp2
          go_loopw [3, 24] (fun lv xv wr => ∃ (x : Nat) (B : Option Addr) (j bc : Nat) (done : List Tr), x ≤ z ∧ xv = .int .i64 x ∧ lv = .slice B j bc ∧ OS wr w.heap.size 142 3 B j bc (tcells done) ∧ done.length = j ∧ Hid (L = done ++ (ptsZ z 1 y x ++ ptsY z (y + 1))) ∧ Below w.heap.size w wr) (fun _ xv _ => z - (intOf xv).toNat)
          case atStart => exact ⟨0, B, j, bc, done, Nat.zero_le _, rfl, rfl, ho, hdl, H2, hb⟩
          case round =>
            clear ho hb H2 hdl
            obtain ⟨x, B, j, bc, done, hx, rfl, rfl, ho, hdl, HD, hb⟩ := hrel
            by_cases hlx : x < z
            · have H3 : Hid (L = (done ++ [(1, (y : Int), (x : Int))]) ++ (ptsZ z 1 y (x + 1) ++ ptsY z (y + 1))) := Lib.hid (by
                rw [HD.out, ptsZ_step 1 y hlx, List.append_assoc]
                rfl)
              have hj := HLEN.out _ _ HD.out
              have hbs := hb.size
              clear HD
              go_wp2_with (at_builtin; refine app_trip _ rfl (.tmp 27) (.tmp 31) rfl w.heap.size B j bc done rfl ho 1 (y : Int) (x : Int) wr.heap.size rfl rfl (by omega) hbs ?_; intro A7 c7 w7 ho7 hg7; have hb7 := below_own hb hg7 hbs (fun b hb => (ho.lt hb).1))
              exact ⟨⟨x + 1, A7, j + 1, c7, _, by omega, by go_num, rfl, ho7, by simp [hdl], H3, hb7⟩, by simp only [intOf]; omega⟩
            · obtain rfl : x = z := by omega
              have H3 : Hid (L = done ++ ptsY x (y + 1)) := Lib.hid (by
                have := HD.out
                rw [ptsZ_end, List.nil_append] at this
                exact this)
              clear HD
              go_wp2
              go_round
              case rel => exact ⟨y + 1, B, j, bc, done, by omega, by go_num, rfl, ho, hdl, H3, hb⟩
              case measure => simp only [intOf]; omega
        · obtain rfl : y = z := by omega
          have HE : L = done := by
            have := HD.out
            rwa [ptsY_end, List.append_nil] at this
          clear HD
          subst HE
          go_wp2
          go_ret
          exact ⟨B, bc, by rw [hdl]; rfl, by rw [hdl]; exact ho, hb⟩
end Go.Proofs.YtnmcmologlgccaaGreat
