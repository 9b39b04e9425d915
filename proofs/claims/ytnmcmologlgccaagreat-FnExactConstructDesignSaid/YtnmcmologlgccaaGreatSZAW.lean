/- Projective planes: the program's side, continued. No condition beyond those stated. -/
import Derived.Test.YtnmcmologlgccaaGreatSZAV
import Derived.Test.YtnmcmologlgccaaGreatSZAU
set_option linter.unusedVariables false
set_option linter.unusedSimpArgs false
namespace Go.Proofs.YtnmcmologlgccaaGreat
open Go.RowKit
def tAt (u : Tr) (i : Nat) : Int := if i = 0 then u.1 else if i = 1 then u.2.1 else u.2.2
def dotK (p : Int) (k : Nat) (f : List Int) (u v : Tr) : Nat → Int
  | 0 => 0
  | i + 1 => sumP p k 1 (dotK p k f u v i) (mulP p k f (tAt u i) (tAt v i))
theorem dotK_bd {p : Int} (h0 : 0 < p) (k : Nat) (f : List Int) (u v : Tr) (i : Nat) : 0 ≤ dotK p k f u v i ∧ dotK p k f u v i < p ^ k := by
  cases i with
  | zero => exact ⟨Int.le_refl _, Int.pow_pos h0⟩
  | succ i => exact sumP_bd h0 k 1 _ _
def onL (p : Int) (k : Nat) (f : List Int) (ts : List Tr) (u : Tr) (j : Nat) : Bool := dotK p k f u (nthT ts j) 3 == 0
def lineT (p : Int) (k : Nat) (f : List Int) (ts : List Tr) (u : Tr) (j : Nat) : List Int := ((List.range j).filter (onL p k f ts u)).map fun (j : Nat) => (j : Int)
theorem lineT_yes {p : Int} {k : Nat} {f : List Int} {ts : List Tr} {u : Tr} {j : Nat} (h : onL p k f ts u j = true) : lineT p k f ts u (j + 1) = lineT p k f ts u j ++ [(j : Int)] := by simp [lineT, List.range_succ, h]
theorem lineT_no {p : Int} {k : Nat} {f : List Int} {ts : List Tr} {u : Tr} {j : Nat} (h : onL p k f ts u j = false) : lineT p k f ts u (j + 1) = lineT p k f ts u j := by simp [lineT, List.range_succ, h]
theorem lineT_len (p : Int) (k : Nat) (f : List Int) (ts : List Tr) (u : Tr) (j : Nat) : (lineT p k f ts u j).length ≤ j := by
  unfold lineT
  rw [List.length_map]
  exact Nat.le_trans (List.length_filter_le _ _) (by simp)
def prjK (p : Int) (k : Nat) (f : List Int) (ts : List Tr) (m : Nat) : List (List Int) := (List.range m).map fun m => lineT p k f ts (nthT ts m) ts.length
theorem prjK_step (p : Int) (k : Nat) (f : List Int) (ts : List Tr) (m : Nat) : prjK p k f ts (m + 1) = prjK p k f ts m ++ [lineT p k f ts (nthT ts m) ts.length] := by simp [prjK, List.range_succ]
theorem prjK_len (p : Int) (k : Nat) (f : List Int) (ts : List Tr) (m : Nat) : (prjK p k f ts m).length = m := by simp [prjK]
def prjL (q : Nat) (p : Int) (k : Nat) (f : List Int) : List (List Int) := prjK p k f (ptsP q) (ptsP q).length
theorem prjK_cells (p : Int) (k : Nat) (f : List Int) (ts : List Tr) (h : ts.length ≤ 31) : cells (prjK p k f ts ts.length) ≤ 1099511627776 := by
  have := cells_le3 (bs := prjK p k f ts ts.length) (fun b hb => by
    obtain ⟨c, _, rfl⟩ := List.mem_map.1 hb
    exact Nat.le_trans (lineT_len _ _ _ _ _ _) (by omega))
  rw [prjK_len] at this
  omega
theorem tAt_bd {q : Nat} (hq : 2 ≤ q) {j t : Nat} (h : j < (ptsP q).length) : 0 ≤ tAt (nthT (ptsP q) j) t ∧ tAt (nthT (ptsP q) j) t < q := by
  rw [nthT_get h]
  obtain ⟨h1, h2, h3⟩ := ptsP_bd hq (List.getElem_mem h)
  unfold tAt
  split
  · exact h1
  · split
    · exact h2
    · exact h3
theorem sizeT_any (A : Option Addr) (n c : Nat) (w : World) (_ : n ≤ 9223372036854775807) : Calls Tryz.prog 147 #[.slice A n c] w fun e w' => e = .returned (.int .i64 n) ∧ w = w' := by
  go_enter Tryz.func147, Tryz.ntmps147
  go_wp2
  go_ret
  exact ⟨rfl, rfl⟩
theorem trip_cell {w : World} {B : Nat} {A : Option Addr} {n c : Nat} {ts : List Tr} (h : OS w B 142 3 A n c (tcells ts)) {j : Nat} (hj : j < ts.length) : ∃ g, A = some ⟨g, 0, none⟩ ∧ B ≤ g ∧ g < w.heap.size ∧
    w.cell? ⟨g, j * 3, none⟩ = some (.int .i64 (tAt (nthT ts j) 0)) ∧ w.cell? ⟨g, j * 3 + 1, none⟩ = some (.int .i64 (tAt (nthT ts j) 1)) ∧ w.cell? ⟨g, j * 3 + 2, none⟩ = some (.int .i64 (tAt (nthT ts j) 2)) := by
  have he : ts[j]? = some (nthT ts j) := by rw [nthT_get hj]; exact List.getElem?_eq_getElem hj
  obtain ⟨h1, h2, h3⟩ := tcells_at he
  obtain ⟨g, ha, hc, _⟩ := h.cell h1
  obtain ⟨g', ha', hc', _⟩ := h.cell h2
  obtain rfl : g = g' := by rw [ha] at ha'; injection ha' with ha'; injection ha'
  obtain ⟨g', ha', hc'', _⟩ := h.cell h3
  obtain rfl : g = g' := by rw [ha] at ha'; injection ha' with ha'; injection ha'
  have := h.lt (show blk A = some g by rw [ha]; rfl)
  exact ⟨g, ha, this.1, this.2, hc, hc', hc''⟩
set_option maxRecDepth 100000 in
set_option maxHeartbeats 8000000 in
theorem projectivePlane_any {p : Int} {k : Nat} (hm : (p, k) ∈ PKL) (q : Nat) (w : World) (hq : p ^ k = (q : Int)) (h2 : 2 ≤ q) (h5 : q ≤ 5) :
    Calls Tryz.prog 91 #[.int .i64 q] w (RetD w ((q * q + q + 1 : Nat) : Int) (srtR (prjL q p k (mkP p k))) 0) := by
  have hb0 := below_alloc w (.cells #[.int .i64 0, .slice none 0 0] 28)
  have Y := Blk.new w 28 #[.int .i64 0, .slice none 0 0]
  have hmk := makeField_ok hm (q : Int) (w.alloc (.cells #[.int .i64 0, .slice none 0 0] 28)) hq
  obtain ⟨hfz, hfl⟩ := mkP_ok hm
  have hq2 : q * q ≤ 5 * 5 := Nat.mul_le_mul h5 h5
  obtain ⟨N, hN⟩ : ∃ N, N = q * q + q + 1 := ⟨_, rfl⟩
  have hqc : (q : Int) * q + q + 1 = (N : Int) := by rw [hN]; push_cast; rfl
  have hNb : N ≤ 31 := by omega
  have hpl : (ptsP q).length = N := by rw [ptsP_len, hN]
  rw [← hN]
  unfold prjL
  have HTB := Lib.hid (fun (j t : Nat) (h : j < (ptsP q).length) => tAt_bd (t := t) h2 h)
  have HPP := Lib.hid (fun (W : World) => projectivePoints_any q W h5)
  have HPQ := Lib.hid hq
  have hq64 : q ≤ 64 := by omega
  generalize hF : mkP p k = f at *
  generalize ptsP q = ts at *
  have hqqb : (q : Int) * q ≤ 5 * 5 := Int.mul_le_mul (by omega) (by omega) (by omega) (by omega)
  have hqq0 : 0 ≤ (q : Int) * q := Int.mul_nonneg (by omega) (by omega)
  clear hq2 hF hN
  go_enter Tryz.func91, Tryz.ntmps91
  go_wp2_with fail
  refine hmk.mono ?_
  rintro e w1 ⟨A, n, c, rfl, hof, hb1⟩
  have hz0 : (w.alloc (.cells #[.int .i64 0, .slice none 0 0] 28)).heap.size = w.heap.size + 1 := by simp
  have Y1 := (Y.after hb1).alloc (.cells #[.int .i64 p, .int .i64 (k : Int), .slice A n c] 135)
  have G1 := Blk.new w1 135 #[.int .i64 p, .int .i64 (k : Int), .slice A n c]
  have ha1 := below_alloc w1 (.cells #[.int .i64 p, .int .i64 (k : Int), .slice A n c] 135)
  have hr1 := (hof.reads).keep ha1
  have hw1 := (hb0.trans (hb1.mono hb0.size)).trans (ha1.mono (by have := hb1.size; omega))
  have hzz : w.heap.size + 1 ≤ (w1.alloc (.cells #[.int .i64 p, .int .i64 (k : Int), .slice A n c] 135)).heap.size := by have := hb1.size; simp at this ⊢; omega
  go_wp2_with (go_at_call 146; refine (HPP.out _).mono ?_; rintro e w2 ⟨TA, tc, rfl, hot, hb2⟩)
  clear hmk hof hb1 ha1 hb0 Y hz0
  have Y1 := Y1.after hb2
  have G1 := G1.after hb2
  have hr1 := hr1.keep hb2
  have hw1 := hw1.trans (hb2.mono (by omega))
  have hzz : w.heap.size + 1 ≤ w2.heap.size := by have := hb2.size; omega
  clear hb2
  generalize w1.heap.size = gf at *
  obtain ⟨D, hD⟩ : ∃ D, D = w2.heap.size := ⟨_, rfl⟩
  have hDw : w.heap.size + 1 ≤ D := by omega
  have hp61 := PR_bd hfz.2.pr
  have HFO := Lib.hid (show FldOk p k f from by have := hfz.2; rwa [Int.toNat_natCast] at this)
  have hk6 : k ≤ 6 := (pow_le64 hp61.1 HFO.out.k1 HFO.out.q64).2
  have HG := Lib.hid (fun (W : World) (h : Below D w2 W) => show W.cell? ⟨gf, 0, none⟩ = some (.int .i64 p) ∧ W.cell? ⟨gf, 1, none⟩ = some (.int .i64 (k : Int)) ∧ W.cell? ⟨gf, 2, none⟩ = some (.slice A n c) ∧ RI W A n f from by
    rw [hD] at h
    exact ⟨below_cell h (by simpa using G1.cell 0), below_cell h (by simpa using G1.cell 1), below_cell h (by simpa using G1.cell 2), hr1.keep h⟩)
  have HT := Lib.hid (fun (W : World) (h : Below D w2 W) (j : Nat) (hj : j < ts.length) => show ∃ g, TA = some ⟨g, 0, none⟩ ∧
      W.cell? ⟨g, j * 3, none⟩ = some (.int .i64 (tAt (nthT ts j) 0)) ∧ W.cell? ⟨g, j * 3 + 1, none⟩ = some (.int .i64 (tAt (nthT ts j) 1)) ∧ W.cell? ⟨g, j * 3 + 2, none⟩ = some (.int .i64 (tAt (nthT ts j) 2)) from by
    rw [hD] at h
    obtain ⟨g, h1, _, _, h4, h5, h6⟩ := trip_cell hot hj
    exact ⟨g, h1, below_cell h h4, below_cell h h5, below_cell h h6⟩)
  have HLC := Lib.hid (prjK_cells p k f ts (by omega))
  clear hfz hfl hr1 hot G1
  generalize hNN : ts.length = NN at *
  obtain rfl : NN = N := hpl
  have HLL := Lib.hid hNN
  go_wp2
  go_loopw [7, 36] (fun lv mv wr => ∃ (m : Nat) (B : Option Addr) (bc : Nat), m ≤ NN ∧ mv = .int .i64 m ∧ lv = .slice B m bc ∧ OR wr D 36 2 B m bc (prjK p k f ts m) ∧ Below D w2 wr) (fun _ mv _ => NN - (intOf mv).toNat)
  case atStart => exact ⟨0, none, 0, Nat.zero_le _, rfl, rfl, OR.nil_ _ _ (by decide), by rw [hD]; exact Below.refl _ _⟩
  case round =>
    obtain ⟨m, B, bc, hm, rfl, rfl, ho, hb⟩ := hrel
    have hbs := hb.size
    by_cases hlm : m < NN
    · obtain ⟨g, rfl, t0, t1, t2⟩ := HT.out wr hb m hlm
      have HST := Lib.hid (prjK_step p k f ts m)
      have hbA := below_alloc wr (.cells #[.int .i64 (tAt (nthT ts m) 0), .int .i64 (tAt (nthT ts m) 1), .int .i64 (tAt (nthT ts m) 2)] 142)
      have U1 := Blk.new wr 142 #[.int .i64 (tAt (nthT ts m) 0), .int .i64 (tAt (nthT ts m) 1), .int .i64 (tAt (nthT ts m) 2)]
      go_wp2
      have HU := Lib.hid (fun (W : World) (h : Below (wr.alloc (.cells #[.int .i64 (tAt (nthT ts m) 0), .int .i64 (tAt (nthT ts m) 1), .int .i64 (tAt (nthT ts m) 2)] 142)).heap.size (wr.alloc (.cells #[.int .i64 (tAt (nthT ts m) 0), .int .i64 (tAt (nthT ts m) 1), .int .i64 (tAt (nthT ts m) 2)] 142)) W) (t : Nat) (ht : t < 3) => show W.cell? ⟨wr.heap.size, t, none⟩ = some (.int .i64 (tAt (nthT ts m) t)) from below_cell h (by
        rw [U1.cell]
        rcases t with _ | _ | _ | t
        · rfl
        · rfl
        · rfl
        · omega))
      have hs1 : wr.heap.size + 1 = (wr.alloc (.cells #[.int .i64 (tAt (nthT ts m) 0), .int .i64 (tAt (nthT ts m) 1), .int .i64 (tAt (nthT ts m) 2)] 142)).heap.size := by simp
      have hb1 := hb.trans (hbA.mono (by omega))
      obtain ⟨vs, hov⟩ := ho
      have hov1 := Lib.hid (hov.below hbA)
      clear hbA U1 hb hov t0 t1 t2
      generalize wr.alloc (.cells #[.int .i64 (tAt (nthT ts m) 0), .int .i64 (tAt (nthT ts m) 1), .int .i64 (tAt (nthT ts m) 2)] 142) = W1 at *
      generalize wr.heap.size = gu at *
      have hu0 := fun t => HTB.out m t (by omega)
      have HTU := Lib.hid hu0
      clear hu0
      go_loopw [10, 42] (fun lv jv wr => ∃ (j : Nat) (R : Option Addr) (rn rc : Nat), j ≤ NN ∧ jv = .int .i64 j ∧ lv = .slice R rn rc ∧ OI wr W1.heap.size 2 R rn rc (lineT p k f ts (nthT ts m) j) ∧ Below W1.heap.size W1 wr) (fun _ jv _ => NN - (intOf jv).toNat)
      case atStart => exact ⟨0, none, 0, 0, Nat.zero_le _, rfl, rfl, OI.nil_ _ _ _, Below.refl _ _⟩
      case round =>
        obtain ⟨j, R, rn, rc, hj, rfl, rfl, hor, hbr⟩ := hrel
        have hbrs := hbr.size
        have hwr := hb1.trans (hbr.mono (by omega))
        have hrl := hor.len
        have hll := lineT_len p k f ts (nthT ts m) j
        by_cases hlj : j < NN
        · obtain ⟨g2, e2, t0, t1, t2⟩ := HT.out wr hwr j hlj
          obtain rfl : g2 = g := by injection e2 with e2; injection e2 with e2; exact e2.symm
          clear e2
          have hbA := below_alloc wr (.cells #[.int .i64 (tAt (nthT ts j) 0), .int .i64 (tAt (nthT ts j) 1), .int .i64 (tAt (nthT ts j) 2)] 142)
          have V1 := Blk.new wr 142 #[.int .i64 (tAt (nthT ts j) 0), .int .i64 (tAt (nthT ts j) 1), .int .i64 (tAt (nthT ts j) 2)]
          go_wp2
          have HV := Lib.hid (fun (W : World) (h : Below (wr.alloc (.cells #[.int .i64 (tAt (nthT ts j) 0), .int .i64 (tAt (nthT ts j) 1), .int .i64 (tAt (nthT ts j) 2)] 142)).heap.size (wr.alloc (.cells #[.int .i64 (tAt (nthT ts j) 0), .int .i64 (tAt (nthT ts j) 1), .int .i64 (tAt (nthT ts j) 2)] 142)) W) (t : Nat) (ht : t < 3) => show W.cell? ⟨wr.heap.size, t, none⟩ = some (.int .i64 (tAt (nthT ts j) t)) from below_cell h (by
            rw [V1.cell]
            rcases t with _ | _ | _ | t
            · rfl
            · rfl
            · rfl
            · omega))
          have hs2 : wr.heap.size + 1 = (wr.alloc (.cells #[.int .i64 (tAt (nthT ts j) 0), .int .i64 (tAt (nthT ts j) 1), .int .i64 (tAt (nthT ts j) 2)] 142)).heap.size := by simp
          have hbr1 := hbr.trans (hbA.mono (by omega))
          have hor1 := hor.below hbA
          have hwr1 := hwr.trans (hbA.mono (by omega))
          clear hbA V1 hbr hor hwr t0 t1 t2
          generalize wr.alloc (.cells #[.int .i64 (tAt (nthT ts j) 0), .int .i64 (tAt (nthT ts j) 1), .int .i64 (tAt (nthT ts j) 2)] 142) = W2 at *
          generalize wr.heap.size = gv at *
          have hv0 := fun t => HTB.out j t (by omega)
          have HTV := Lib.hid hv0
          clear hv0
          go_loopw [13, 47] (fun sv tv wr => ∃ t : Nat, t ≤ 3 ∧ tv = .int .i64 t ∧ sv = .int .i64 (dotK p k f (nthT ts m) (nthT ts j) t) ∧ Below W2.heap.size W2 wr) (fun _ tv _ => 3 - (intOf tv).toNat)
          case atStart => exact ⟨0, Nat.zero_le _, rfl, rfl, Below.refl _ _⟩
          case round =>
            obtain ⟨t, ht, rfl, rfl, hbt⟩ := hrel
            have hbts := hbt.size
            by_cases hlt : t < 3
            · have hFO := HFO.out
              have hp0 : 0 < p := by omega
              have hwt := hwr1.trans (hbt.mono (by omega))
              have hbr2 := (hbr1.trans (hbt.mono (by omega)))
              obtain ⟨g0, g1, g2', hrf⟩ := HG.out _ hwt
              have hut := HU.out wr hbr2 t hlt
              have hvt := HV.out wr hbt t hlt
              have hu0 := HTU.out t
              have hv0 := HTV.out t
              have hdt : dotK p k f (nthT ts m) (nthT ts j) (t + 1) = sumP p k 1 (dotK p k f (nthT ts m) (nthT ts j) t) (mulP p k f (tAt (nthT ts m) t) (tAt (nthT ts j) t)) := rfl
              obtain ⟨d0, d1⟩ := dotK_bd hp0 k f (nthT ts m) (nthT ts j) t
              obtain ⟨m0, m1⟩ := mulP_bd hp0 k f (tAt (nthT ts m) t) (tAt (nthT ts j) t)
              rw [HPQ.out] at d1 m1
              have hdr : Below wr.heap.size wr wr.drew := by have := below_drewn wr 1; rwa [← World.drew_is_drewN] at this
              obtain ⟨dn, hdn⟩ : ∃ dn, dn = dotK p k f (nthT ts m) (nthT ts j) (t + 1) := ⟨_, rfl⟩
              rw [← hdn] at hdt
              have HDN := Lib.hid hdn
              clear hdn
              have HDT := Lib.hid hdt
              clear hdt
              go_wp2
              generalize dotK p k f (nthT ts m) (nthT ts j) t = dt at *
              generalize tAt (nthT ts m) t = ut at *
              generalize tAt (nthT ts j) t = vt at *
              have HPR := Lib.hid (fun (W : World) (h : Below wr.heap.size wr W) => product_any p k A n c f ut vt W hFO (hrf.keep h) ⟨by omega, by omega⟩ ⟨by omega, by omega⟩)
              have HCB := Lib.hid (fun (W : World) => combine_any p k A n c dt (mulP p k f ut vt) 1 1 W hp61.1 hp61.2 hFO.q64 hk6 ⟨by omega, by omega⟩ ⟨by omega, by omega⟩ (Or.inl ⟨rfl, rfl⟩))
              rw [← HDT.out] at HCB
              clear hFO
              generalize mulP p k f ut vt = mu at *
              refine region_sufX (P := Tryz.prog) (n := 11) (i := 1) (v := .int .i64 dt) (S := fun w' => w'.cell? ⟨gf, 0, none⟩ = some (.int .i64 p) ∧ w'.cell? ⟨gf, 1, none⟩ = some (.int .i64 (k : Int)) ∧ w'.cell? ⟨gf, 2, none⟩ = some (.slice A n c) ∧ w'.cell? ⟨gu, t, none⟩ = some (.int .i64 ut) ∧ w'.cell? ⟨gv, t, none⟩ = some (.int .i64 vt) ∧ Below wr.heap.size wr w') (by kernel_rfl) (by simp only [List.take_succ_cons, List.take_zero]; rfl) (by simp only [List.drop_succ_cons, List.drop_zero]; rfl) (by kernel_rfl) rfl (by decide) (by kernel_rfl) (by kernel_rfl) (by kernel_rfl) (by kernel_rfl) (fun _ _ _ h => h) (Or.inl ⟨by rfl, ?_⟩) ⟨below_cell hdr g0, below_cell hdr g1, below_cell hdr g2', below_cell hdr hut, below_cell hdr hvt, hdr⟩ ?_
              · intro w5
                go_simp
              intro hS
              simp only [Act.put, List.setIfInBounds_toArray, List.set_cons_zero, List.set_cons_succ]
              generalize wr.drew = W5 at *
              clear hdr
              refine wpAnyH_take (i := 0) (v := ?_) rfl (by kernel_rfl) (by kernel_rfl) (by kernel_rfl) (fun _ _ _ h => h) (Or.inl ⟨by rfl, ?_⟩) (by assumption) ?_
              rotate_left
              · (intro w hSw; (try dsimp only at hSw); go_simp; (try with_reducible rfl))
              simp only [Act.put, List.setIfInBounds_toArray, List.set_cons_zero, List.set_cons_succ]
              refine wpAnyH_take (i := 2) (v := ?_) rfl (by kernel_rfl) (by kernel_rfl) (by kernel_rfl) (fun _ _ _ h => h) (Or.inl ⟨by rfl, ?_⟩) (by assumption) ?_
              rotate_left
              · (intro w hSw; (try dsimp only at hSw); go_simp; (try with_reducible rfl))
              simp only [Act.put, List.setIfInBounds_toArray, List.set_cons_zero, List.set_cons_succ]
              refine wpAnyH_take (i := 3) (v := ?_) rfl (by kernel_rfl) (by kernel_rfl) (by kernel_rfl) (fun _ _ _ h => h) (Or.inl ⟨by rfl, ?_⟩) (by assumption) ?_
              rotate_left
              · (intro w hSw; (try dsimp only at hSw); go_simp; (try with_reducible rfl))
              simp only [Act.put, List.setIfInBounds_toArray, List.set_cons_zero, List.set_cons_succ]
              refine wpAnyH_take (i := 4) (v := ?_) rfl (by kernel_rfl) (by kernel_rfl) (by kernel_rfl) (fun _ _ _ h => h) (Or.inl ⟨by rfl, ?_⟩) (by assumption) ?_
              rotate_left
              · (intro w hSw; (try dsimp only at hSw); go_simp; (try with_reducible rfl))
              simp only [Act.put, List.setIfInBounds_toArray, List.set_cons_zero, List.set_cons_succ]
              refine wpAnyH_take (i := 5) (v := ?_) rfl (by kernel_rfl) (by kernel_rfl) (by kernel_rfl) (fun _ _ _ h => h) (Or.inl ⟨by rfl, ?_⟩) (by assumption) ?_
              rotate_left
              · (intro w hSw; (try dsimp only at hSw); go_simp; (try with_reducible rfl))
              simp only [Act.put, List.setIfInBounds_toArray, List.set_cons_zero, List.set_cons_succ]
              refine wpAnyH_take (i := 6) (v := ?_) rfl (by kernel_rfl) (by kernel_rfl) (by kernel_rfl) (fun _ _ _ h => h) (Or.inl ⟨by rfl, ?_⟩) (by assumption) ?_
              rotate_left
              · (intro w hSw; (try dsimp only at hSw); go_simp; (try with_reducible rfl))
              simp only [Act.put, List.setIfInBounds_toArray, List.set_cons_zero, List.set_cons_succ]
              refine wpAnyH_take (i := 7) (v := ?_) rfl (by kernel_rfl) (by kernel_rfl) (by kernel_rfl) (fun _ _ _ h => h) (Or.inl ⟨by rfl, ?_⟩) (by assumption) ?_
              rotate_left
              · (intro w hSw; (try dsimp only at hSw); go_simp; (try with_reducible rfl))
              simp only [Act.put, List.setIfInBounds_toArray, List.set_cons_zero, List.set_cons_succ]
              refine wpAnyH_take (i := 8) (v := ?_) rfl (by kernel_rfl) (by kernel_rfl) (by kernel_rfl) (fun _ _ _ h => h) (Or.inl ⟨by rfl, ?_⟩) (by assumption) ?_
              rotate_left
              · (intro w hSw; (try dsimp only at hSw); go_simp; (try with_reducible rfl))
              simp only [Act.put, List.setIfInBounds_toArray, List.set_cons_zero, List.set_cons_succ]
              simp only [List.getElem_toArray, List.getElem_cons_succ, List.getElem_cons_zero]
              refine wpAnyH_ready (rs := [9]) (by kernel_rfl) (by simp) ?_
              refine AllReadyH.cons rfl (fun K hK => ?_) AllReadyH.nil
              go_simp
              refine (HPR.out _ hS.2.2.2.2.2).mono ?_
              rintro e w6 ⟨rfl, hb6⟩
              dsimp only
              refine hK.out _ _ ⟨below_cell hb6 hS.1, below_cell hb6 hS.2.1, below_cell hb6 hS.2.2.1, below_cell hb6 hS.2.2.2.1, below_cell hb6 hS.2.2.2.2.1, hS.2.2.2.2.2.trans (hb6.mono hS.2.2.2.2.2.size)⟩ (fun hS2 => ?_)
              clear hK K
              try simp only [List.getElem_toArray, List.getElem_cons_succ, List.getElem_cons_zero, Act.put, List.setIfInBounds_toArray, List.set_cons_zero, List.set_cons_succ]
              refine wpAnyH_ready (rs := [10]) (by kernel_rfl) (by simp) ?_
              refine AllReadyH.cons rfl (fun K hK => ?_) AllReadyH.nil
              go_simp
              refine (HCB.out _).mono ?_
              rintro e w7 ⟨rfl, hb7⟩
              dsimp only
              refine hK.out _ _ ⟨below_cell hb7 hS2.1, below_cell hb7 hS2.2.1, below_cell hb7 hS2.2.2.1, below_cell hb7 hS2.2.2.2.1, below_cell hb7 hS2.2.2.2.2.1, hS2.2.2.2.2.2.trans (hb7.mono hS2.2.2.2.2.2.size)⟩ (fun hS3 => ?_)
              clear hK K
              try simp only [List.getElem_toArray, List.getElem_cons_succ, List.getElem_cons_zero, Act.put, List.setIfInBounds_toArray, List.set_cons_zero, List.set_cons_succ]
              refine wpAnyH_done (by kernel_rfl) ?_ _
              dsimp only [atEnd]
              have hbt7 := hbt.trans (hS3.2.2.2.2.2.mono hbt.size)
              clear hS hS2 hb6 hb7 hut hvt g0 g1 g2' HPR HCB HDT
              go_wp2
              go_round
              case rel => exact ⟨t + 1, by omega, by go_num, by rw [← HDN.out], hbt7⟩
              case measure => simp only [intOf]; omega
            · obtain rfl : t = 3 := by omega
              have hbr2 := (hbr1.trans (hbt.mono (by omega)))
              have hor2 := hor1.below hbt
              have hW1 := hbr2.size
              cases hol : onL p k f ts (nthT ts m) j with
              | true =>
                have HST := Lib.hid (lineT_yes hol)
                have hz : (dotK p k f (nthT ts m) (nthT ts j) 3 == 0) = true := hol
                generalize dotK p k f (nthT ts m) (nthT ts j) 3 = d3 at *
                clear hol
                go_wp2_with (at_builtin; refine app_int _ rfl (.tmp 64) (.tmp 66) rfl W1.heap.size R rn rc _ rfl hor2 (j : Int) wr.heap.size rfl rfl ⟨by omega, by omega⟩ (by omega) (by omega) ?_; intro A5 c5 w5 ho5 hg5 hf5; have hb5 := below_own hbr2 hg5 (by omega) (fun b hb => (hor2.os.lt hb).1); rw [← HST.out] at ho5)
                go_round
                case rel => exact ⟨j + 1, A5, rn + 1, c5, by omega, by go_num, rfl, ho5, hb5⟩
                case measure => simp only [intOf]; omega
              | false =>
                have HST := Lib.hid (lineT_no hol)
                have hz : (dotK p k f (nthT ts m) (nthT ts j) 3 == 0) = false := hol
                generalize dotK p k f (nthT ts m) (nthT ts j) 3 = d3 at *
                clear hol
                go_wp2
                go_round
                case rel => exact ⟨j + 1, R, rn, rc, by omega, by go_num, rfl, by rw [HST.out]; exact hor2, hbr2⟩
                case measure => simp only [intOf]; omega
        · obtain rfl : j = NN := by omega
          have hovo := hov1.out.below hbr
          have hap := hov1.out.apart_new (v := (R, rn, rc)) (fun b hb => (hor.os.lt hb).1)
          have hor1 := hor.more (B' := D) (by omega)
          have hDr : D ≤ wr.heap.size := by omega
          have hll := HLL.out
          rw [hll] at HST
          clear hor hll
          generalize lineT p k f ts (nthT ts m) j = tr at *
          go_wp2_with (at_builtin; refine app_row _ rfl (.tmp 69) (.tmp 71) rfl D B m bc vs _ rfl hovo (R, rn, rc) tr hor1 hap _ rfl rfl (by omega) hDr ?_; intro A7 c7 w7 ho7 hg7 hn7; have hb7 := below_own hwr hg7 hDr (fun b hb => (hovo.os.lt hb).1))
          go_round
          case rel => exact ⟨m + 1, A7, c7, by omega, by go_num, rfl, ⟨_, by rw [HST.out]; exact ho7⟩, hb7⟩
          case measure => simp only [intOf]; omega
    · obtain rfl : m = NN := by omega
      have hrr := OR.reads ho
      have hlc := HLC.out
      have hpk := prjK_len p k f ts m
      generalize prjK p k f ts m = L at *
      subst hpk
      have Y5 := Y1.below hb (by omega)
      have hso := sorted_any (L.length : Int) B L.length bc L wr hrr (by omega) hlc
      have hwr := hw1.trans (hb.mono (by omega))
      have hDr : w.heap.size + 1 ≤ wr.heap.size := by omega
      have hlY := Y5.lt
      go_wp2_with (go_at_call 147; refine (sizeT_any _ _ _ _ (by omega)).mono ?_; rintro e w' ⟨rfl, rfl⟩)
      refine hso.mono ?_
      rintro e w5 ⟨A5, c5, rfl, ho5, hb5⟩
      have Y6 := Y5.after hb5
      have hw5 := hwr.trans (hb5.mono hwr.size)
      obtain ⟨y0, y1⟩ := Y6.cells2
      have f0 := Y6.frozen 0
      have f1 := Y6.frozen 1
      obtain ⟨q0, q1, q2, q3⟩ := fin_store (v := (L.length : Int)) Y6 hw5 ho5 hDr
      have Q := Lib.hid (And.intro q0 q1)
      clear q0 q1 hso
      go_wp2
      exact bodyPost_ret (v := .tuple #[.agg #[.int .i64 (L.length : Int), .slice A5 L.length c5], .int .i64 0]) (by simp [results, Tryz.results91, go_sem, q2, q3]) rfl ⟨A5, L.length, c5, rfl, Q.out.1, Q.out.2⟩
/-! the polynomials of small fields -/
theorem irrB_no {p : Int} {k : Nat} {f : List Int} (hp : 0 < p) (h : irrB p k f = false) : ¬ IrrC p k f := fun hi => by
  unfold irrB at h
  rw [List.all_eq_false] at h
  obtain ⟨d, hd, h⟩ := h
  simp only [Bool.or_eq_true, decide_eq_true_eq, not_or] at h
  obtain ⟨⟨h1, h2⟩, h3⟩ := h
  have h3 := eq_false_of_ne_true h3
  rw [List.all_eq_false] at h3
  obtain ⟨n, hn, h3⟩ := h3
  have h3 := eq_false_of_ne_true h3
  rw [List.any_eq_false] at h3
  have hpd : 0 ≤ p ^ d := Int.le_of_lt (Int.pow_pos hp)
  have hn := List.mem_range.1 hn
  obtain ⟨t, ht⟩ := hi d (by omega) (by omega) (n : Int) (by omega) (by omega)
  rcases Nat.lt_or_ge t (remP p (digsP (n : Int) p d ++ [1]) f).length with hl | hl
  · rw [nth_get hl] at ht
    have := h3 _ (List.getElem_mem hl)
    exact this (by simpa using ht)
  · exact ht (by simp [nth, List.getD, List.getElem?_eq_none hl])
def polC (p : Int) (k n : Nat) (f : List Int) : Bool := decide (digsP (n : Int) p k ++ [1] = f) && irrB p k f && (List.range n).all fun m => !irrB p k (digsP (m : Int) p k ++ [1])
theorem polC_ok {p : Int} {k n : Nat} {f : List Int} (hm : (p, k) ∈ PKL) (hp : 0 < p) (h : polC p k n f = true) : mkP p k = f := by
  simp only [polC, Bool.and_eq_true, decide_eq_true_eq, List.all_eq_true, List.mem_range, Bool.not_eq_true'] at h
  obtain ⟨⟨h1, h2⟩, h3⟩ := h
  rw [mkP_eq hm (n := n) (by rw [h1]; exact irrB_ok h2) fun m hlt => irrB_no hp (h3 m hlt), h1]
theorem pol_all : (polC 2 1 0 [0, 1] && polC 3 1 0 [0, 1] && polC 2 2 3 [1, 1, 1] && polC 5 1 0 [0, 1] && polC 3 3 7 [1, 2, 0, 1]) = true := by decide +kernel
def qP (q : Nat) : Int := if q = 2 then 2 else if q = 3 then 3 else if q = 4 then 2 else 5
def qK (q : Nat) : Nat := if q = 4 then 2 else 1
def qF (q : Nat) : List Int := if q = 4 then [1, 1, 1] else [0, 1]
theorem q_ok {q : Nat} (h2 : 2 ≤ q) (h5 : q ≤ 5) : (qP q, qK q) ∈ PKL ∧ qP q ^ qK q = (q : Int) ∧ mkP (qP q) (qK q) = qF q := by
  have ha := pol_all
  simp only [Bool.and_eq_true] at ha
  obtain ⟨⟨⟨⟨h1, h2'⟩, h3⟩, h4⟩, _⟩ := ha
  have hq : q = 2 ∨ q = 3 ∨ q = 4 ∨ q = 5 := by omega
  rcases hq with rfl | rfl | rfl | rfl
  · exact ⟨by decide +kernel, by decide +kernel, polC_ok (by decide +kernel) (by decide) h1⟩
  · exact ⟨by decide +kernel, by decide +kernel, polC_ok (by decide +kernel) (by decide) h2'⟩
  · exact ⟨by decide +kernel, by decide +kernel, polC_ok (by decide +kernel) (by decide) h3⟩
  · exact ⟨by decide +kernel, by decide +kernel, polC_ok (by decide +kernel) (by decide) h4⟩
theorem q27 : ((3 : Int), (3 : Nat)) ∈ PKL ∧ (3 : Int) ^ 3 = ((27 : Nat) : Int) ∧ mkP 3 3 = [1, 2, 0, 1] := by
  have ha := pol_all
  simp only [Bool.and_eq_true] at ha
  exact ⟨by decide +kernel, by decide, polC_ok (by decide +kernel) (by decide) ha.2⟩
def affQ (q : Nat) : List (List Int) := affL q (qP q) (qK q) (qF q)
def prjQ (q : Nat) : List (List Int) := prjL q (qP q) (qK q) (qF q)
def triL (v : Nat) : List (List Int) := if v % 6 = 3 then bosL (v / 6) else skoL (v / 6)
def hadF (v : Nat) : List (List Int) := if v = 15 then sylP 4 else palP 3 3 [1, 2, 0, 1] 27
def dirO (c v k l : Nat) : Option (List (List Int)) :=
  if c = 1 then (if l = chP (v - 2) (k - 2) ∧ chP v k ≤ 128 then (alF v k 200 (iotaP k)).map srtR else none)
  else if c = 2 then (if k = 3 ∧ l = 1 ∧ triB v = true then some (srtR (triL v)) else none)
  else if c = 3 then (if l = 1 ∧ v = k * k then some (srtR (affQ k)) else none)
  else if c = 4 then (if l = 1 ∧ v + k = k * k + 1 then some (srtR (prjQ (k - 1))) else none)
  else if c = 5 then (if v = 4 * l + 3 ∧ isP v = true ∧ (sqK v v).length = k then some (srtR (devK v (sqK v v) v)) else none)
  else (if v = 4 * l + 3 ∧ k = 2 * l + 1 then some (srtR (hdL (hadF v))) else none)
/-! what the kernel reckons -/
def comC (v k : Nat) : Bool := decide (v < 3) || decide (k < 2) || decide (v ≤ k) || decide (128 < chP v k) || (match alF v k 200 (iotaP k) with | some L => decide (L.length ≤ 128) && L.all fun s => decide (s.length ≤ 32) | none => false)
theorem com_all : ((List.range 33).all fun v => (List.range 33).all fun k => comC v k) = true := by decide +kernel
theorem com_at {v k : Nat} (h3 : 3 ≤ v) (hv : v ≤ 32) (h2 : 2 ≤ k) (hk : k < v) (h : chP v k ≤ 128) : ∃ L, alF v k 200 (iotaP k) = some L ∧ L.length ≤ 128 ∧ ∀ s ∈ L, s.length ≤ 32 := by
  have a := List.all_eq_true.1 (List.all_eq_true.1 com_all v (List.mem_range.2 (by omega))) k (List.mem_range.2 (by omega))
  unfold comC at a
  have e1 : decide (v < 3) = false := by simp; omega
  have e2 : decide (k < 2) = false := by simp; omega
  have e3 : decide (v ≤ k) = false := by simp; omega
  have e4 : decide (128 < chP v k) = false := by simp; omega
  rw [e1, e2, e3, e4] at a
  cases hL : alF v k 200 (iotaP k) with
  | none => rw [hL] at a; simp at a
  | some L =>
    rw [hL] at a
    simp at a
    exact ⟨L, rfl, a.1, a.2⟩
def sqsC (v : Nat) : Bool := isP v && okS v (sqK v v) && decide ((sqK v v).length = (v - 1) / 2)
theorem sqs_all : ([7, 11, 19, 23, 31].all sqsC && !isP 15 && !isP 27) = true := by decide +kernel
theorem sqs_at {v l : Nat} (h : v = 4 * l + 3) (h1 : 1 ≤ l) (hv : v ≤ 32) (hp : isP v = true) : okS v (sqK v v) = true ∧ (sqK v v).length = (v - 1) / 2 := by
  have ha := sqs_all
  simp only [Bool.and_eq_true, List.all_eq_true, Bool.not_eq_true'] at ha
  have hl : v = 7 ∨ v = 11 ∨ v = 15 ∨ v = 19 ∨ v = 23 ∨ v = 27 ∨ v = 31 := by omega
  have h7 : v ∈ [7, 11, 19, 23, 31] := by
    rcases hl with rfl | rfl | rfl | rfl | rfl | rfl | rfl <;> first | decide | exact absurd (show isP 15 = true from hp) (by rw [ha.1.2]; decide) | exact absurd (show isP 27 = true from hp) (by rw [ha.2]; decide)
  have := ha.1.1 v h7
  simp only [sqsC, Bool.and_eq_true, decide_eq_true_eq] at this
  exact ⟨this.1.2, this.2⟩
theorem not_prime {v l : Nat} (h : v = 4 * l + 3) (h1 : 1 ≤ l) (hv : v ≤ 32) (hp : isP v = false) : v = 15 ∨ v = 27 := by
  have ha := sqs_all
  simp only [Bool.and_eq_true, List.all_eq_true, Bool.not_eq_true'] at ha
  have hl : v = 7 ∨ v = 11 ∨ v = 15 ∨ v = 19 ∨ v = 23 ∨ v = 27 ∨ v = 31 := by omega
  have hn : v ∉ [7, 11, 19, 23, 31] := fun hm => by
    have := ha.1.1 v hm
    simp only [sqsC, Bool.and_eq_true] at this
    rw [this.1.1] at hp
    cases hp
  rcases hl with rfl | rfl | rfl | rfl | rfl | rfl | rfl <;> first | exact .inl rfl | exact .inr rfl | exact absurd (by decide) hn
theorem pp15 : (ppF ((15 : Nat) : Int)).1 = 0 := by
  rw [ppF_in (by decide) (by decide)]
  decide +kernel
theorem dev_cells {v : Nat} (s : List Int) (hs : s.length ≤ 32) (hv : v ≤ 32) : cells (devK v s v) ≤ 1099511627776 := by
  have := cells_le3 (bs := devK v s v) (fun b hb => by
    obtain ⟨r, _, rfl⟩ := List.mem_map.1 hb
    unfold transK mapK
    rw [srt_len, List.length_map]
    exact hs)
  rw [devK_len] at this
  omega
def RetOD (w : World) (v : Nat) (o : Option (List (List Int))) (e : Ending) (w' : World) : Prop :=
  match o with
  | some bs => RetDB w v bs true e w'
  | none => RetDB w 0 [] false e w'
structure InR (v k l : Nat) : Prop where
  v3 : 3 ≤ v
  v32 : v ≤ 32
  k2 : 2 ≤ k
  kv : k < v
  l1 : 1 ≤ l
  l1000 : l ≤ 1000
structure HadOk : Prop where
  h15 : Had (hadF 15) ∧ (hadF 15).length = 16
  h27 : Had (hadF 27) ∧ (hadF 27).length = 28
theorem retDB_code {w : World} {v : Int} {bs : List (List Int)} {b b' : Bool} {e : Ending} {w' : World} (h : RetDB w v bs b e w') (hb : b = b') : RetDB w v bs b' e w' := hb ▸ h
theorem direct_any (hH : HadOk) (c v k l : Nat) (w : World) (hc1 : 1 ≤ c) (hc6 : c ≤ 6) (hr : InR v k l) (hpr : ∀ c', 1 ≤ c' → c' < c → dirO c' v k l = none) :
    Calls Tryz.prog 57 #[.int .i64 c, .int .i64 v, .int .i64 k, .int .i64 l] w (RetOD w v (dirO c v k l)) := by
  obtain ⟨v3, v32, k2, kv, l1, l1000⟩ := hr
  have hc : c = 1 ∨ c = 2 ∨ c = 3 ∨ c = 4 ∨ c = 5 ∨ c = 6 := by omega
  rcases hc with rfl | rfl | rfl | rfl | rfl | rfl
  · by_cases h : l = chP (v - 2) (k - 2) ∧ chP v k ≤ 128
    · obtain ⟨L, e1, e2, e3⟩ := com_at v3 v32 k2 kv h.2
      have hd : dirO 1 v k l = some (srtR L) := by unfold dirO; rw [if_pos rfl, if_pos h, e1]; rfl
      rw [hd, h.1]
      have hce : cells L ≤ 1099511627776 := by have := cells_le3 e3; omega
      exact direct1_yes v k L 200 w v3 v32 k2 kv h.2 (by omega) e1 e2 hce
    · have hd : dirO 1 v k l = none := by unfold dirO; rw [if_pos rfl, if_neg h]
      rw [hd]
      exact direct1_no v k l w v3 v32 k2 kv l1000 h
  · by_cases h : k = 3 ∧ l = 1
    · obtain ⟨rfl, rfl⟩ := h
      cases ht : triB v with
      | true =>
        have hd : dirO 2 v 3 1 = some (srtR (triL v)) := by unfold dirO; rw [if_neg (by decide), if_pos rfl, if_pos ⟨rfl, rfl, ht⟩]
        rw [hd]
        have hb := ht
        simp only [triB, Bool.and_eq_true, Bool.or_eq_true, decide_eq_true_eq] at hb
        refine (direct2_yes v 3 (v : Int) (srtR (triL v)) 0 w v3 v32 k2 kv rfl fun W => ?_).mono fun e w' h => retDB_code h rfl
        rcases hb.2 with h6 | h6
        · have hv : v = 6 * (v / 6) + 1 := by omega
          have := makeTriples_skolem (v / 6) W (by omega) (by omega)
          rw [← hv] at this
          unfold triL
          rw [if_neg (by omega)]
          exact this
        · have hv : v = 6 * (v / 6) + 3 := by omega
          have := makeTriples_bose (v / 6) W (by omega)
          rw [← hv] at this
          unfold triL
          rw [if_pos h6]
          exact this
      | false =>
        have hd : dirO 2 v 3 1 = none := by unfold dirO; rw [if_neg (by decide), if_pos rfl, if_neg (fun h => by rw [ht] at h; exact absurd h.2.2 (by decide))]
        rw [hd]
        exact (direct2_yes v 3 0 [] 2 w v3 v32 k2 kv rfl fun W => makeTriples_no v W (by omega) ht).mono fun e w' h => retDB_code h rfl
    · have hd : dirO 2 v k l = none := by unfold dirO; rw [if_neg (by decide), if_pos rfl, if_neg (fun h' => h ⟨h'.1, h'.2.1⟩)]
      rw [hd]
      exact direct2_no v k l w v3 v32 k2 kv l1000 h
  · by_cases h : l = 1 ∧ v = k * k
    · have hd : dirO 3 v k l = some (srtR (affQ k)) := by unfold dirO; rw [if_neg (by decide), if_neg (by decide), if_pos rfl, if_pos h]
      rw [hd]
      obtain ⟨rfl, hkk⟩ := h
      have k5 : k ≤ 5 := by
        by_cases h6 : 6 ≤ k
        · have : 6 * 6 ≤ k * k := Nat.mul_le_mul h6 h6
          omega
        · omega
      obtain ⟨m1, m2, m3⟩ := q_ok k2 k5
      refine (direct3_yes v k (v : Int) (srtR (affQ k)) 0 w v3 v32 k2 kv hkk fun W => ?_).mono fun e w' h => retDB_code h rfl
      have := affinePlane_any m1 k W m2 k2 k5
      rw [m3, ← hkk] at this
      exact this
    · have hd : dirO 3 v k l = none := by unfold dirO; rw [if_neg (by decide), if_neg (by decide), if_pos rfl, if_neg h]
      rw [hd]
      exact direct3_no v k l w v3 v32 k2 kv l1000 h
  · by_cases h : l = 1 ∧ v + k = k * k + 1
    · have hd : dirO 4 v k l = some (srtR (prjQ (k - 1))) := by unfold dirO; rw [if_neg (by decide), if_neg (by decide), if_neg (by decide), if_pos rfl, if_pos h]
      rw [hd]
      obtain ⟨rfl, hkk⟩ := h
      have k6 : k ≤ 6 := by
        by_cases h7 : 7 ≤ k
        · obtain ⟨j, rfl⟩ : ∃ j, k = j + 7 := ⟨k - 7, by omega⟩
          have e1 : (j + 7) * (j + 7) = (j + 7) * j + (j + 7) * 7 := Nat.mul_add _ _ _
          omega
        · omega
      have k3 : 3 ≤ k := by
        by_cases h2 : k = 2
        · subst h2
          obtain rfl : v = 3 := by omega
          have := hpr 1 (by decide) (by decide)
          obtain ⟨L, e1, _, _⟩ := com_at (v := 3) (k := 2) (by decide) (by decide) (by decide) (by decide) (by decide)
          unfold dirO at this
          rw [if_pos rfl, if_pos ⟨by decide, by decide⟩, e1] at this
          cases this
        · omega
      obtain ⟨q, rfl⟩ : ∃ q, k = q + 1 := ⟨k - 1, by omega⟩
      obtain ⟨m1, m2, m3⟩ := q_ok (q := q) (by omega) (by omega)
      refine (direct4_yes v (q + 1) (v : Int) (srtR (prjQ q)) 0 w v3 v32 k2 kv hkk fun W => ?_).mono fun e w' h => retDB_code h rfl
      have hx := projectivePlane_any m1 q W m2 (by omega) (by omega)
      have hv : q * q + q + 1 = v := by
        have e1 : (q + 1) * (q + 1) = q * q + q + q + 1 := by rw [Nat.add_mul, Nat.mul_add, Nat.mul_add]; omega
        omega
      rw [m3, hv] at hx
      rw [show (((q + 1 : Nat) : Int) - 1) = (q : Int) by omega]
      exact hx
    · have hd : dirO 4 v k l = none := by unfold dirO; rw [if_neg (by decide), if_neg (by decide), if_neg (by decide), if_pos rfl, if_neg h]
      rw [hd]
      exact direct4_no v k l w v3 v32 k2 kv l1000 h
  · by_cases h : v = 4 * l + 3
    · cases hp : isP v with
      | true =>
        obtain ⟨s1, s2⟩ := sqs_at h l1 v32 hp
        by_cases hs : (sqK v v).length = k
        · have hd : dirO 5 v k l = some (srtR (devK v (sqK v v) v)) := by unfold dirO; rw [if_neg (by decide), if_neg (by decide), if_neg (by decide), if_neg (by decide), if_pos rfl, if_pos ⟨h, hp, hs⟩]
          rw [hd]
          exact direct5_yes v k l w v3 v32 k2 kv l1000 h hp hs s1 (dev_cells _ (by omega) v32)
        · have hd : dirO 5 v k l = none := by unfold dirO; rw [if_neg (by decide), if_neg (by decide), if_neg (by decide), if_neg (by decide), if_pos rfl, if_neg (fun h' => hs h'.2.2)]
          rw [hd]
          exact direct5_size v k l w v3 v32 k2 kv l1000 h hp hs
      | false =>
        have hd : dirO 5 v k l = none := by unfold dirO; rw [if_neg (by decide), if_neg (by decide), if_neg (by decide), if_neg (by decide), if_pos rfl, if_neg (fun h' => by rw [hp] at h'; exact absurd h'.2.1 (by decide))]
        rw [hd]
        exact direct5_bad v k l w v3 v32 k2 kv l1000 h hp
    · have hd : dirO 5 v k l = none := by unfold dirO; rw [if_neg (by decide), if_neg (by decide), if_neg (by decide), if_neg (by decide), if_pos rfl, if_neg (fun h' => h h'.1)]
      rw [hd]
      exact direct5_no v k l w v3 v32 k2 kv l1000 h
  · by_cases h : v = 4 * l + 3 ∧ k = 2 * l + 1
    · have hd : dirO 6 v k l = some (srtR (hdL (hadF v))) := by unfold dirO; rw [if_neg (by decide), if_neg (by decide), if_neg (by decide), if_neg (by decide), if_neg (by decide), if_pos h]
      rw [hd]
      have hp : isP v = false := by
        cases hp : isP v with
        | false => rfl
        | true =>
          obtain ⟨s1, s2⟩ := sqs_at h.1 l1 v32 hp
          have := hpr 5 (by decide) (by decide)
          unfold dirO at this
          rw [if_neg (by decide), if_neg (by decide), if_neg (by decide), if_neg (by decide), if_pos rfl, if_pos ⟨h.1, hp, by omega⟩] at this
          cases this
      refine direct6_yes v k l (srtR (hdL (hadF v))) w v3 v32 k2 kv l1000 h.1 h.2 fun W => ?_
      rcases not_prime h.1 l1 v32 hp with rfl | rfl
      · have := hadamardDesign_any 15 4 [] 2 W (.inl ⟨rfl, rfl⟩) (fun W => paleyMatrix_no 15 W (by decide) pp15) rfl hH.h15.1 hH.h15.2
        exact this
      · have := hadamardDesign_any 27 6 (hadF 27) 0 W (.inr ⟨rfl, rfl⟩) (fun W => by
          have := paleyMatrix_any q27.1 27 W q27.2.1 (by decide) (by decide)
          rw [q27.2.2] at this
          exact this) rfl hH.h27.1 hH.h27.2
        exact this
    · have hd : dirO 6 v k l = none := by unfold dirO; rw [if_neg (by decide), if_neg (by decide), if_neg (by decide), if_neg (by decide), if_neg (by decide), if_neg h]
      rw [hd]
      exact direct6_no v k l w v3 v32 k2 kv l1000 h
end Go.Proofs.YtnmcmologlgccaaGreat
namespace Go.Proofs.YtnmcmologlgccaaGreat
def L26 : List Int := [1, 1, 9, 16, 13, 9, 13, 16, 15, 7, 25, 22, 11, 8, 20, 12, 6, 15, 25, 7, 20, 6, 12, 22, 8, 11]
def H28 : List (List Int) := [[1, 1, 1, 1, 1, 1, 1, 1, 1, 1, 1, 1, 1, 1, 1, 1, 1, 1, 1, 1, 1, 1, 1, 1, 1, 1, 1, 1], [1, -1, 1, -1, -1, -1, -1, 1, 1, 1, 1, -1, 1, 1, 1, -1, 1, 1, -1, -1, -1, 1, -1, 1, -1, -1, 1, -1], [1, -1, -1, 1, -1, -1, -1, 1, 1, 1, 1, 1, -1, -1, 1, 1, -1, 1, 1, 1, -1, -1, -1, -1, 1, -1, -1, 1], [1, 1, -1, -1, -1, -1, -1, 1, 1, 1, -1, 1, 1, 1, -1, 1, 1, -1, 1, -1, 1, -1, 1, -1, -1, 1, -1, -1], [1, 1, 1, 1, -1, 1, -1, -1, -1, -1, 1, 1, -1, 1, -1, 1, 1, 1, -1, -1, 1, -1, -1, -1, 1, -1, 1, -1], [1, 1, 1, 1, -1, -1, 1, -1, -1, -1, -1, 1, 1, 1, 1, -1, -1, 1, 1, -1, -1, 1, 1, -1, -1, -1, -1, 1], [1, 1, 1, 1, 1, -1, -1, -1, -1, -1, 1, -1, 1, -1, 1, 1, 1, -1, 1, 1, -1, -1, -1, 1, -1, 1, -1, -1], [1, -1, -1, -1, 1, 1, 1, -1, 1, -1, 1, 1, -1, 1, 1, -1, 1, -1, 1, -1, 1, -1, -1, 1, -1, -1, -1, 1], [1, -1, -1, -1, 1, 1, 1, -1, -1, 1, -1, 1, 1, -1, 1, 1, 1, 1, -1, -1, -1, 1, -1, -1, 1, 1, -1, -1], [1, -1, -1, -1, 1, 1, 1, 1, -1, -1, 1, -1, 1, 1, -1, 1, -1, 1, 1, 1, -1, -1, 1, -1, -1, -1, 1, -1], [1, -1, -1, 1, -1, 1, -1, -1, 1, -1, -1, 1, -1, -1, -1, -1, 1, 1, 1, 1, -1, 1, 1, 1, -1, 1, 1, -1], [1, 1, -1, -1, -1, -1, 1, -1, -1, 1, -1, -1, 1, -1, -1, -1, 1, 1, 1, 1, 1, -1, -1, 1, 1, -1, 1, 1], [1, -1, 1, -1, 1, -1, -1, 1, -1, -1, 1, -1, -1, -1, -1, -1, 1, 1, 1, -1, 1, 1, 1, -1, 1, 1, -1, 1], [1, -1, 1, -1, -1, -1, 1, -1, 1, -1, 1, 1, 1, -1, 1, -1, -1, -1, -1, 1, 1, -1, 1, -1, 1, 1, 1, -1], [1, -1, -1, 1, 1, -1, -1, -1, -1, 1, 1, 1, 1, -1, -1, 1, -1, -1, -1, -1, 1, 1, 1, 1, -1, -1, 1, 1], [1, 1, -1, -1, -1, 1, -1, 1, -1, -1, 1, 1, 1, 1, -1, -1, -1, -1, -1, 1, -1, 1, -1, 1, 1, 1, -1, 1], [1, -1, 1, -1, -1, 1, -1, -1, -1, 1, -1, -1, -1, 1, 1, 1, -1, 1, -1, 1, 1, -1, 1, 1, -1, 1, -1, 1], [1, -1, -1, 1, -1, -1, 1, 1, -1, -1, -1, -1, -1, 1, 1, 1, -1, -1, 1, -1, 1, 1, -1, 1, 1, 1, 1, -1], [1, 1, -1, -1, 1, -1, -1, -1, 1, -1, -1, -1, -1, 1, 1, 1, 1, -1, -1, 1, -1, 1, 1, -1, 1, -1, 1, 1], [1, 1, -1, 1, 1, 1, -1, 1, 1, -1, -1, -1, 1, -1, 1, -1, -1, 1, -1, -1, 1, -1, -1, -1, -1, 1, 1, 1], [1, 1, 1, -1, -1, 1, 1, -1, 1, 1, 1, -1, -1, -1, -1, 1, -1, -1, 1, -1, -1, 1, -1, -1, -1, 1, 1, 1], [1, -1, 1, 1, 1, -1, 1, 1, -1, 1, -1, 1, -1, 1, -1, -1, 1, -1, -1, 1, -1, -1, -1, -1, -1, 1, 1, 1], [1, 1, 1, -1, 1, -1, 1, 1, 1, -1, -1, 1, -1, -1, -1, 1, -1, 1, -1, 1, 1, 1, -1, 1, -1, -1, -1, -1], [1, -1, 1, 1, 1, 1, -1, -1, 1, 1, -1, -1, 1, 1, -1, -1, -1, -1, 1, 1, 1, 1, -1, -1, 1, -1, -1, -1], [1, 1, -1, 1, -1, 1, 1, 1, -1, 1, 1, -1, -1, -1, 1, -1, 1, -1, -1, 1, 1, 1, 1, -1, -1, -1, -1, -1], [1, 1, 1, -1, 1, 1, -1, 1, -1, 1, -1, 1, -1, -1, 1, -1, -1, -1, 1, -1, -1, -1, 1, 1, 1, -1, 1, -1], [1, -1, 1, 1, -1, 1, 1, 1, 1, -1, -1, -1, 1, -1, -1, 1, 1, -1, -1, -1, -1, -1, 1, 1, 1, -1, -1, 1], [1, 1, -1, 1, 1, -1, 1, -1, 1, 1, 1, -1, -1, 1, -1, -1, -1, 1, -1, -1, -1, -1, 1, 1, 1, 1, -1, -1]]
def H16 : List (List Int) := [[1, 1, 1, 1, 1, 1, 1, 1, 1, 1, 1, 1, 1, 1, 1, 1], [1, -1, 1, -1, 1, -1, 1, -1, 1, -1, 1, -1, 1, -1, 1, -1], [1, 1, -1, -1, 1, 1, -1, -1, 1, 1, -1, -1, 1, 1, -1, -1], [1, -1, -1, 1, 1, -1, -1, 1, 1, -1, -1, 1, 1, -1, -1, 1], [1, 1, 1, 1, -1, -1, -1, -1, 1, 1, 1, 1, -1, -1, -1, -1], [1, -1, 1, -1, -1, 1, -1, 1, 1, -1, 1, -1, -1, 1, -1, 1], [1, 1, -1, -1, -1, -1, 1, 1, 1, 1, -1, -1, -1, -1, 1, 1], [1, -1, -1, 1, -1, 1, 1, -1, 1, -1, -1, 1, -1, 1, 1, -1], [1, 1, 1, 1, 1, 1, 1, 1, -1, -1, -1, -1, -1, -1, -1, -1], [1, -1, 1, -1, 1, -1, 1, -1, -1, 1, -1, 1, -1, 1, -1, 1], [1, 1, -1, -1, 1, 1, -1, -1, -1, -1, 1, 1, -1, -1, 1, 1], [1, -1, -1, 1, 1, -1, -1, 1, -1, 1, 1, -1, -1, 1, 1, -1], [1, 1, 1, 1, -1, -1, -1, -1, -1, -1, -1, -1, 1, 1, 1, 1], [1, -1, 1, -1, -1, 1, -1, 1, -1, 1, -1, 1, 1, -1, 1, -1], [1, 1, -1, -1, -1, -1, 1, 1, -1, -1, 1, 1, 1, 1, -1, -1], [1, -1, -1, 1, -1, 1, 1, -1, -1, 1, 1, -1, 1, -1, -1, 1]]
theorem L26_ok : fsqK 3 3 [1, 2, 0, 1] 26 = L26 := by decide +kernel
def palC0 (x y : Nat) : Int := if x = 0 ∨ y = 0 then 1 else if memB L26 (sumP 3 3 2 ((y : Int) - 1) ((x : Int) - 1)) then 1 else -1
theorem H28_ok : fillS palC0 28 28 = H28 := by decide +kernel
theorem H16_ok : sylP 4 = H16 := by decide +kernel
theorem memB_perm {l m : List Int} (h : ∀ x, x ∈ l ↔ x ∈ m) (x : Int) : memB l x = memB m x := by
  rw [Bool.eq_iff_iff, memB_true, memB_true]
  exact h x
theorem had27 : hadF 27 = H28 := by
  rw [← H28_ok]
  unfold hadF
  rw [if_neg (by decide)]
  unfold palP
  have e : palF 3 3 [1, 2, 0, 1] (fsqL 3 3 [1, 2, 0, 1] 27) = palC0 := by
    funext x y
    unfold palF palC0
    rw [memB_perm (m := L26) (fun z => by unfold fsqL; rw [comp_mem, (srt_perm _).mem_iff, L26_ok])]
    rfl
  rw [e]
theorem had15 : hadF 15 = H16 := by
  rw [← H16_ok]
  unfold hadF
  rw [if_pos rfl]
def hadB (h : List (List Int)) : Bool := decide (1 ≤ h.length) && decide (h.length ≤ 32) && ((List.range h.length).all fun i => decide ((row h i).length = h.length) && (List.range h.length).all fun k => nth (row h i) k == 1 || nth (row h i) k == -1) && (List.range h.length).all fun i => (List.range i).all fun k => dotTo (row h i) (row h k) h.length == 0
theorem hadB_ok {h : List (List Int)} (hb : hadB h = true) : Had h := by
  simp only [hadB, Bool.and_eq_true, decide_eq_true_eq, List.all_eq_true, List.mem_range, Bool.or_eq_true, beq_iff_eq] at hb
  obtain ⟨⟨⟨h1, h2⟩, h3⟩, h4⟩ := hb
  exact ⟨h1, h2, fun i hi => ⟨(h3 i hi).1, fun k hk => (h3 i hi).2 k hk⟩, fun i hi k hk => h4 i hi k hk⟩
theorem H_all : (hadB H16 && hadB H28 && decide (H16.length = 16) && decide (H28.length = 28)) = true := by decide +kernel
theorem hadOk : HadOk := by
  have h := H_all
  simp only [Bool.and_eq_true, decide_eq_true_eq] at h
  obtain ⟨⟨⟨h1, h2⟩, h3⟩, h4⟩ := h
  refine ⟨?_, ?_⟩
  · rw [had15]; exact ⟨hadB_ok h1, h3⟩
  · rw [had27]; exact ⟨hadB_ok h2, h4⟩
end Go.Proofs.YtnmcmologlgccaaGreat
