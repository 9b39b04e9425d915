/- CanonicalDesign, the reference's side. No condition beyond those stated. -/
import Derived.Test.YtdkbcjdimhgmnaaGreatRHQ
import Derived.Test.YtdkbcjdimhgmnaaGreatRHR
import Derived.Test.YtdkbcjdimhgmnaaGreatRHD
set_option linter.unusedVariables false
set_option linter.unusedSimpArgs false
namespace Go.Proofs.YtdkbcjdimhgmnaaGreat
open Go.RowKit
noncomputable def cdP (v : Int) (bs : List (List Int)) (b : Int) : List Int := if dK v bs b = 0 then (row (runP (dgC v.toNat bs) (dgE v.toNat bs) b.toNat).best 0).take v.toNat else []
noncomputable def cdV (v : Int) (bs : List (List Int)) (b : Int) : Int := if dK v bs b = 0 then v else 0
noncomputable def cdB (v : Int) (bs : List (List Int)) (b : Int) : List (List Int) := if dK v bs b = 0 then srtR (bs.map (imgR (cdP v bs b))) else []
theorem cd_err {v : Int} {bs : List (List Int)} {b : Int} (h : dK v bs b ≠ 0) : cdV v bs b = 0 ∧ cdB v bs b = [] ∧ cdP v bs b = [] := ⟨by rw [cdV, if_neg h], by rw [cdB, if_neg h], by rw [cdP, if_neg h]⟩
theorem cd_ok {v : Int} {bs : List (List Int)} {b : Int} (h : dK v bs b = 0) : cdV v bs b = v ∧ cdB v bs b = srtR (bs.map (imgR (cdP v bs b))) ∧ cdP v bs b = (row (runP (dgC v.toNat bs) (dgE v.toNat bs) b.toNat).best 0).take v.toNat := ⟨by rw [cdV, if_pos h], by rw [cdB, if_pos h], by rw [cdP, if_pos h]⟩
theorem block_len {v : Nat} {bs : List (List Int)} (h : Design (v : Int) bs) {k : Nat} (hk : k < bs.length) : (row bs k).length ≤ v := by
  obtain ⟨h1, h2⟩ := ds_block h hk
  have hnd : (row bs k).Nodup := h1.imp fun h => by omega
  have hsub : row bs k ⊆ (List.range v).map fun (j : Nat) => (j : Int) := fun x hx => by
    have := h2 x hx
    exact List.mem_map.2 ⟨x.toNat, List.mem_range.2 (by omega), by omega⟩
  have := List.Nodup.length_le_of_subset hnd hsub
  simpa using this
structure Bip (v k : Nat) (es : List Ed) : Prop where
  v1 : 1 ≤ v
  v2 : v ≤ 32
  ok : GraphOk (dsC v k) es
  bi : ∀ e ∈ es, 0 ≤ e.1 ∧ e.1 < (v : Int) ∧ (v : Int) ≤ e.2 ∧ e.2 < ((v + k : Nat) : Int)
  ne : ∀ i, i < k → 0 < (row ((nearP (v + k) es).drop v) i).length
theorem dsC_nth {v m j : Nat} (h : j < v + m) : nth (dsC v m) j = if j < v then 0 else 1 := by
  rw [nth_get (by rw [dsC_len]; exact h)]
  unfold dsC
  rw [List.getElem_append]
  simp only [List.length_replicate, List.getElem_replicate]
  split <;> rfl
theorem Bip.len {v k : Nat} {es : List Ed} (h : Bip v k es) : v + k ≤ 64 := by have := h.ok.clen; rwa [dsC_len] at this
theorem sortOR_any (B : Nat) (A : Option Addr) (n c : Nat) (zss : List (List Int)) (w : World) (ho : OR w B 22 2 A n c zss) (hn : n ≤ 1048576) :
    Calls Tryz.prog 84 #[.slice A n c, .func (.func 85) #[] #[]] w (fun e w' => e = .returned (.tuple #[]) ∧ OR w' B 22 2 A n c (srtR zss) ∧ w.grownBy w' (blk A)) := by
  obtain ⟨vs, h⟩ := ho
  rcases h.os.cases with ⟨rfl, rfl, rfl, _⟩ | ⟨g, cur, rfl, hB, hg, _⟩
  · refine (AnyF.slices_SortFunc_none Tryz.srzL none 0 (.func (.func 85) #[] #[]) w).mono ?_
    rintro e w' ⟨he, rfl⟩
    obtain rfl : zss = [] := List.eq_nil_of_length_eq_zero h.slen
    exact ⟨he, by rw [show srtR [] = [] by simp [srtR]]; exact ⟨vs, h⟩, World.grownBy.refl _ _⟩
  · refine (sortR_own B g n c _ w h.pv hn (Array.getElem?_eq_some_iff.1 hg).1).mono ?_
    rintro e w' ⟨Y, he, hv, hp, hs, hg⟩
    have hz : Y.map (·.2) = srtR zss := srtR_unique (by have := hp.map (·.2); rwa [zip_snd vs zss h.len] at this) hs
    rw [← hz]
    exact ⟨he, ⟨_, h.sorted hp hv hg⟩, hg⟩
set_option maxRecDepth 100000 in
set_option maxHeartbeats 2000000 in
theorem sorted_any (v : Int) (A : Option Addr) (n c : Nat) (zss : List (List Int)) (w : World) (ha : RR w A n zss) (hn : n ≤ 128) (hr : cells zss ≤ 1099511627776) :
    Calls Tryz.prog 77 #[.int .i64 v, .slice A n c] w (fun e w' => ∃ A' c', e = .returned (.tuple #[.agg #[.int .i64 v, .slice A' n c'], .int .i64 0]) ∧ OR w' w.heap.size 22 2 A' n c' (srtR zss) ∧ Below w.heap.size w w') := by
  have hla := Lib.hid ha.len
  have hb0 := below_alloc w (.cells #[.int .i64 0, .slice none 0 0] 56)
  have Y := Blk.new w 56 #[.int .i64 0, .slice none 0 0]
  have hz0 : (w.alloc (.cells #[.int .i64 0, .slice none 0 0] 56)).heap.size = w.heap.size + 1 := by simp
  have HZ := Lib.hid hz0
  clear hz0
  have hcp := copyLists_any A n c zss (w.alloc (.cells #[.int .i64 0, .slice none 0 0] 56)) (ha.keep hb0) (by omega) hr
  go_enter Tryz.func77, Tryz.ntmps77
  go_wp2_with fail
  refine hcp.mono ?_
  rintro e w1 ⟨A1, n1, c1, rfl, ho1, hb1⟩
  obtain rfl : n1 = n := by rw [← ho1.len, hla.out]
  have hw1 := hb0.trans (hb1.mono hb0.size)
  have Y1 := Y.after hb1
  have hal := below_alloc w1 (.cells #[.int .i64 v, .slice A1 n1 c1] 56)
  have G := Blk.new w1 56 #[.int .i64 v, .slice A1 n1 c1]
  have Y2 := Y1.after hal
  have ho2 := ho1.below hal
  have hw2 := hw1.trans (hal.mono hw1.size)
  have hlY := Y1.lt
  have hA1 : ∀ b, blk A1 = some b → w.heap.size + 1 ≤ b ∧ b < w1.heap.size := fun b hb => by
    obtain ⟨vs1, hv1⟩ := ho1
    have := hv1.os.lt hb
    rw [HZ.out] at this
    exact this
  have hso := sortOR_any _ A1 n1 c1 _ _ ho2 (by omega)
  obtain ⟨g0, g1⟩ := G.cells2
  have HA1 := Lib.hid hA1
  clear hcp ho1 hA1
  go_wp2_with fail
  refine hso.mono ?_
  rintro e w3 ⟨rfl, ho3, hg3⟩
  have G3 := G.grown hg3 (fun e => by have := (HA1.out _ e.symm).2; omega)
  have Y3 := Y2.grown hg3 (fun e => by have := (HA1.out _ e.symm).1; omega)
  have hw3 := below_own hw2 hg3 hw2.size (fun b hb => by have := (HA1.out b hb).1; omega)
  clear hso hg3 g0 g1 ho2
  obtain ⟨g0, g1⟩ := G3.cells2
  obtain ⟨y0, y1⟩ := Y3.cells2
  have f0 := Y3.frozen 0
  have f1 := Y3.frozen 1
  have YF := (Y3.set_ 0 (.int .i64 v)).set_ 1 (.slice A1 n1 c1)
  obtain ⟨z0, z1⟩ : ((w3.setCell ⟨w.heap.size, 0, none⟩ (.int .i64 v)).setCell ⟨w.heap.size, 1, none⟩ (.slice A1 n1 c1)).cell? ⟨w.heap.size, 0, none⟩ = some (.int .i64 v) ∧ ((w3.setCell ⟨w.heap.size, 0, none⟩ (.int .i64 v)).setCell ⟨w.heap.size, 1, none⟩ (.slice A1 n1 c1)).cell? ⟨w.heap.size, 1, none⟩ = some (.slice A1 n1 c1) := ⟨YF.cell 0, YF.cell 1⟩
  go_wp2
  refine bodyPost_ret (v := .tuple #[.agg #[.int .i64 v, .slice A1 n1 c1], .int .i64 0]) (by simp [results, Tryz.results77, go_sem, z0, z1]) rfl ?_
  refine ⟨A1, c1, rfl, ?_, (hw3.setCell (p := ⟨w.heap.size, 0, none⟩) (by simp) _).setCell (p := ⟨w.heap.size, 1, none⟩) (by simp) _⟩
  refine OR.more ((ho3.setLow (p := ⟨w.heap.size, 0, none⟩) ?_ _).setLow (p := ⟨w.heap.size, 1, none⟩) ?_ _) (by rw [HZ.out]; omega)
  all_goals
    rw [HZ.out]
    show w.heap.size < w.heap.size + 1
    omega
def zeros (v j : Nat) : Nat := min j v
set_option maxRecDepth 100000 in
set_option maxHeartbeats 400000 in
theorem emptyList_any (B : Option Addr) (n c : Nat) (z : List Int) (w : World) (hz : RI w B n z) (hn : n ≤ c) (hc : c ≤ 9223372036854775807) :
    Calls Tryz.prog 76 #[.slice B n c] w (RetB w (z.length == 0)) := by
  have hl := Lib.hid hz.len
  by_cases h : n = 0
  · have HE := Lib.hid (show (z.length == 0) = true by rw [hl.out, h]; rfl)
    have h' : ((n : Int) == 0) = true := by simp [h]
    clear h
    go_enter Tryz.func76, Tryz.ntmps76
    go_wp2
    go_ret
    exact ⟨by rw [HE.out]; rfl, Below.refl _ _⟩
  · have HE := Lib.hid (show (z.length == 0) = false by rw [hl.out]; simpa using h)
    have h' : ((n : Int) == 0) = false := by simp [h]
    clear h
    go_enter Tryz.func76, Tryz.ntmps76
    go_wp2
    go_ret
    exact ⟨by rw [HE.out]; rfl, Below.refl _ _⟩
theorem cells_small {l : List (List Int)} {k : Nat} (h : ∀ r ∈ l, r.length ≤ k) : cells l ≤ l.length * k := by
  induction l with
  | nil => simp [cells]
  | cons r l ih =>
    have h1 := ih fun x hx => h x (List.mem_cons_of_mem _ hx)
    have h2 := h r List.mem_cons_self
    rw [show r :: l = [r] ++ l from rfl, cells_app, cells_one, List.length_append, List.length_singleton, Nat.add_mul]
    omega
set_option maxRecDepth 100000 in
set_option maxHeartbeats 4000000 in
theorem designOfGraph_at (A : Option Addr) (n c : Nat) (F : Option Addr) (m d : Nat) (v k : Nat) (es : List Ed) (w : World) (hG : RG w A n F m (dsC v k) es) (hb : Bip v k es) :
    Calls Tryz.prog 26 #[.agg #[.slice A n c, .slice F m d]] w (fun e w' => ∃ A' n' c', e = .returned (.tuple #[.agg #[.int .i64 v, .slice A' n' c'], .int .i64 0]) ∧ OR w' w.heap.size 22 2 A' n' c' (srtR ((nearP (v + k) es).drop v)) ∧ Below w.heap.size w w') := by
  have hlc := hG.ri.len
  have hle := hG.re.len
  have hl64 := hb.len
  rw [dsC_len] at hlc
  have hm512 : m ≤ 512 := by rw [← hle]; exact hb.ok.elen
  obtain ⟨hv1, hv2⟩ : 1 ≤ v ∧ v ≤ 32 := ⟨hb.v1, hb.v2⟩
  have HB := Lib.hid hb
  have HLE := Lib.hid hle
  subst hlc
  clear hb hle
  have hb1 := below_then (below_alloc w (.cells #[.slice A (v + k) c, .slice F m d] 46)) (below_alloc _ (.cells #[.int .i64 0, .slice none 0 0] 56))
  have X := (Blk.new w 46 #[.slice A (v + k) c, .slice F m d]).alloc (.cells #[.int .i64 0, .slice none 0 0] 56)
  have Y : Blk ((w.alloc (.cells #[.slice A (v + k) c, .slice F m d] 46)).alloc (.cells #[.int .i64 0, .slice none 0 0] 56)) (w.heap.size + 1) 56 #[.int .i64 0, .slice none 0 0] := by
    have := Blk.new (w.alloc (.cells #[.slice A (v + k) c, .slice F m d] 46)) 56 #[.int .i64 0, .slice none 0 0]
    simpa using this
  generalize hW1 : (w.alloc (.cells #[.slice A (v + k) c, .slice F m d] 46)).alloc (.cells #[.int .i64 0, .slice none 0 0] 56) = W1 at *
  have hvg := validGraph_any A (v + k) c F m d (dsC v k) es W1 (hG.keep hb1) (by omega) (by omega)
  rw [tB_yes HB.out.ok] at hvg
  obtain ⟨x0, x1⟩ := X.cells2
  go_enter Tryz.func26, Tryz.ntmps26
  go_wp2_with fail
  refine hvg.mono ?_
  rintro e w2 ⟨rfl, hb2⟩
  have hw2 := hb1.trans (hb2.mono hb1.size)
  have X2 := X.after hb2
  have Y2 := Y.after hb2
  have hG2 := hG.keep hw2
  clear hvg x0 x1 hb2 X Y hW1
  obtain ⟨x0, x1⟩ := X2.cells2
  go_wp2
  go_loopw [4, 6, 18] (fun t _ i wr => ∃ j : Nat, j ≤ v + k ∧ i = .int .i64 j ∧ t = .int .i64 (zeros v j) ∧ Below w2.heap.size w2 wr) (fun _ _ i _ => v + k - (intOf i).toNat)
  case atStart => exact ⟨0, Nat.zero_le _, rfl, by simp [zeros], Below.refl _ _⟩
  case round =>
    obtain ⟨j, hj, rfl, rfl, hw⟩ := hrel
    have X3 := X2.after hw
    clear x0 x1
    obtain ⟨x0, x1⟩ := X3.cells2
    by_cases hlt : j < v + k
    · obtain ⟨a, rfl, hca, -⟩ := (hG2.ri.keep hw).get hlt
      rw [dsC_nth hlt] at hca
      by_cases hz : j < v
      · rw [if_pos hz] at hca
        have HZ := Lib.hid (show zeros v j + 1 = zeros v (j + 1) by unfold zeros; omega)
        have hzb : zeros v j ≤ 32 := by unfold zeros; omega
        have hlt2 : (j : Int) < (v : Int) + (k : Int) := by omega
        go_wp2
        go_roundw
        case rel => exact ⟨j + 1, by omega, by go_num, by rw [← HZ.out]; simp, hw⟩
        case measure => simp [intOf]; omega
      · rw [if_neg hz] at hca
        have HZ := Lib.hid (show zeros v j = zeros v (j + 1) by unfold zeros; omega)
        have hlt2 : (j : Int) < (v : Int) + (k : Int) := by omega
        go_wp2
        go_roundw
        case rel => exact ⟨j + 1, by omega, by go_num, by rw [← HZ.out], hw⟩
        case measure => simp [intOf]; omega
    · obtain rfl : j = v + k := by omega
      have hzz : zeros v (v + k) = v := by unfold zeros; omega
      rw [hzz]
      have hsz := sizeI_any A (v + k) c wr (by omega)
      clear hzz
      have hlt2 : ¬ ((v + k : Nat) : Int) < (v : Int) + (k : Int) := by omega
      go_wp2_with fail
      refine hsz.mono ?_
      rintro e w' ⟨rfl, rfl⟩
      have hW := hw2.trans (hw.mono hw2.size)
      have hGr := hG2.keep hw
      have HTC : Hid (∀ w', Calls Tryz.prog 72 #[.int .i64 v, .int .i64 ((v : Int) + k - v)] w' (fun e w3 => ∃ A c, e = .returned (.slice A (v + k) c) ∧ OI w3 w'.heap.size 2 A (v + k) c (dsC v k) ∧ Below w'.heap.size w' w3)) := Lib.hid (fun (w' : World) => by rw [show (v : Int) + k - v = k by omega]; exact twoColors_any v k w' (by omega))
      have HEQ := Lib.hid (fun (w' : World) (B : Option Addr) (nn cc : Nat) (xs : List Int) (hb : Below wr.heap.size wr w') (h : RI w' B nn xs) (h1 : nn ≤ 9223372036854775807) => slicesEqual_any A B (v + k) nn c cc (dsC v k) xs w' (hGr.ri.keep hb) h (by omega) h1)
      clear hsz hlt2 hG2 X2
      go_wp2
      go_region_held_law (fun w' => Below wr.heap.size wr w' ∧ w'.cell? ⟨w.heap.size, 0, none⟩ = some (.slice A (v + k) c))
        (first | exact ⟨below_drewn _ 1, x0⟩ | exact ⟨by assumption, below_cell (by assumption) x0⟩)
        (first | (go_at_call 72; (with_reducible refine (HTC.out _).mono ?_); rintro e w3 ⟨A3, c3, rfl, ho3, hb3⟩; have hX3 : Below wr.heap.size wr w3 := (below_drewn _ 1).trans (hb3.mono (Nat.le_refl _))) | (go_at_call 71; (with_reducible refine (HEQ.out _ _ _ _ (dsC v k) ?_ ?_ ?_).mono ?_); (exact hX3); (exact ho3.reads); (omega); (rintro e w4 ⟨rfl, hd4⟩); have hX4 : Below wr.heap.size wr w4 := hX3.trans (hd4.below.mono hX3.size)) | (go_at_call 73; (with_reducible refine (within_any _ _ _ _).mono ?_); rintro e w' ⟨rfl, rfl⟩; rw [show inB (v : Int) 1 32 = true by simp [inB]; omega]))
      have hw4 := hW.trans (hX4.mono hW.size)
      have Y4 := Y2.after (hw.trans (hX4.mono hw.size))
      have X4 := X3.after hX4
      have hG4 := hGr.keep hX4
      clear hd4 hX4 hX3 hb3 ho3 HTC HEQ hGr hW X3 x0 x1 Y2 hw hw2
      obtain ⟨x0, x1⟩ := X4.cells2
      have hEd := graph_edges HB.out.ok
      rw [dsC_len] at hEd
      have HE := Lib.hid hEd.inn
      have HEd := Lib.hid hEd
      clear hEd
      go_wp2
      go_loopw [48] (fun i wr => ∃ j : Nat, j ≤ m ∧ i = .int .i64 j ∧ Below w4.heap.size w4 wr) (fun i _ => m - (intOf i).toNat)
      case atStart => exact ⟨0, Nat.zero_le _, rfl, Below.refl _ _⟩
      case round =>
        obtain ⟨j, hj, rfl, hw⟩ := hrel
        have Xr := X4.after hw
        by_cases hjm : j < m
        · obtain ⟨ge, oe, rfl, ce1, ce2, i1, i2⟩ := hG4.re.get hjm
          obtain ⟨x, y, hx, hy, hxn, hyn⟩ := HE.out j (by rw [HLE.out]; exact hjm)
          obtain ⟨hxv, hyv⟩ : x < v ∧ v ≤ y := by
            have := HB.out.bi (nthE es j) (by rw [nthE_get (by rw [HLE.out]; exact hjm)]; exact List.getElem_mem _)
            rw [hx, hy] at this
            omega
          rw [hx] at ce1
          rw [hy] at ce2
          clear i1 i2 hx hy
          have c1 := below_cell hw ce1
          have c2 := below_cell hw ce2
          have hb1 := below_alloc wr (.cells #[.int .i64 (x : Int), .int .i64 (y : Int)] 113)
          have E1 := Blk.new wr 113 #[.int .i64 (x : Int), .int .i64 (y : Int)]
          have X5 := Xr.after hb1
          have hw5 := hw.trans (hb1.mono hw.size)
          have hri := (hG4.ri.keep hw).keep hb1
          obtain ⟨ii, hi, hi0, hi1, hi2⟩ := info_parts edge_info
          obtain ⟨ad, hA, cx, -⟩ := hri.get (k := x) (by omega)
          obtain ⟨ad', hA', cy, -⟩ := hri.get (k := y) (by omega)
          subst hA
          cases hA'
          rw [dsC_nth (by omega), if_pos hxv] at cx
          rw [dsC_nth (by omega), if_neg (by omega)] at cy
          obtain ⟨z0, z1⟩ := X5.cells2
          obtain ⟨y0, y1⟩ := E1.cells2
          clear x0 x1 hb1 hri ce1 ce2
          generalize hW : wr.alloc (.cells #[.int .i64 (x : Int), .int .i64 (y : Int)] 113) = W at *
          go_wp2
          go_quiet (fail)
          go_wp2
          go_roundw
          case rel => exact ⟨j + 1, by omega, by go_num, hw5.trans ((below_drewn _ _).mono hw5.size)⟩
          case measure => simp [intOf]; omega
        · obtain rfl : j = m := by omega
          have HNL := neighborLists_any A (v + k) c F j d (dsC v k) es wr (hG4.keep hw) (by omega) (by omega) HEd.out
          have hw5 := hw4.trans (hw.mono hw4.size)
          have Y5 := Y4.after hw
          obtain ⟨x0', x1'⟩ := Xr.cells2
          clear x0 x1 hw X4 hG4
          go_wp2_with fail
          refine HNL.mono ?_
          rintro e w6 ⟨A6, n6, c6, rfl, ho6, hb6⟩
          have hw6 := hw5.trans (hb6.mono hw5.size)
          have Y6 := Y5.after hb6
          have hr6 := ho6.reads
          clear HNL x0' x1' Y5 hw5
          obtain rfl : n6 = v + k := by rw [← hr6.len, nearP_len]
          have hww := hw6.size
          have HN : Hid (((nearP (v + k) es).drop v).any (fun z => z.length == 0) = false) := Lib.hid (by
            rw [List.any_eq_false]
            intro z hz
            obtain ⟨i, hi, rfl⟩ := List.mem_iff_getElem.1 hz
            rw [List.length_drop, nearP_len] at hi
            have := HB.out.ne i (by omega)
            rw [row_get (by rw [List.length_drop, nearP_len]; exact hi)] at this
            simpa using Nat.pos_iff_ne_zero.1 this)
          have HC : Hid (cells ((nearP (v + k) es).drop v) ≤ 1099511627776) := Lib.hid (by
            have h1 := cells_small (l := (nearP (v + k) es).drop v) (k := 64) (fun r hr => by
              obtain ⟨a, ha, rfl⟩ := List.mem_map.1 (List.mem_of_mem_drop hr)
              exact Nat.le_trans (nearV_len _ _ _) hl64)
            rw [List.length_drop, nearP_len] at h1
            have : (v + k - v) * 64 ≤ 64 * 64 := Nat.mul_le_mul_right _ (by omega)
            omega)
          obtain ⟨g, hA6, hnc, hcc⟩ : ∃ g, A6 = some ⟨g, 0, none⟩ ∧ v + k ≤ c6 ∧ c6 ≤ 9223372036854775807 := by
            obtain ⟨vs, hv⟩ := ho6
            obtain ⟨h1, h2⟩ := hv.os.cap
            rcases hv.os.cases with ⟨_, hn, _⟩ | ⟨g, cur, h, _⟩
            · omega
            · exact ⟨g, h, h1, h2⟩
          subst hA6
          have hrd := hr6.drop_ (k := v) (by omega)
          have hzl : ((nearP (v + k) es).drop v).length = k := by rw [List.length_drop, nearP_len]; omega
          have eg : ∀ (args : Array Value) (w : World), (callFunc 76 args).run Tryz.prog w = .ok (.enter 76 args) w := fun _ _ => by kernel_rfl
          have hask : AskR 76 #[] (fun z => z.length == 0) w6 := fun A' n' c' z W hW hz h2 h3 => emptyList_any A' n' c' z W hz h2 h3
          clear hr6 ho6 hb6
          generalize hzz : (nearP (v + k) es).drop v = zz at *
          have HZ := Lib.hid hzz
          clear hzz
          by_cases hvc : v < c6
          · have hrd : RR w6 (some ⟨g, v, none⟩) k zz := by
              rw [show v + k - v = k by omega, show (⟨g, 0, none⟩ : Addr).add v = ⟨g, v, none⟩ by simp [Addr.add]; omega] at hrd
              exact hrd
            go_wp2_with (first
              | (go_at_call 75; refine (containsFuncR _ _ eg (fun z => z.length == 0) (some ⟨g, v, none⟩) k (c6 - v) zz _ hrd (by omega) hask).mono ?_; rintro e w7 ⟨rfl, hb7⟩; rw [HN.out])
              | (go_at_call 77; refine (sorted_any v (some ⟨g, v, none⟩) k (c6 - v) zz _ (hrd.keep hb7) (by omega) HC.out).mono ?_; rintro e w8 ⟨A8, c8, rfl, ho8, hb8⟩; have hw7 := hw6.trans (hb7.mono hw6.size); have hw8 := hw7.trans (hb8.mono hw7.size); have Y8 := (Y6.after hb7).after hb8; have hY7 := Lib.hid (Y6.after hb7).lt; obtain ⟨y0, y1⟩ := Y8.cells2; have f0 := Y8.frozen 0; have f1 := Y8.frozen 1; have YF := (Y8.set_ 0 (.int .i64 v)).set_ 1 (.slice A8 k c8); obtain ⟨z0, z1⟩ : ((w8.setCell ⟨w.heap.size + 1, 0, none⟩ (.int .i64 v)).setCell ⟨w.heap.size + 1, 1, none⟩ (.slice A8 k c8)).cell? ⟨w.heap.size + 1, 0, none⟩ = some (.int .i64 v) ∧ ((w8.setCell ⟨w.heap.size + 1, 0, none⟩ (.int .i64 v)).setCell ⟨w.heap.size + 1, 1, none⟩ (.slice A8 k c8)).cell? ⟨w.heap.size + 1, 1, none⟩ = some (.slice A8 k c8) := ⟨YF.cell 0, YF.cell 1⟩))
            refine bodyPost_ret (v := .tuple #[.agg #[.int .i64 v, .slice A8 k c8], .int .i64 0]) (by simp [results, Tryz.results26, go_sem, z0, z1]) rfl ?_
            refine ⟨A8, k, c8, rfl, ?_, (hw8.setCell (p := ⟨w.heap.size + 1, 0, none⟩) (by simp) _).setCell (p := ⟨w.heap.size + 1, 1, none⟩) (by simp) _⟩
            rw [HZ.out]
            exact OR.more ((ho8.setLow (p := ⟨w.heap.size + 1, 0, none⟩) hY7.out _).setLow (p := ⟨w.heap.size + 1, 1, none⟩) hY7.out _) hw7.size
          · obtain rfl : k = 0 := by omega
            obtain rfl : c6 = v := by omega
            obtain rfl : zz = [] := List.eq_nil_of_length_eq_zero hzl
            have hrd : RR w6 (some ⟨g, 0, none⟩) 0 [] := ⟨rfl, fun j z hz => by simp at hz⟩
            go_wp2_with (first
              | (go_at_call 75; refine (containsFuncR _ _ eg (fun z => z.length == 0) (some ⟨g, 0, none⟩) 0 0 [] _ hrd (by omega) hask).mono ?_; rintro e w7 ⟨rfl, hb7⟩; rw [HN.out])
              | (go_at_call 77; refine (sorted_any c6 (some ⟨g, 0, none⟩) 0 0 [] _ (hrd.keep hb7) (by omega) HC.out).mono ?_; rintro e w8 ⟨A8, c8, rfl, ho8, hb8⟩; have hw7 := hw6.trans (hb7.mono hw6.size); have hw8 := hw7.trans (hb8.mono hw7.size); have Y8 := (Y6.after hb7).after hb8; have hY7 := Lib.hid (Y6.after hb7).lt; obtain ⟨y0, y1⟩ := Y8.cells2; have f0 := Y8.frozen 0; have f1 := Y8.frozen 1; have YF := (Y8.set_ 0 (.int .i64 c6)).set_ 1 (.slice A8 0 c8); obtain ⟨z0, z1⟩ : ((w8.setCell ⟨w.heap.size + 1, 0, none⟩ (.int .i64 c6)).setCell ⟨w.heap.size + 1, 1, none⟩ (.slice A8 0 c8)).cell? ⟨w.heap.size + 1, 0, none⟩ = some (.int .i64 c6) ∧ ((w8.setCell ⟨w.heap.size + 1, 0, none⟩ (.int .i64 c6)).setCell ⟨w.heap.size + 1, 1, none⟩ (.slice A8 0 c8)).cell? ⟨w.heap.size + 1, 1, none⟩ = some (.slice A8 0 c8) := ⟨YF.cell 0, YF.cell 1⟩))
            refine bodyPost_ret (v := .tuple #[.agg #[.int .i64 c6, .slice A8 0 c8], .int .i64 0]) (by simp [results, Tryz.results26, go_sem, z0, z1]) rfl ?_
            refine ⟨A8, 0, c8, rfl, ?_, (hw8.setCell (p := ⟨w.heap.size + 1, 0, none⟩) (by simp) _).setCell (p := ⟨w.heap.size + 1, 1, none⟩) (by simp) _⟩
            rw [HZ.out]
            exact OR.more ((ho8.setLow (p := ⟨w.heap.size + 1, 0, none⟩) hY7.out _).setLow (p := ⟨w.heap.size + 1, 1, none⟩) hY7.out _) hw7.size
end Go.Proofs.YtdkbcjdimhgmnaaGreat
