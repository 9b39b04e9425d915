/- Designs: whether blocks are one, on both sides. No condition beyond those stated. -/
import Derived.Test.YtdkbcjdimhgmnaaGreatSHG
set_option linter.unusedVariables false
set_option linter.unusedSimpArgs false
namespace Go.Proofs.YtdkbcjdimhgmnaaGreat
open Go.RowKit
end Go.Proofs.YtdkbcjdimhgmnaaGreat
namespace Go.Proofs.YtdkbcjdimhgmnaaGreat
def dsC (v m : Nat) : List Int := List.replicate v 0 ++ List.replicate m 1
theorem dsC_len (v m : Nat) : (dsC v m).length = v + m := by simp [dsC]
def dsJ (v : Nat) (bs : List (List Int)) (k j : Nat) : List Ed := ((row bs k).take j).map fun x => (x, ((v + k : Nat) : Int))
def dsK (v : Nat) (bs : List (List Int)) (k : Nat) : List Ed := (List.range k).flatMap fun i => (row bs i).map fun x => (x, ((v + i : Nat) : Int))
theorem dsK_step (v : Nat) (bs : List (List Int)) (k : Nat) : dsK v bs (k + 1) = dsK v bs k ++ dsJ v bs k (row bs k).length := by
  unfold dsK dsJ
  rw [List.take_length, List.range_succ, List.flatMap_append]
  simp
theorem dsJ_zero (v : Nat) (bs : List (List Int)) (k : Nat) : dsJ v bs k 0 = [] := by simp [dsJ]
theorem dsJ_step (v : Nat) (bs : List (List Int)) {k j : Nat} (h : j < (row bs k).length) : dsJ v bs k (j + 1) = dsJ v bs k j ++ [(nth (row bs k) j, ((v + k : Nat) : Int))] := by
  unfold dsJ
  rw [List.take_succ_eq_append_getElem h, List.map_append, nth_get h]
  rfl
def dsX (v : Nat) (bs : List (List Int)) (x j : Nat) : List Ed := ((List.range j).filter fun i => (row bs i).contains (x : Int)).map fun i => ((x : Int), ((v + i : Nat) : Int))
def dsE (v : Nat) (bs : List (List Int)) (k : Nat) : List Ed := (List.range k).flatMap fun x => dsX v bs x bs.length
theorem dsE_step (v : Nat) (bs : List (List Int)) (k : Nat) : dsE v bs (k + 1) = dsE v bs k ++ dsX v bs k bs.length := by simp [dsE, List.range_succ, List.flatMap_append]
theorem dsX_len (v : Nat) (bs : List (List Int)) (x j : Nat) : (dsX v bs x j).length ≤ j := by
  unfold dsX
  rw [List.length_map]
  exact Nat.le_trans (List.length_filter_le _ _) (by simp)
theorem dsE_len (v : Nat) (bs : List (List Int)) (k : Nat) : (dsE v bs k).length ≤ k * bs.length := by
  induction k with
  | zero => simp [dsE]
  | succ k ih =>
    have := dsX_len v bs k bs.length
    rw [dsE_step, List.length_append, Nat.succ_mul]; omega
structure Sets (v : Nat) (bs : List (List Int)) : Prop where
  v2 : (v : Int) ≤ 32
  len : bs.length ≤ 256
  blk : ∀ i, i < bs.length → (row bs i).Pairwise (fun x y => x < y) ∧ ∀ x ∈ row bs i, 0 ≤ x ∧ x < (v : Int)
  short : ∀ i, i < bs.length → (row bs i).length ≤ 32
section
variable {v : Nat} {bs : List (List Int)}
theorem dsK_mem (e : Ed) : e ∈ dsK v bs bs.length ↔ ∃ i, i < bs.length ∧ e.1 ∈ row bs i ∧ e.2 = ((v + i : Nat) : Int) := by
  unfold dsK
  simp only [List.mem_flatMap, List.mem_range, List.mem_map]
  constructor
  · rintro ⟨i, hi, x, hx, rfl⟩; exact ⟨i, hi, hx, rfl⟩
  · rintro ⟨i, hi, hx, he⟩; exact ⟨i, hi, e.1, hx, Prod.ext rfl he.symm⟩
theorem dsE_mem (e : Ed) : e ∈ dsE v bs v ↔ ∃ x i : Nat, x < v ∧ i < bs.length ∧ (x : Int) ∈ row bs i ∧ e = ((x : Int), ((v + i : Nat) : Int)) := by
  unfold dsE dsX
  simp only [List.mem_flatMap, List.mem_range, List.mem_map, List.mem_filter]
  constructor
  · rintro ⟨x, hx, i, ⟨hi, hh⟩, rfl⟩; exact ⟨x, i, hx, hi, by simpa using hh, rfl⟩
  · rintro ⟨x, i, hx, hi, hh, rfl⟩; exact ⟨x, hx, i, ⟨hi, by simpa using hh⟩, rfl⟩
theorem dsE_strict : StrictL cmpE (dsE v bs v) := by
  unfold StrictL dsE
  rw [List.pairwise_flatMap]
  refine ⟨fun x _ => ?_, List.pairwise_lt_range.imp fun {x y} hxy u hu w hw => ?_⟩
  · unfold dsX
    rw [List.pairwise_map]
    refine (List.pairwise_lt_range.filter _).imp fun {i j} h => (cmpE_neg _ _).2 ?_
    exact .inr ⟨rfl, by simp only []; omega⟩
  · unfold dsX at hu hw
    obtain ⟨_, _, rfl⟩ := List.mem_map.1 hu
    obtain ⟨_, _, rfl⟩ := List.mem_map.1 hw
    exact (cmpE_neg _ _).2 (.inl (by simp only []; omega))
theorem ds_same (h : Sets v bs) (e : Ed) : e ∈ dsE v bs v ↔ e ∈ dsK v bs bs.length := by
  rw [dsE_mem, dsK_mem]
  constructor
  · rintro ⟨x, i, hx, hi, hh, rfl⟩; exact ⟨i, hi, hh, rfl⟩
  · rintro ⟨i, hi, hh, he⟩
    have := (h.blk _ hi).2 _ hh
    refine ⟨e.1.toNat, i, by omega, hi, by rw [Int.toNat_of_nonneg this.1]; exact hh, ?_⟩
    rw [Int.toNat_of_nonneg this.1]
    exact Prod.ext rfl he
theorem ds_edges (h : Sets v bs) : setG cmpE (dsK v bs bs.length) = dsE v bs v := setG_eq cmpE_ord dsE_strict (ds_same h)
theorem dsK_lt (h : Sets v bs) : ∀ e ∈ dsK v bs bs.length, 0 ≤ e.1 ∧ e.1 < e.2 := fun e he => by
  obtain ⟨i, hi, hh, h2⟩ := (dsK_mem e).1 he
  have := (h.blk _ hi).2 _ hh
  omega
theorem dsK_nodup (h : Sets v bs) : (dsK v bs bs.length).Nodup := by
  unfold dsK
  rw [List.Nodup, List.pairwise_flatMap]
  refine ⟨fun i hi => ?_, List.pairwise_lt_range.imp fun {i j} hij u hu w hw => ?_⟩
  · rw [List.pairwise_map]
    refine (h.blk _ (List.mem_range.1 hi)).1.imp fun {x y} hxy e => ?_
    simp only [Prod.mk.injEq] at e
    omega
  · obtain ⟨_, _, rfl⟩ := List.mem_map.1 hu
    obtain ⟨_, _, rfl⟩ := List.mem_map.1 hw
    intro e
    simp only [Prod.mk.injEq] at e
    omega
theorem ds_length (h : Sets v bs) : (dsK v bs bs.length).length = (dsE v bs v).length :=
  ((List.perm_ext_iff_of_nodup (dsK_nodup h) (strict_nodup cmpE_ord dsE_strict)).2 fun e => (ds_same h e).symm).length_eq
end
end Go.Proofs.YtdkbcjdimhgmnaaGreat
namespace Go.Proofs.YtdkbcjdimhgmnaaGreat
open Go.RowKit
def twoTo (z o k : Nat) : List Int := List.replicate z 0 ++ (List.replicate k 1 ++ List.replicate (o - k) 0)
theorem twoTo_zero (z o : Nat) : twoTo z o 0 = List.replicate (z + o) 0 := by simp [twoTo]
theorem twoTo_all (z o : Nat) : twoTo z o o = dsC z o := by simp [twoTo, dsC]
theorem twoTo_step {z o k : Nat} (h : k < o) : (twoTo z o k).set (z + k) 1 = twoTo z o (k + 1) := by
  unfold twoTo
  rw [List.set_append_right _ _ (by simp), List.length_replicate, Nat.add_sub_cancel_left, List.set_append_right _ _ (by simp), List.length_replicate, Nat.sub_self, show o - k = (o - (k + 1)) + 1 by omega, List.replicate_succ, List.set_cons_zero, List.replicate_succ', List.append_assoc]
  rfl
theorem twoTo_at {z o j : Nat} (h1 : z ≤ j) (h2 : j < z + o) : (twoTo z o (j - z)).set j 1 = twoTo z o (j + 1 - z) := by
  have := twoTo_step (z := z) (o := o) (k := j - z) (by omega)
  rw [show z + (j - z) = j by omega, show j - z + 1 = j + 1 - z by omega] at this
  exact this
set_option maxRecDepth 100000 in
set_option maxHeartbeats 1000000 in
theorem twoColors_any (z o : Nat) (w : World) (h : z + o ≤ 4096) :
    Calls Tryz.prog 72 #[.int .i64 z, .int .i64 o] w (fun e w' => ∃ A c, e = .returned (.slice A (z + o) c) ∧ OI w' w.heap.size 2 A (z + o) c (dsC z o) ∧ Below w.heap.size w w') := by
  have hmk := run_make_row' (P := Tryz.prog) 22 2 (.int .i64 0) 8 Tryz.underlying22 int_info rfl .i64 .i64 (z + o) (by omega) (by omega)
  have ho0 := OI.made w w.heap.size 2 (z + o) (Nat.le_refl _) (by omega)
  rw [← twoTo_zero z o] at ho0
  have hb0 := below_alloc w (.cells (madeCells #[.int .i64 0] (z + o)) 2)
  obtain ⟨q, hq⟩ : ∃ q : Nat, z + o = q := ⟨_, rfl⟩
  have hqI : (z : Int) + (o : Int) = (q : Int) := by omega
  rw [hq] at hmk ho0 hb0
  have HQ := Lib.hid hq
  go_enter Tryz.func72, Tryz.ntmps72
  go_wp2
  go_loopw [6] (fun i wr => ∃ j : Nat, z ≤ j ∧ j ≤ q ∧ i = .int .i64 j ∧ OI wr w.heap.size 2 (some ⟨w.heap.size, 0, none⟩) q q (twoTo z o (j - z)) ∧ Below w.heap.size w wr) (fun i _ => q - (intOf i).toNat)
  case atStart => exact ⟨z, Nat.le_refl _, by omega, rfl, by rw [Nat.sub_self]; exact ho0, hb0⟩
  case round =>
    clear ho0 hb0 hmk
    obtain ⟨j, hzj, hj, rfl, ho, hw⟩ := hrel
    by_cases hlt : j < q
    · have hst := Lib.hid (twoTo_at (z := z) (o := o) hzj (by omega))
      obtain ⟨g, hg, cc, cf, -⟩ := ho.cell hlt
      cases hg
      have ho2 := ho.set j (u := 1) ⟨by omega, by omega⟩
      rw [hst.out] at ho2
      have hw2 := Below.setCell hw (p := ⟨w.heap.size, j, none⟩) (Nat.le_refl _) (.int .i64 1)
      clear ho hw
      go_wp2
      go_roundw
      case rel => exact ⟨j + 1, by omega, by omega, by go_num, ho2, hw2⟩
      case measure => simp [intOf]; omega
    · have hjq : j = q := by omega
      rw [hjq, ← HQ.out, show z + o - z = o by omega, twoTo_all] at ho
      go_wp2
      go_ret
      rw [HQ.out] at ho ⊢
      exact ⟨_, _, rfl, ho, hw⟩
def dsF (v : Nat) (bs : List (List Int)) : Bool := decide (64 < v + bs.length) || decide (512 < (dsE v bs v).length)
def dgC (v : Nat) (bs : List (List Int)) : List Int := if dsF v bs then [] else dsC v bs.length
def dgE (v : Nat) (bs : List (List Int)) : List Ed := if dsF v bs then [] else dsE v bs v
def dgK (v : Nat) (bs : List (List Int)) : Int := if dsF v bs then 5 else 0
theorem dsF_yes {v : Nat} {bs : List (List Int)} (h : 64 < v + bs.length ∨ 512 < (dsE v bs v).length) : dsF v bs = true := by
  unfold dsF
  rcases h with h | h <;> simp [h]
theorem dsF_no {v : Nat} {bs : List (List Int)} (h1 : v + bs.length ≤ 64) (h2 : (dsE v bs v).length ≤ 512) : dsF v bs = false := by
  unfold dsF
  simp [h1, h2]
theorem dg_yes {v : Nat} {bs : List (List Int)} (h : 64 < v + bs.length ∨ 512 < (dsE v bs v).length) : dgC v bs = [] ∧ dgE v bs = [] ∧ dgK v bs = 5 := by
  simp [dgC, dgE, dgK, dsF_yes h]
theorem dg_no {v : Nat} {bs : List (List Int)} (h1 : v + bs.length ≤ 64) (h2 : (dsE v bs v).length ≤ 512) : dgC v bs = dsC v bs.length ∧ dgE v bs = dsE v bs v ∧ dgK v bs = 0 := by
  simp [dgC, dgE, dgK, dsF_no h1 h2]
theorem dsK_mm {v : Nat} {bs : List (List Int)} (h : Sets v bs) : (dsK v bs bs.length).map mmP = dsK v bs bs.length := by
  rw [List.map_congr_left (g := id) fun e he => ?_, List.map_id]
  have := dsK_lt h e he
  exact Prod.ext (by simp only [mmP, mmE, id]; omega) (by simp only [mmP, mmE, id]; omega)
set_option maxRecDepth 100000 in
set_option maxHeartbeats 1000000 in
theorem graphOf_full (A : Option Addr) (n c : Nat) (F : Option Addr) (m d : Nat) (w : World) (h : 64 < n ∨ 512 < m) (hn : n ≤ 4096) (hm : m ≤ 65536) :
    Calls Tryz.prog 114 #[.slice A n c, .slice F m d] w (fun e w' => e = .returned (.tuple #[.agg #[.slice none 0 0, .slice none 0 0], .int .i64 5]) ∧ Below w.heap.size w w') := by
  have hb1 := below_alloc w (.cells #[.slice none 0 0, .slice none 0 0] 46)
  have Y := Blk.new w 46 #[.slice none 0 0, .slice none 0 0]
  obtain ⟨y0, y1⟩ := Y.cells2
  have f0 := Y.frozen 0
  have f1 := Y.frozen 1
  have YF := (Y.set_ 0 (.slice none 0 0)).set_ 1 (.slice none 0 0)
  obtain ⟨z0, z1⟩ : ((((w.alloc (.cells #[.slice none 0 0, .slice none 0 0] 46)).setCell ⟨w.heap.size, 0, none⟩ (.slice none 0 0)).setCell ⟨w.heap.size, 1, none⟩ (.slice none 0 0)).cell? ⟨w.heap.size, 0, none⟩ = some (.slice none 0 0)) ∧ ((((w.alloc (.cells #[.slice none 0 0, .slice none 0 0] 46)).setCell ⟨w.heap.size, 0, none⟩ (.slice none 0 0)).setCell ⟨w.heap.size, 1, none⟩ (.slice none 0 0)).cell? ⟨w.heap.size, 1, none⟩ = some (.slice none 0 0)) := ⟨YF.cell 0, YF.cell 1⟩
  by_cases h1 : 64 < n
  · clear h
    go_enter Tryz.func114, Tryz.ntmps114
    go_wp2
    refine bodyPost_ret (v := .tuple #[.agg #[.slice none 0 0, .slice none 0 0], .int .i64 5]) (by simp [results, Tryz.results114, go_sem, z0, z1, Blk.cell]) rfl ?_
    exact ⟨rfl, by first | exact (hb1.setCell (p := ⟨w.heap.size, 0, none⟩) (Nat.le_refl _) _).setCell (p := ⟨w.heap.size, 1, none⟩) (Nat.le_refl _) _ | exact hb1⟩
  · have h2 : 512 < m := by omega
    clear h
    go_enter Tryz.func114, Tryz.ntmps114
    go_wp2
    refine bodyPost_ret (v := .tuple #[.agg #[.slice none 0 0, .slice none 0 0], .int .i64 5]) (by simp [results, Tryz.results114, go_sem, z0, z1, Blk.cell]) rfl ?_
    exact ⟨rfl, by first | exact (hb1.setCell (p := ⟨w.heap.size, 0, none⟩) (Nat.le_refl _) _).setCell (p := ⟨w.heap.size, 1, none⟩) (Nat.le_refl _) _ | exact hb1⟩
theorem graphOf_dsg (v : Nat) (bs : List (List Int)) (hD : Sets v bs) (B : Nat) (A : Option Addr) (c : Nat) (F : Option Addr) (m d : Nat) (w : World) (hB : B ≤ w.heap.size) (ha : OI w B 2 A (v + bs.length) c (dsC v bs.length)) (hf : RE w F m (dsK v bs bs.length)) (hm : m ≤ 65536) :
    Calls Tryz.prog 114 #[.slice A (v + bs.length) c, .slice F m d] w (fun e w' => ∃ A' n' c' F' m' d', e = .returned (.tuple #[.agg #[.slice A' n' c', .slice F' m' d'], .int .i64 (dgK v bs)]) ∧ OI w' B 2 A' n' c' (dgC v bs) ∧ OE w' B 113 F' m' d' (dgE v bs) ∧ n' ≤ 64 ∧ m' ≤ 512 ∧ Below w.heap.size w w') := by
  have hl : (dsE v bs v).length = m := by rw [← ds_length hD, hf.len]
  have l1 := hD.v2
  have l2 := hD.len
  by_cases h : 64 < v + bs.length ∨ 512 < (dsE v bs v).length
  · obtain ⟨e1, e2, e3⟩ := dg_yes h
    rw [e1, e2, e3]
    rw [hl] at h
    refine (graphOf_full A (v + bs.length) c F m d w h (by omega) hm).mono ?_
    rintro e w' ⟨rfl, hb⟩
    exact ⟨none, 0, 0, none, 0, 0, rfl, OI.nil_ _ _ _, OE.nil_ _ _ _, by omega, by omega, hb⟩
  · obtain ⟨e1, e2, e3⟩ := dg_no (v := v) (bs := bs) (by omega) (by omega)
    rw [e1, e2, e3]
    have hg := graphOf_any B A (v + bs.length) c F m d (dsC v bs.length) (dsK v bs bs.length) w hB ha hf (by omega) (by omega) (by rw [dsK_mm hD]; exact dsK_nodup hD)
    rw [dsK_mm hD, ds_edges hD] at hg
    refine hg.mono ?_
    rintro e w' ⟨F', d', rfl, h1, h2, h3⟩
    exact ⟨A, _, c, F', m, d', rfl, h1, h2, by omega, by omega, h3⟩
set_option maxRecDepth 100000 in
set_option maxHeartbeats 2000000 in
theorem setGraph_any (v : Nat) (A : Option Addr) (n c : Nat) (bs : List (List Int)) (w : World) (ha : RR w A n bs) (hD : Sets v bs) :
    Calls Tryz.prog 56 #[.int .i64 v, .slice A n c] w (fun e w' => ∃ A' n' c' F' m' d', e = .returned (.tuple #[.agg #[.slice A' n' c', .slice F' m' d'], .int .i64 (dgK v bs)]) ∧ OI w' w.heap.size 2 A' n' c' (dgC v bs) ∧ OE w' w.heap.size 113 F' m' d' (dgE v bs) ∧ n' ≤ 64 ∧ m' ≤ 512 ∧ Below w.heap.size w w') := by
  have hla := Lib.hid ha.len
  have HD := Lib.hid hD
  have l1 := hD.v2
  have l2 : n ≤ 256 := by rw [← ha.len]; exact hD.len
  have HRow := Lib.hid (fun (i : Nat) (h : i < n) => hD.short i (by rw [ha.len]; exact h))
  clear hD
  have hb1 := below_alloc w (.cells #[.slice none 0 0, .slice none 0 0] 46)
  have Y := Blk.new w 46 #[.slice none 0 0, .slice none 0 0]
  go_enter Tryz.func56, Tryz.ntmps56
  go_wp2
  go_loopw [6, 13] (fun u i wr => ∃ (k : Nat) (F : Option Addr) (m d : Nat), k ≤ n ∧ i = .int .i64 k ∧ u = .slice F m d ∧ m ≤ k * 32 ∧ OE wr w.heap.size 113 F m d (dsK v bs k) ∧ Below w.heap.size w wr ∧ Blk wr w.heap.size 46 #[.slice none 0 0, .slice none 0 0]) (fun _ i _ => n - (intOf i).toNat)
  case atStart => exact ⟨0, none, 0, 0, Nat.zero_le _, rfl, rfl, Nat.le_refl _, OE.nil_ _ _ _, hb1, Y⟩
  case round =>
    clear hb1 Y
    obtain ⟨k, F, m, d, hk, rfl, rfl, hm, hf, hb, Y⟩ := hrel
    by_cases hlt : k < n
    · obtain ⟨ad, A1, m1, c1, rfl, hca, hn1, hc1, ha1⟩ := (ha.keep hb).get hlt
      have hla1 := Lib.hid ha1.len
      obtain ⟨ad0, B0, mm0, cc0, had0, hca0, hn0, hc0, ha0⟩ := ha.get hlt
      cases had0
      have hcc := below_cell hb hca0
      rw [hca] at hcc
      obtain ⟨rfl, rfl, rfl⟩ : A1 = B0 ∧ m1 = mm0 ∧ c1 = cc0 := by simpa using hcc
      have HKeep := Lib.hid (fun (w' : World) (h : Below w.heap.size w w') => ha0.keep h)
      clear hcc hca0 ha0
      have hrow : m1 ≤ 32 := by rw [← ha1.len]; exact HRow.out k hlt
      have hst := Lib.hid (show dsK v bs (k + 1) = dsK v bs k ++ dsJ v bs k m1 by rw [dsK_step, ha1.len])
      have hf' : OE wr w.heap.size 113 F m d (dsK v bs k ++ dsJ v bs k 0) := by rw [dsJ_zero, List.append_nil]; exact hf
      clear hf
      obtain ⟨ws, rfl⟩ : ∃ ws : World, ws = wr := ⟨_, rfl⟩
      go_wp2
      clear hca
      go_loopw [6, 20] (fun u i wr => ∃ (j : Nat) (F : Option Addr) (m d : Nat), j ≤ m1 ∧ i = .int .i64 j ∧ u = .slice F m d ∧ m ≤ k * 32 + j ∧ OE wr w.heap.size 113 F m d (dsK v bs k ++ dsJ v bs k j) ∧ Below w.heap.size w wr ∧ Blk wr w.heap.size 46 #[.slice none 0 0, .slice none 0 0] ∧ RI wr A1 m1 (row bs k)) (fun _ i _ => m1 - (intOf i).toNat)
      case atStart => exact ⟨0, F, m, d, Nat.zero_le _, rfl, rfl, by omega, hf', hb, Y, ha1⟩
      case round =>
        clear hf' hb Y hm ha1
        obtain ⟨j, F, m, d, hj, rfl, rfl, hm, hf, hb, Y, ha1⟩ := hrel
        by_cases hltj : j < m1
        · obtain ⟨bd, rfl, hcb, hib⟩ := ha1.get hltj
          have hstep := Lib.hid (show dsK v bs k ++ dsJ v bs k (j + 1) = (dsK v bs k ++ dsJ v bs k j) ++ [(nth (row bs k) j, (v : Int) + (k : Int))] by rw [dsJ_step v bs (by rw [hla1.out]; exact hltj), ← List.append_assoc]; simp)
          generalize nth (row bs k) j = x at *
          have i2 : I64 ((v : Int) + (k : Int)) := ⟨by omega, by omega⟩
          have L := RE.lit1 wr 113 x ((v : Int) + (k : Int)) hib i2
          have bb := below_alloc wr (.cells #[.int .i64 x, .int .i64 ((v : Int) + (k : Int))] 113)
          have hf1 := hf.below bb
          have Y1 := Y.after bb
          have hw1 := hb.trans (bb.mono hb.size)
          have ha2 := ha1.keep bb
          clear hf Y bb
          go_wp2_with (at_builtin; refine app_edges _ rfl _ _ rfl w.heap.size F m d _ rfl hf1 (some ⟨wr.heap.size, 0, none⟩) 1 1 [(x, (v : Int) + (k : Int))] rfl L (fun e he => by simp at he; subst he; exact ⟨hib, i2⟩) (by omega) hw1.size ?_; intro F' d' w3 ho3 hg3 hn3)
          have hw3 := below_own hw1 hg3 hw1.size (fun b hb => (hf1.os.lt hb).1)
          have Y3 := Y1.grown hg3 (OS.typed' hf1.os Y1 (by decide))
          rw [← hstep.out] at ho3
          have ha4 : RI w3 (some bd) m1 (row bs k) := HKeep.out w3 hw3
          go_roundw
          case rel => exact ⟨j + 1, F', m + 1, d', by omega, by go_num, rfl, by omega, ho3, hw3, Y3, ha4⟩
          case measure => simp [intOf]; omega
        · obtain rfl : j = m1 := by omega
          rw [← hst.out] at hf
          go_wp2
          go_roundw
          case rel => exact ⟨k + 1, F, m, d, by omega, by go_num, rfl, by omega, hf, hb, Y⟩
          case measure => simp [intOf]; omega
    · obtain rfl : k = n := by omega
      have hlk := hla.out
      rw [← hlk] at hf
      have HTC := Lib.hid (fun (w' : World) => twoColors_any v bs.length w' (by have := HD.out.len; omega))
      have HTC' := HTC.out wr
      rw [hlk] at HTC'
      go_wp2_with fail
      refine (sizeR_any _ _ _ _ (by omega)).mono ?_
      rintro e w' ⟨rfl, rfl⟩
      go_wp2_with fail
      refine HTC'.mono ?_
      rintro e w4 ⟨A4, c4, rfl, ho4, hb4⟩
      have hf4 := hf.below hb4
      have Y4 := Y.after hb4
      have hw4 := hb.trans (hb4.mono hb.size)
      have ho4' := ho4.more (B' := w.heap.size) hb.size
      have hgo := graphOf_dsg v bs HD.out w.heap.size A4 c4 F m d w4 hw4.size (by rw [hlk]; exact ho4') hf4.reads (by omega)
      rw [hlk] at hgo
      clear HTC HTC' ho4 ho4' hb4 hf4 hf
      go_wp2_with fail
      refine hgo.mono ?_
      rintro e w5 ⟨A5, n5, c5, F5, m5, d5, rfl, o1, o2, q1, q2, hb5⟩
      have Y5 := Y4.after hb5
      obtain ⟨y0, y1⟩ := Y5.cells2
      have f0 := Y5.frozen 0
      have f1 := Y5.frozen 1
      have YF := (Y5.set_ 0 (.slice A5 n5 c5)).set_ 1 (.slice F5 m5 d5)
      obtain ⟨z0, z1⟩ : (((w5.setCell ⟨w.heap.size, 0, none⟩ (.slice A5 n5 c5)).setCell ⟨w.heap.size, 1, none⟩ (.slice F5 m5 d5)).cell? ⟨w.heap.size, 0, none⟩ = some (.slice A5 n5 c5)) ∧ (((w5.setCell ⟨w.heap.size, 0, none⟩ (.slice A5 n5 c5)).setCell ⟨w.heap.size, 1, none⟩ (.slice F5 m5 d5)).cell? ⟨w.heap.size, 1, none⟩ = some (.slice F5 m5 d5)) := ⟨YF.cell 0, YF.cell 1⟩
      clear hgo
      generalize hqq : dgK v bs = qq at *
      go_wp2
      have hw5 := hw4.trans (hb5.mono hw4.size)
      have e1 : some w.heap.size ≠ blk A5 := OS.typed' o1.os Y5 (by decide)
      have e2 : some w.heap.size ≠ blk F5 := OS.typed' o2.os Y5 (by decide)
      have o1 := (o1.kept (grown_set (g := w.heap.size) (p := 0) (u := .slice A5 n5 c5)) (.inr fun e => e1 e.symm)).kept (grown_set (g := w.heap.size) (p := 1) (u := .slice F5 m5 d5)) (.inr fun e => e1 e.symm)
      have o2 := (o2.kept (grown_set (g := w.heap.size) (p := 0) (u := .slice A5 n5 c5)) (.inr fun e => e2 e.symm)).kept (grown_set (g := w.heap.size) (p := 1) (u := .slice F5 m5 d5)) (.inr fun e => e2 e.symm)
      subst hqq
      refine bodyPost_ret (v := .tuple #[.agg #[.slice A5 n5 c5, .slice F5 m5 d5], .int .i64 (dgK v bs)]) (by simp [results, Tryz.results56, go_sem, z0, z1]) rfl ?_
      exact ⟨A5, n5, c5, F5, m5, d5, rfl, o1, o2, q1, q2, (hw5.setCell (p := ⟨w.heap.size, 0, none⟩) (Nat.le_refl _) _).setCell (p := ⟨w.heap.size, 1, none⟩) (Nat.le_refl _) _⟩
end Go.Proofs.YtdkbcjdimhgmnaaGreat
