/- A list turned round, in place; digits from the highest down. No condition beyond those stated. -/
import Derived.Shelf.RegionOpenPlain
import Derived.Test.YtdkbcjdimhgmnaaGreatQKO
set_option linter.unusedVariables false
set_option linter.unusedSimpArgs false
namespace Go.Proofs.YtdkbcjdimhgmnaaGreat
open Go.RowKit
def revT (z : List Int) (k : Nat) : List Int := (List.range z.length).map fun i => nth z (if i < k ∨ z.length - k ≤ i then z.length - 1 - i else i)
def revL (z : List Int) : List Int := (List.range z.length).map fun i => nth z (z.length - 1 - i)
theorem revT_len (z : List Int) (k : Nat) : (revT z k).length = z.length := by simp [revT]
theorem revL_len (z : List Int) : (revL z).length = z.length := by simp [revL]
theorem revT_nth (z : List Int) (k : Nat) {i : Nat} (h : i < z.length) : nth (revT z k) i = nth z (if i < k ∨ z.length - k ≤ i then z.length - 1 - i else i) := by
  unfold revT
  rw [nth_map_range, if_pos h]
theorem revL_nth (z : List Int) {i : Nat} (h : i < z.length) : nth (revL z) i = nth z (z.length - 1 - i) := by
  unfold revL
  rw [nth_map_range, if_pos h]
theorem revT_zero (z : List Int) : revT z 0 = z := by
  refine List.ext_getElem (revT_len _ _) fun i h1 h2 => ?_
  rw [← nth_get, ← nth_get, revT_nth z 0 h2, if_neg (by omega)]
theorem revT_step {z : List Int} {k j : Nat} (h : k < j) (hj : k + j + 1 = z.length) : ((revT z k).set k (nth z j)).set j (nth z k) = revT z (k + 1) := by
  refine List.ext_getElem (by simp [revT_len]) fun i h1 h2 => ?_
  rw [revT_len] at h2
  rw [← nth_get (zs := revT z (k + 1)), revT_nth z _ h2, List.getElem_set, List.getElem_set]
  by_cases e1 : j = i
  · rw [if_pos e1, if_pos (by omega)]
    congr 1
    omega
  · rw [if_neg e1]
    by_cases e2 : k = i
    · rw [if_pos e2, if_pos (by omega)]
      congr 1
      omega
    · rw [if_neg e2, ← nth_get (zs := revT z k), revT_nth z _ h2]
      congr 1
      by_cases e3 : i < k ∨ z.length - k ≤ i
      · rw [if_pos e3, if_pos (by omega)]
      · rw [if_neg e3, if_neg (by omega)]
theorem revT_all {z : List Int} {k : Nat} (h : z.length ≤ 2 * k + 1) : revT z k = revL z := by
  refine List.ext_getElem (by rw [revT_len, revL_len]) fun i h1 h2 => ?_
  rw [revL_len] at h2
  rw [← nth_get, ← nth_get, revT_nth z _ h2, revL_nth z h2]
  congr 1
  split <;> omega
set_option maxRecDepth 100000 in
set_option maxHeartbeats 1000000 in
theorem reverse_any (B : Nat) (A : Option Addr) (n c : Nat) (z : List Int) (w : World) (ho : OI w B 2 A n c z) (hn : n ≤ 1048576) :
    Calls Tryz.prog 173 #[.slice A n c] w (fun e w' => e = .returned (.tuple #[]) ∧ OI w' B 2 A n c (revL z) ∧ w.grownBy w' (blk A)) := by
  have HL := Lib.hid ho.len
  have ho0 := ho
  rw [← revT_zero z] at ho0
  clear ho
  go_enter Tryz.func173, Tryz.ntmps173
  go_wp2
  go_loopw [2, 3] (fun i j wr => ∃ (k : Nat) (jz : Int), 2 * k ≤ n + 1 ∧ jz = (n : Int) - 1 - k ∧ i = .int .i64 k ∧ j = .int .i64 jz ∧ OI wr B 2 A n c (revT z k) ∧ w.grownBy wr (blk A)) (fun i _ _ => n - (intOf i).toNat)
  case atStart => exact ⟨0, _, by omega, rfl, rfl, by go_num, ho0, World.grownBy.refl _ _⟩
  case round =>
    clear ho0
    obtain ⟨k, jz, hk, hjz, rfl, rfl, ho, hg⟩ := hrel
    by_cases hlt : (k : Int) < jz
    · obtain ⟨j, rfl⟩ : ∃ j : Nat, jz = (j : Int) := ⟨jz.toNat, by omega⟩
      have hkj : k < j := by omega
      have hkn : k < n := by omega
      have hjn : j < n := by omega
      have hst := Lib.hid (revT_step (z := z) hkj (by rw [HL.out]; omega))
      obtain ⟨ga, hA, ck, fk, ik⟩ := ho.cell hkn
      obtain ⟨ga', hA', cj, fj, ij⟩ := ho.cell hjn
      rw [hA] at hA'
      obtain rfl : ga = ga' := by injection hA' with e; injection e
      subst hA
      rw [revT_nth z k (by rw [HL.out]; exact hkn), if_neg (by rw [HL.out]; omega)] at ck ik
      rw [revT_nth z k (by rw [HL.out]; exact hjn), if_neg (by rw [HL.out]; omega)] at cj ij
      have hgd := hg.trans (grownBy_of_below (below_drewn wr 1) (blk (some ⟨ga, 0, none⟩)))
      have hod := ho.below (below_drewn wr 1)
      simp only [← World.drew_is_drewN] at hod hgd
      have h2 := (hod.set k (u := nth z j) ij).set j (u := nth z k) ik
      have hg2 := (hgd.trans (grown_set (w := wr.drew) (g := ga) (p := k) (u := .int .i64 (nth z j)))).trans (grown_set (g := ga) (p := j) (u := .int .i64 (nth z k)))
      rw [hst.out] at h2
      have HH := Lib.hid h2
      have HG := Lib.hid hg2
      generalize nth z j = u at *
      generalize nth z k = v at *
      have HJ := Lib.hid hjz
      have mixed : Tryz.prog.follows Departure.mixedOrders = true := by rfl
      clear h2 hg2 hod hgd ho hg ik ij hjz hA'
      go_wp2_with fail
      go_region_o
      go_wp2
      go_roundw
      case rel => exact ⟨k + 1, (j : Int) - 1, by have := HJ.out; omega, by have := HJ.out; omega, by go_num, rfl, HH.out, HG.out⟩
      case measure => simp [intOf]; omega
    · have hall := Lib.hid (revT_all (z := z) (k := k) (by rw [HL.out]; omega))
      rw [hall.out] at ho
      go_wp2
      go_end0
      exact ⟨rfl, ho, hg⟩
set_option maxHeartbeats 400000 in
theorem highFirst_any (a p : Int) (n : Nat) (w : World) (ha : 0 ≤ a) (ha2 : a ≤ 1000000) (hp : 2 ≤ p) (hp2 : p ≤ 1000000) (hn : n ≤ 1000) :
    Calls Tryz.prog 113 #[.int .i64 a, .int .i64 p, .int .i64 n] w (RetI w 2 (revL (digsP a p n))) := by
  have HD := Lib.hid (digs_len a p n)
  go_enter Tryz.func113, Tryz.ntmps113
  go_wp2_with fail
  refine (digitsOf_any a p n w ha ha2 hp hp2 hn).mono ?_
  rintro e w1 ⟨A, m, c, rfl, ho, hb⟩
  have hm : m ≤ 1048576 := by rw [← ho.len, HD.out]; omega
  go_wp2_with fail
  refine (reverse_any w.heap.size A m c _ w1 ho hm).mono ?_
  rintro e w2 ⟨rfl, ho2, hg⟩
  have hb2 := below_own hb hg hb.size (fun b hb => (ho.os.lt hb).1)
  go_wp2
  go_ret
  exact ⟨_, _, _, rfl, ho2, hb2⟩
set_option maxRecDepth 100000 in
set_option maxHeartbeats 1600000 in
theorem addTimes_gen (p : Int) (k : Nat) (f : List Int) (q : Nat) (A1 A2 A3 A4 : Option Addr) (c1 c2 c3 c4 : Nat) (wt w : World) (hq : p ^ k = (q : Int)) (hp : 0 < p) (hq64 : q ≤ 64) (ht : TabA wt p k f q A1 A2 A3 A4) (hwt : Below wt.heap.size wt w)
    (T U : Option Addr) (m ct cu : Nat) (v u : List Int) (x : Int) (hv : OI w wt.heap.size 2 T m ct v) (hul : u.length = m) (hu : ∀ wr, w.grownBy wr (blk T) → RI wr U m u) (hvq : VecQ q v) (huq : VecQ q u) (hx : 0 ≤ x ∧ x < q) (hm : m ≤ 1048576) :
    Calls Tryz.prog 158 #[.agg #[.int .i64 q, .slice A1 q c1, .slice A2 q c2, .slice A3 q c3, .slice A4 q c4], .slice T m ct, .slice U m cu, .int .i64 x] w (fun e w' => e = .returned (.tuple #[]) ∧ OI w' wt.heap.size 2 T m ct (mixP v (addF p k f v u x) m) ∧ w.grownBy w' (blk T)) := by
  have HL := Lib.hid hv.len
  have HLu := Lib.hid hul
  have HV := Lib.hid hvq
  have HU := Lib.hid huq
  have HT := Lib.hid ht
  have HB := Lib.hid (fun a b => mulP_bd (p := p) hp k f a b)
  have HBS := Lib.hid (fun c a b => sumP_bd (p := p) hp k c a b)
  have HQ := Lib.hid hq
  obtain ⟨xn, rfl, hxn⟩ := nat_of hx.1 hx.2
  have hb1 := below_alloc w (.cells #[.int .i64 q, .slice A1 q c1, .slice A2 q c2, .slice A3 q c3, .slice A4 q c4] 146)
  have X1 := Blk.new w 146 #[.int .i64 q, .slice A1 q c1, .slice A2 q c2, .slice A3 q c3, .slice A4 q c4]
  have ho0 : OI (w.alloc (.cells #[.int .i64 q, .slice A1 q c1, .slice A2 q c2, .slice A3 q c3, .slice A4 q c4] 146)) wt.heap.size 2 T m ct (mixP v (addF p k f v u xn) 0) := by rw [mixP_zero]; exact hv.below hb1
  have hg0 := grownBy_of_below hb1 (blk T)
  clear hvq huq ht hq
  go_enter Tryz.func158, Tryz.ntmps158
  go_wp2
  go_loopw [12] (fun i wr => ∃ j : Nat, j ≤ m ∧ i = .int .i64 j ∧ OI wr wt.heap.size 2 T m ct (mixP v (addF p k f v u xn) j) ∧ w.grownBy wr (blk T) ∧ Blk wr w.heap.size 146 #[.int .i64 q, .slice A1 q c1, .slice A2 q c2, .slice A3 q c3, .slice A4 q c4]) (fun i _ => m - (intOf i).toNat)
  case atStart => exact ⟨0, Nat.zero_le _, rfl, ho0, hg0, X1⟩
  case round =>
    clear ho0 hg0 X1 hb1
    obtain ⟨j, hj, rfl, ho, hg, hX⟩ := hrel
    by_cases hlt : j < m
    · have hw := below_own hwt hg hwt.size (fun b hb => (hv.os.lt hb).1)
      have htw := HT.out.keep hw
      obtain ⟨ad, rfl, cu0, -⟩ := (hu wr hg).get hlt
      obtain ⟨gT, rfl, ct0, ft0, -⟩ := ho.cell hlt
      rw [mixP_nth _ _ _ (by rw [HL.out]; exact hlt), if_neg (by omega)] at ct0
      obtain ⟨z0, z1⟩ := HV.out j (by rw [HL.out]; exact hlt)
      obtain ⟨y0, y1⟩ := HU.out j (by rw [HLu.out]; exact hlt)
      have hNew := Lib.hid (mixP_set v (addF p k f v u xn) (j := j) (by rw [HL.out]; exact hlt))
      have hFj : addF p k f v u xn j = sumP p k 1 (nth v j) (mulP p k f xn (nth u j)) := rfl
      obtain ⟨a1, a2⟩ := HB.out xn (nth u j)
      obtain ⟨s1, s2⟩ := HBS.out 1 (nth v j) (mulP p k f xn (nth u j))
      rw [HQ.out] at a2 s2
      obtain ⟨vn, hvn, hvn2⟩ := nat_of z0 z1
      obtain ⟨un, hun, hun2⟩ := nat_of y0 y1
      rw [hun] at a1 a2 s1 s2 cu0
      rw [hvn] at s1 s2 ct0
      obtain ⟨mn, hmn, hmn2⟩ := nat_of a1 a2
      obtain ⟨ma, mb, mm, mc, rfl, cm1, rfl, cm2⟩ := tab_get htw.mul hxn hun2
      rw [hmn] at cm2
      obtain ⟨aa, ab, am, ac, rfl, ca1, rfl, ca2⟩ := tab_get htw.add hvn2 hmn2
      rw [← hmn, ← hvn, ← hun, ← hFj] at ca2
      rw [hvn, hun] at hFj
      have hi64 : I64 (addF p k f v u xn j) := ⟨by rw [hFj]; omega, by rw [hFj]; omega⟩
      generalize addF p k f v u xn j = nw at *
      clear hFj hvn hun hmn a1 a2 s1 s2 z0 z1 y0 y1
      have x1 : wr.cell? ⟨w.heap.size, 1, none⟩ = some (.slice (some aa) am c1) := hX.cell 1
      have x3 : wr.cell? ⟨w.heap.size, 3, none⟩ = some (.slice (some ma) am c3) := hX.cell 3
      have x1d := below_cell (below_drewn wr 1) x1
      have x3d := below_cell (below_drewn wr 1) x3
      have d1 := below_cell (below_drewn wr 1) ct0
      have d2 := below_cell (below_drewn wr 1) cu0
      have d3 := below_cell (below_drewn wr 1) cm1
      have d4 := below_cell (below_drewn wr 1) cm2
      have d5 := below_cell (below_drewn wr 1) ca1
      have d6 := below_cell (below_drewn wr 1) ca2
      simp only [← World.drew_is_drewN] at x1d x3d d1 d2 d3 d4 d5 d6
      have hod := ho.below (below_drewn wr 1)
      have hgd := hg.trans (grownBy_of_below (below_drewn wr 1) (blk (some ⟨gT, 0, none⟩)))
      have hXd := hX.after (below_drewn wr 1)
      simp only [← World.drew_is_drewN] at hod hgd hXd
      have ft1 : wr.drew.frozen? ⟨gT, j, none⟩ = false := ft0
      clear hX htw hw ho hg ca1 ca2 cm1 cm2 ct0 x1 x3
      go_wp2
      clear cu0
      refine region_last (P := Tryz.prog) (S := fun w' => w'.cell? ⟨w.heap.size, 1, none⟩ = some (.slice (some aa) am c1) ∧ w'.cell? ⟨w.heap.size, 3, none⟩ = some (.slice (some ma) am c3) ∧ w'.cell? ⟨gT, j, none⟩ = some (.int .i64 vn) ∧ w'.cell? (ma.add xn) = some (.slice (some mb) am mc) ∧ w'.cell? (mb.add un) = some (.int .i64 mn) ∧ w'.cell? (aa.add vn) = some (.slice (some ab) am ac) ∧ w'.cell? (ab.add mn) = some (.int .i64 nw)) (by kernel_rfl) (by simp only [List.getLast?_cons_cons, List.getLast?_singleton]; rfl) (by dsimp only [List.dropLast]) (by kernel_rfl) ⟨x1d, x3d, d1, d3, d4, d5, d6⟩ ?_
      intro hS
      refine wpAnyH_take (i := 0) (v := ?_) rfl (by kernel_rfl) (by kernel_rfl) (by kernel_rfl) (fun _ _ _ h => h) (Or.inl ⟨by rfl, ?_⟩) (by assumption) ?_
      rotate_left
      · (intro w hSw; (try dsimp only at hSw); go_simp; (try with_reducible rfl))
      simp only [Act.put, List.setIfInBounds_toArray, List.set_cons_zero, List.set_cons_succ]
      refine wpAnyH_take (i := 1) (v := ?_) rfl (by kernel_rfl) (by kernel_rfl) (by kernel_rfl) (fun _ _ _ h => h) (Or.inl ⟨by rfl, ?_⟩) (by assumption) ?_
      rotate_left
      · (intro w hSw; (try dsimp only at hSw); go_simp; (try with_reducible rfl))
      simp only [Act.put, List.setIfInBounds_toArray, List.set_cons_zero, List.set_cons_succ]
      refine wpAnyH_take (i := 2) (v := ?_) rfl (by kernel_rfl) (by kernel_rfl) (by kernel_rfl) (fun _ _ _ h => h) (Or.inl ⟨by rfl, ?_⟩) (by assumption) ?_
      rotate_left
      · (intro w hSw; (try dsimp only at hSw); go_simp; (try with_reducible rfl))
      simp only [Act.put, List.setIfInBounds_toArray, List.set_cons_zero, List.set_cons_succ]
      refine wpAnyH_take (i := 3) (v := ?_) rfl (by kernel_rfl) (by kernel_rfl) (by kernel_rfl) (fun _ _ _ h => h) (Or.inl ⟨by rfl, ?_⟩) (by assumption) ?_
      rotate_left
      · (intro w hSw; (try dsimp only at hSw); go_simp; (try with_reducible rfl))
      simp only [Act.put, List.setIfInBounds_toArray, List.set_cons_zero, List.set_cons_succ]
      refine wpAnyH_take (i := 4) (v := ?_) rfl (by kernel_rfl) (by kernel_rfl) (by kernel_rfl) (fun _ _ _ h => h) (Or.inl ⟨by rfl, ?_⟩) (by assumption) ?_
      rotate_left
      · (intro w hSw; (try dsimp only at hSw); go_simp; (try with_reducible rfl))
      simp only [Act.put, List.setIfInBounds_toArray, List.set_cons_zero, List.set_cons_succ]
      refine wpAnyH_take (i := 5) (v := ?_) rfl (by kernel_rfl) (by kernel_rfl) (by kernel_rfl) (fun _ _ _ h => h) (Or.inl ⟨by rfl, ?_⟩) (by assumption) ?_
      rotate_left
      · (intro w hSw; (try dsimp only at hSw); go_simp; (try with_reducible rfl))
      simp only [Act.put, List.setIfInBounds_toArray, List.set_cons_zero, List.set_cons_succ]
      refine wpAnyH_take (i := 6) (v := ?_) rfl (by kernel_rfl) (by kernel_rfl) (by kernel_rfl) (fun _ _ _ h => h) (Or.inl ⟨by rfl, ?_⟩) (by assumption) ?_
      rotate_left
      · (intro w hSw; (try dsimp only at hSw); go_simp; (try with_reducible rfl))
      simp only [Act.put, List.setIfInBounds_toArray, List.set_cons_zero, List.set_cons_succ]
      refine wpAnyH_take (i := 7) (v := ?_) rfl (by kernel_rfl) (by kernel_rfl) (by kernel_rfl) (fun _ _ _ h => h) (Or.inl ⟨by rfl, ?_⟩) (by assumption) ?_
      rotate_left
      · (intro w hSw; (try dsimp only at hSw); go_simp; (try with_reducible rfl))
      simp only [Act.put, List.setIfInBounds_toArray, List.set_cons_zero, List.set_cons_succ]
      refine wpAnyH_take (i := 8) (v := ?_) rfl (by kernel_rfl) (by kernel_rfl) (by kernel_rfl) (fun _ _ _ h => h) (Or.inl ⟨by rfl, ?_⟩) (by assumption) ?_
      rotate_left
      · (intro w hSw; (try dsimp only at hSw); go_simp; (try with_reducible rfl))
      simp only [Act.put, List.setIfInBounds_toArray, List.set_cons_zero, List.set_cons_succ]
      refine wpAnyH_take (i := 9) (v := ?_) rfl (by kernel_rfl) (by kernel_rfl) (by kernel_rfl) (fun _ _ _ h => h) (Or.inl ⟨by rfl, ?_⟩) (by assumption) ?_
      rotate_left
      · (intro w hSw; (try dsimp only at hSw); go_simp; (try with_reducible rfl))
      simp only [Act.put, List.setIfInBounds_toArray, List.set_cons_zero, List.set_cons_succ]
      refine wpAnyH_take (i := 10) (v := ?_) rfl (by kernel_rfl) (by kernel_rfl) (by kernel_rfl) (fun _ _ _ h => h) (Or.inl ⟨by rfl, ?_⟩) (by assumption) ?_
      rotate_left
      · (intro w hSw; (try dsimp only at hSw); go_simp; (try with_reducible rfl))
      simp only [Act.put, List.setIfInBounds_toArray, List.set_cons_zero, List.set_cons_succ]
      refine wpAnyH_take (i := 11) (v := ?_) rfl (by kernel_rfl) (by kernel_rfl) (by kernel_rfl) (fun _ _ _ h => h) (Or.inl ⟨by rfl, ?_⟩) (by assumption) ?_
      rotate_left
      · (intro w hSw; (try dsimp only at hSw); go_simp; (try with_reducible rfl))
      simp only [Act.put, List.setIfInBounds_toArray, List.set_cons_zero, List.set_cons_succ]
      refine wpAnyH_take (i := 12) (v := ?_) rfl (by kernel_rfl) (by kernel_rfl) (by kernel_rfl) (fun _ _ _ h => h) (Or.inl ⟨by rfl, ?_⟩) (by assumption) ?_
      rotate_left
      · (intro w hSw; (try dsimp only at hSw); go_simp; (try with_reducible rfl))
      simp only [Act.put, List.setIfInBounds_toArray, List.set_cons_zero, List.set_cons_succ]
      refine wpAnyH_take (i := 13) (v := ?_) rfl (by kernel_rfl) (by kernel_rfl) (by kernel_rfl) (fun _ _ _ h => h) (Or.inl ⟨by rfl, ?_⟩) (by assumption) ?_
      rotate_left
      · (intro w hSw; (try dsimp only at hSw); go_simp; (try with_reducible rfl))
      simp only [Act.put, List.setIfInBounds_toArray, List.set_cons_zero, List.set_cons_succ]
      refine wpAnyH_take (i := 14) (v := ?_) rfl (by kernel_rfl) (by kernel_rfl) (by kernel_rfl) (fun _ _ _ h => h) (Or.inl ⟨by rfl, ?_⟩) (by assumption) ?_
      rotate_left
      · (intro w hSw; (try dsimp only at hSw); go_simp; (try with_reducible rfl))
      simp only [Act.put, List.setIfInBounds_toArray, List.set_cons_zero, List.set_cons_succ]
      refine wpAnyH_take (i := 15) (v := ?_) rfl (by kernel_rfl) (by kernel_rfl) (by kernel_rfl) (fun _ _ _ h => h) (Or.inl ⟨by rfl, ?_⟩) (by assumption) ?_
      rotate_left
      · (intro w hSw; (try dsimp only at hSw); go_simp; (try with_reducible rfl))
      simp only [Act.put, List.setIfInBounds_toArray, List.set_cons_zero, List.set_cons_succ]
      refine wpAnyH_take (i := 16) (v := ?_) rfl (by kernel_rfl) (by kernel_rfl) (by kernel_rfl) (fun _ _ _ h => h) (Or.inl ⟨by rfl, ?_⟩) (by assumption) ?_
      rotate_left
      · (intro w hSw; (try dsimp only at hSw); go_simp; (try with_reducible rfl))
      simp only [Act.put, List.setIfInBounds_toArray, List.set_cons_zero, List.set_cons_succ]
      refine wpAnyH_take (i := 17) (v := ?_) rfl (by kernel_rfl) (by kernel_rfl) (by kernel_rfl) (fun _ _ _ h => h) (Or.inl ⟨by rfl, ?_⟩) (by assumption) ?_
      rotate_left
      · (intro w hSw; (try dsimp only at hSw); go_simp; (try with_reducible rfl))
      simp only [Act.put, List.setIfInBounds_toArray, List.set_cons_zero, List.set_cons_succ]
      refine wpAnyH_take (i := 18) (v := ?_) rfl (by kernel_rfl) (by kernel_rfl) (by kernel_rfl) (fun _ _ _ h => h) (Or.inl ⟨by rfl, ?_⟩) (by assumption) ?_
      rotate_left
      · (intro w hSw; (try dsimp only at hSw); go_simp; (try with_reducible rfl))
      simp only [Act.put, List.setIfInBounds_toArray, List.set_cons_zero, List.set_cons_succ]
      refine wpAnyH_take (i := 19) (v := ?_) rfl (by kernel_rfl) (by kernel_rfl) (by kernel_rfl) (fun _ _ _ h => h) (Or.inl ⟨by rfl, ?_⟩) (by assumption) ?_
      rotate_left
      · (intro w hSw; (try dsimp only at hSw); go_simp; (try with_reducible rfl))
      simp only [Act.put, List.setIfInBounds_toArray, List.set_cons_zero, List.set_cons_succ]
      refine wpAnyH_take (i := 20) (v := ?_) rfl (by kernel_rfl) (by kernel_rfl) (by kernel_rfl) (fun _ _ _ h => h) (Or.inl ⟨by rfl, ?_⟩) (by assumption) ?_
      rotate_left
      · (intro w hSw; (try dsimp only at hSw); go_simp; (try with_reducible rfl))
      simp only [Act.put, List.setIfInBounds_toArray, List.set_cons_zero, List.set_cons_succ]
      simp only [List.getElem_toArray, List.getElem_cons_succ, List.getElem_cons_zero]
      refine wpAnyH_done (by kernel_rfl) ?_ _
      dsimp only [atEnd]
      clear hS d2 d3 d4 d5 d6 x1d x3d
      generalize wr.drew = W at *
      have hset := hod.set j hi64
      rw [hNew.out] at hset
      have hge := hgd.trans (grown_set (w := W) (g := gT) (p := j) (u := .int .i64 nw))
      have hXe := hXd.grown (grown_set (w := W) (g := gT) (p := j) (u := .int .i64 nw)) (fun e => by injection e with e; have := (hv.os.lt (k := gT) rfl).2; omega)
      go_wp2
      go_roundw
      case rel => exact ⟨j + 1, by omega, by go_num, hset, hge, hXe⟩
      case measure => simp [intOf]; omega
    · obtain rfl : m = j := by omega
      go_wp2
      go_end0
      exact ⟨rfl, ho, hg⟩
def encW (p : Int) (k : Nat) (f : List Int) (m : Nat) (rows : List (List Int)) (z : List Int) : Nat → List Int
  | 0 => List.replicate m 0
  | j + 1 => plusR p k (encW p k f m rows z j) (scaleR p k f (nth z j) (row rows j))
theorem encW_len (p : Int) (k : Nat) (f : List Int) (m : Nat) (rows : List (List Int)) (z : List Int) (j : Nat) : (encW p k f m rows z j).length = m := by
  induction j with
  | zero => simp [encW]
  | succ j ih => rw [encW, plusR_len, ih]
theorem VecQ.enc {p : Int} (h0 : 0 < p) (k : Nat) (f : List Int) (m : Nat) (rows : List (List Int)) (z : List Int) (j : Nat) : VecQ (p ^ k) (encW p k f m rows z j) := by
  cases j with
  | zero =>
    intro i hi
    unfold encW at hi ⊢
    rw [nth_get hi, List.getElem_replicate]
    exact ⟨Int.le_refl _, Int.pow_pos h0⟩
  | succ j => exact VecQ.plus h0 k _ _
theorem mix_plus {p : Int} {k : Nat} {f v u : List Int} {x : Int} {m : Nat} (hv : v.length = m) (hu : u.length = m) : mixP v (addF p k f v u x) m = plusR p k v (scaleR p k f x u) := by
  refine nth_ext (by rw [mixP_len, plusR_len]) fun i hi => ?_
  rw [mixP_len] at hi
  rw [mixP_nth _ _ _ hi, if_pos (by omega), plusR_nth _ _ _ _ hi]
  unfold addF scaleR
  rw [nth_get (zs := u.map _) (by simpa using (by omega : i < u.length)), List.getElem_map, ← nth_get, mulP_comm]
theorem divN_next (a p : Int) (j : Nat) : divN a p (j + 1) = divN (a / p) p j := by
  induction j with
  | zero => rfl
  | succ j ih => rw [divN, ih]; rfl
theorem encW_same {p : Int} {k : Nat} {f : List Int} {m : Nat} {rows : List (List Int)} {z y : List Int} {j : Nat} (h : ∀ i, i < j → nth z i = nth y i) : encW p k f m rows z j = encW p k f m rows y j := by
  induction j with
  | zero => rfl
  | succ j ih => rw [encW, encW, ih (fun i hi => h i (by omega)), h j (by omega)]
theorem enc_word {p : Int} {k : Nat} {f : List Int} {q : Nat} {m : Nat} {rows : List (List Int)} (hq : 0 < q) : ∀ j i, i < q ^ j → encW p k f m rows (revL (digsP i q j)) j = row (wordsTo p k f q m rows j) i := by
  intro j
  induction j with
  | zero =>
    intro i hi
    obtain rfl : i = 0 := by simpa using hi
    rfl
  | succ j ih =>
    intro i hi
    have hd : i / q < q ^ j := by
      rw [Nat.div_lt_iff_lt_mul hq]
      rwa [Nat.pow_succ] at hi
    have hmod := Nat.mod_lt i hq
    have hrow := flatMap_row (L := wordsTo p k f q m rows j) (F := fun w => sumsR p k f q (row rows j) w) (q := q) (fun w => sumsR_len p k f q _ w) (i := i / q) (x := i % q) (by rw [wordsTo_len]; exact hd) hmod
    rw [show i / q * q + i % q = i from by rw [Nat.mul_comm]; exact Nat.div_add_mod i q] at hrow
    rw [show wordsTo p k f q m rows (j + 1) = (wordsTo p k f q m rows j).flatMap fun w => sumsR p k f q (row rows j) w from rfl, hrow, sumsR_row _ _ _ _ _ hmod, ← ih _ hd, encW]
    have hl : ∀ (a : Int) (t : Nat), (digsP a q t).length = t := fun a t => digs_len a q t
    have e1 : nth (revL (digsP i q (j + 1))) j = ((i % q : Nat) : Int) := by
      rw [revL_nth _ (by rw [hl]; omega), hl, digs_nth, if_pos (by omega), show j + 1 - 1 - j = 0 by omega]
      rfl
    rw [e1]
    congr 1
    refine encW_same fun t ht => ?_
    rw [revL_nth _ (by rw [hl]; omega), revL_nth _ (by rw [hl]; omega), hl, hl, digs_nth, digs_nth, if_pos (by omega), if_pos (by omega), show j + 1 - 1 - t = (j - 1 - t) + 1 by omega, divN_next]
    rfl
set_option maxRecDepth 100000 in
set_option maxHeartbeats 2000000 in
theorem encode_any (p : Int) (k : Nat) (f : List Int) (q : Nat) (A1 A2 A3 A4 : Option Addr) (c1 c2 c3 c4 : Nat) (wt w : World) (hq : p ^ k = (q : Int)) (hp : 0 < p) (hq64 : q ≤ 64) (ht : TabA wt p k f q A1 A2 A3 A4) (hwt : Below wt.heap.size wt w)
    (M : Option Addr) (r rc m : Nat) (rows : List (List Int)) (hr : RR wt M r rows) (hm : MatQ (p ^ k) m rows) (hr1 : 1 ≤ r) (hr8 : r ≤ 8) (hm32 : m ≤ 32) (Z : Option Addr) (cz : Nat) (z : List Int) (hz : RI w Z r z) (hzq : ∀ i, i < r → 0 ≤ nth z i ∧ nth z i < q) :
    Calls Tryz.prog 112 #[.agg #[.int .i64 q, .slice A1 q c1, .slice A2 q c2, .slice A3 q c3, .slice A4 q c4], .slice M r rc, .slice Z r cz] w (RetI w 2 (encW p k f m rows z r)) := by
  have HL := Lib.hid hr.len
  have HM := Lib.hid hm
  have HQ := Lib.hid hq
  have HZ := Lib.hid hzq
  have HV := Lib.hid (fun j => VecQ.enc (p := p) hp k f m rows z j)
  have HE := Lib.hid (fun j => encW_len p k f m rows z j)
  have hb1 := below_alloc w (.cells #[.int .i64 q, .slice A1 q c1, .slice A2 q c2, .slice A3 q c3, .slice A4 q c4] 146)
  have X1 := Blk.new w 146 #[.int .i64 q, .slice A1 q c1, .slice A2 q c2, .slice A3 q c3, .slice A4 q c4]
  obtain ⟨ad, Z0, mz, c0, rfl, hc0, hz1, hz2, hrz⟩ := (hr.keep (hwt.trans (hb1.mono hwt.size))).get (k := 0) (by omega)
  obtain rfl : mz = m := by rw [← hrz.len]; exact (hm 0 (by rw [HL.out]; omega)).1
  have hmk := run_make_row' (P := Tryz.prog) 22 2 (.int .i64 0) 8 Tryz.underlying22 int_info rfl .i64 .i64 mz (by omega) (by omega)
  have hc0' : (w.alloc (.cells #[.int .i64 q, .slice A1 q c1, .slice A2 q c2, .slice A3 q c3, .slice A4 q c4] 146)).cell? ad = some (.slice Z0 mz c0) := hc0
  have ho0 := OI.made (w.alloc (.cells #[.int .i64 q, .slice A1 q c1, .slice A2 q c2, .slice A3 q c3, .slice A4 q c4] 146)) w.heap.size 2 mz (by simp) (by omega)
  have hb2 := hb1.alloc (by simp) (.cells (madeCells #[.int .i64 0] mz) 2)
  have X2 := X1.alloc (.cells (madeCells #[.int .i64 0] mz) 2)
  clear hrz hc0 hm hzq
  have HT := Lib.hid (ht.keep hwt)
  have HR := Lib.hid (hr.keep hwt)
  have h00 : OI ((w.alloc (.cells #[.int .i64 q, .slice A1 q c1, .slice A2 q c2, .slice A3 q c3, .slice A4 q c4] 146)).alloc (.cells (madeCells #[.int .i64 0] mz) 2)) w.heap.size 2 (some ⟨w.heap.size + 1, 0, none⟩) mz mz (encW p k f mz rows z 0) := by
    have := ho0
    rw [show (w.alloc (.cells #[.int .i64 q, .slice A1 q c1, .slice A2 q c2, .slice A3 q c3, .slice A4 q c4] 146)).heap.size = w.heap.size + 1 by simp] at this
    exact this
  go_enter Tryz.func112, Tryz.ntmps112
  go_wp2
  clear hmk hc0' ho0 hb1 X1 ht hr
  generalize hW2 : (w.alloc (.cells #[.int .i64 q, .slice A1 q c1, .slice A2 q c2, .slice A3 q c3, .slice A4 q c4] 146)).alloc (.cells (madeCells #[.int .i64 0] mz) 2) = W2 at *
  clear hW2
  generalize hgT : w.heap.size + 1 = gT at *
  have HGT := Lib.hid (show w.heap.size < gT by omega)
  clear hgT
  go_loopw [8, 9, 17] (fun _ _ i wr => ∃ j : Nat, j ≤ r ∧ i = .int .i64 j ∧ OI wr w.heap.size 2 (some ⟨gT, 0, none⟩) mz mz (encW p k f mz rows z j) ∧ Below w.heap.size w wr ∧ Blk wr w.heap.size 146 #[.int .i64 q, .slice A1 q c1, .slice A2 q c2, .slice A3 q c3, .slice A4 q c4]) (fun _ _ i _ => r - (intOf i).toNat)
  case atStart => exact ⟨0, Nat.zero_le _, rfl, h00, hb2, X2⟩
  case round =>
    clear h00 hb2 X2
    obtain ⟨j, hj, rfl, ho, hb, X⟩ := hrel
    by_cases hlt : j < r
    · obtain ⟨az, hZ, hcz, hiz⟩ := (hz.keep hb).get hlt
      obtain rfl := hZ
      obtain ⟨ad', U, mj, cj, had, hcj, hj1, hj2, hrj⟩ := HR.out.get hlt
      cases had
      obtain ⟨hjl, hjq⟩ := HM.out j (by rw [HL.out]; exact hlt)
      obtain rfl : mj = mz := by rw [← hrj.len]; exact hjl
      have hst := Lib.hid (show encW p k f mj rows z (j + 1) = mixP (encW p k f mj rows z j) (addF p k f (encW p k f mj rows z j) (row rows j) (nth z j)) mj from by rw [mix_plus (HE.out j) hjl]; rfl)
      have hbd := hb.trans (below_drewn' _ wr 1)
      have hod := ho.below (below_drewn wr 1)
      have hXd := X.after (below_drewn wr 1)
      simp only [← World.drew_is_drewN] at hbd hod hXd
      rw [HQ.out] at hjq
      have hvq := HV.out j
      rw [HQ.out] at hvq
      have hadd := addTimes_gen p k f q A1 A2 A3 A4 c1 c2 c3 c4 w wr.drew HQ.out hp hq64 HT.out hbd (some ⟨gT, 0, none⟩) U mj mj cj (encW p k f mj rows z j) (row rows j) (nth z j) hod hjl (fun wr' hg => hrj.keep (below_own hbd hg hbd.size (fun b hb => (hod.os.lt hb).1))) hvq hjq (HZ.out j hlt) (by omega)
      rw [← hst.out] at hadd
      have y0 : wr.drew.cell? ⟨w.heap.size, 0, none⟩ = some (.int .i64 q) := hXd.cell 0
      have y1 : wr.drew.cell? ⟨w.heap.size, 1, none⟩ = some (.slice A1 q c1) := hXd.cell 1
      have y2 : wr.drew.cell? ⟨w.heap.size, 2, none⟩ = some (.slice A2 q c2) := hXd.cell 2
      have y3 : wr.drew.cell? ⟨w.heap.size, 3, none⟩ = some (.slice A3 q c3) := hXd.cell 3
      have y4 : wr.drew.cell? ⟨w.heap.size, 4, none⟩ = some (.slice A4 q c4) := hXd.cell 4
      have yj : wr.drew.cell? (ad.add j) = some (.slice U mj cj) := below_cell hbd hcj
      generalize nth z j = x at *
      clear hjq hvq hjl hrj ho hod X
      go_wp2
      clear hcz
      refine region_lastD (P := Tryz.prog) (S := fun w' => w'.cell? ⟨w.heap.size, 0, none⟩ = some (.int .i64 q) ∧ w'.cell? ⟨w.heap.size, 1, none⟩ = some (.slice A1 q c1) ∧ w'.cell? ⟨w.heap.size, 2, none⟩ = some (.slice A2 q c2) ∧ w'.cell? ⟨w.heap.size, 3, none⟩ = some (.slice A3 q c3) ∧ w'.cell? ⟨w.heap.size, 4, none⟩ = some (.slice A4 q c4) ∧ w'.cell? (ad.add j) = some (.slice U mj cj)) (by kernel_rfl) (by simp only [List.getLast?_cons_cons, List.getLast?_singleton]; rfl) (by dsimp only [List.dropLast]) (by kernel_rfl) ⟨y0, y1, y2, y3, y4, yj⟩ ?_
      intro hS
      refine wpAnyH_take (i := 0) (v := ?_) rfl (by kernel_rfl) (by kernel_rfl) (by kernel_rfl) (fun _ _ _ h => h) (Or.inl ⟨by rfl, ?_⟩) (by assumption) ?_
      rotate_left
      · (intro w hSw; (try dsimp only at hSw); go_simp; (try with_reducible rfl))
      simp only [Act.put, List.setIfInBounds_toArray, List.set_cons_zero, List.set_cons_succ]
      refine wpAnyH_take (i := 1) (v := ?_) rfl (by kernel_rfl) (by kernel_rfl) (by kernel_rfl) (fun _ _ _ h => h) (Or.inl ⟨by rfl, ?_⟩) (by assumption) ?_
      rotate_left
      · (intro w hSw; (try dsimp only at hSw); go_simp; (try with_reducible rfl))
      simp only [Act.put, List.setIfInBounds_toArray, List.set_cons_zero, List.set_cons_succ]
      refine wpAnyH_take (i := 2) (v := ?_) rfl (by kernel_rfl) (by kernel_rfl) (by kernel_rfl) (fun _ _ _ h => h) (Or.inl ⟨by rfl, ?_⟩) (by assumption) ?_
      rotate_left
      · (intro w hSw; (try dsimp only at hSw); go_simp; (try with_reducible rfl))
      simp only [Act.put, List.setIfInBounds_toArray, List.set_cons_zero, List.set_cons_succ]
      refine wpAnyH_take (i := 3) (v := ?_) rfl (by kernel_rfl) (by kernel_rfl) (by kernel_rfl) (fun _ _ _ h => h) (Or.inl ⟨by rfl, ?_⟩) (by assumption) ?_
      rotate_left
      · (intro w hSw; (try dsimp only at hSw); go_simp; (try with_reducible rfl))
      simp only [Act.put, List.setIfInBounds_toArray, List.set_cons_zero, List.set_cons_succ]
      refine wpAnyH_take (i := 4) (v := ?_) rfl (by kernel_rfl) (by kernel_rfl) (by kernel_rfl) (fun _ _ _ h => h) (Or.inl ⟨by rfl, ?_⟩) (by assumption) ?_
      rotate_left
      · (intro w hSw; (try dsimp only at hSw); go_simp; (try with_reducible rfl))
      simp only [Act.put, List.setIfInBounds_toArray, List.set_cons_zero, List.set_cons_succ]
      refine wpAnyH_take (i := 5) (v := ?_) rfl (by kernel_rfl) (by kernel_rfl) (by kernel_rfl) (fun _ _ _ h => h) (Or.inl ⟨by rfl, ?_⟩) (by assumption) ?_
      rotate_left
      · (intro w hSw; (try dsimp only at hSw); go_simp; (try with_reducible rfl))
      simp only [Act.put, List.setIfInBounds_toArray, List.set_cons_zero, List.set_cons_succ]
      refine wpAnyH_take (i := 6) (v := ?_) rfl (by kernel_rfl) (by kernel_rfl) (by kernel_rfl) (fun _ _ _ h => h) (Or.inl ⟨by rfl, ?_⟩) (by assumption) ?_
      rotate_left
      · (intro w hSw; (try dsimp only at hSw); go_simp; (try with_reducible rfl))
      simp only [Act.put, List.setIfInBounds_toArray, List.set_cons_zero, List.set_cons_succ]
      simp only [List.getElem_toArray, List.getElem_cons_succ, List.getElem_cons_zero]
      refine wpAnyH_done (by kernel_rfl) ?_ _
      dsimp only [atEnd]
      clear hS y0 y1 y2 y3 y4 yj
      go_wp2_with (go_at_call 158; refine hadd.mono ?_; rintro e w8 ⟨rfl, ho8, hg8⟩)
      have hne : some w.heap.size ≠ blk (some (⟨gT, 0, none⟩ : Addr)) := fun e => by
        have e' : w.heap.size = gT := by simpa [blk] using e
        have := HGT.out
        omega
      have hX8 := hXd.grown hg8 hne
      clear hne
      have hb8 := below_own hbd hg8 hbd.size (fun b hb => (ho8.os.lt hb).1)
      clear hadd hg8 hXd hbd
      go_wp2
      go_roundw
      case rel => exact ⟨j + 1, by omega, by go_num, ho8, hb8, hX8⟩
      case measure => simp [intOf]; omega
    · obtain rfl : j = r := by omega
      go_wp2
      go_ret
      exact ⟨_, _, _, rfl, ho, hb⟩
end Go.Proofs.YtdkbcjdimhgmnaaGreat
