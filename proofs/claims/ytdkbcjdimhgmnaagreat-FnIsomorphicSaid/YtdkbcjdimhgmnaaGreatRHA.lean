/- Permutations composed and inverted, both sides. No condition beyond those stated. -/
import Derived.Test.YtdkbcjdimhgmnaaGreatRGQ
set_option linter.unusedVariables false
set_option linter.unusedSimpArgs false
namespace Go.Proofs.YtdkbcjdimhgmnaaGreat
open Go.RowKit
theorem perm_nat {p : List Int} (hp : Perm p) {n : Nat} (hl : p.length = n) {k : Nat} (hk : k < n) : ∃ q : Nat, nth p k = q ∧ q < n := by
  have := hp.bd k (by omega)
  exact ⟨(nth p k).toNat, by omega, by omega⟩
theorem invTo_zero (n : Nat) (p : List Int) : relTo (iotaP n) p 0 = List.replicate n 0 := by rw [relTo_zero, iotaP_len]
theorem invTo_step {n : Nat} {p : List Int} {k q : Nat} (hk : k < n) (hq : nth p k = q) : (relTo (iotaP n) p k).set q (k : Int) = relTo (iotaP n) p (k + 1) := by
  rw [relTo_step, hq, iotaP_nth hk]
  rfl
theorem invTo_all {p : List Int} {n : Nat} (hl : p.length = n) : relTo (iotaP n) p n = invP p := by
  subst hl
  rw [invP, relC, iotaP_len]
set_option maxHeartbeats 1000000 in
theorem inverse_any (A : Option Addr) (n c : Nat) (p : List Int) (w : World) (ha : RI w A n p) (hp : Perm p) (hn : n ≤ 1048576) :
    Calls Tryz.prog 143 #[.slice A n c] w (RetI w 2 (invP p)) := by
  have hla := Lib.hid ha.len
  have HP := Lib.hid hp
  clear hp
  have hmk := run_make_row' (P := Tryz.prog) 22 2 (.int .i64 0) 8 Tryz.underlying22 int_info rfl .i64 .i64 n (by omega) (by omega)
  have ho0 := OI.made w w.heap.size 2 n (Nat.le_refl _) (by omega)
  rw [← invTo_zero n p] at ho0
  have hb0 := below_alloc w (.cells (madeCells #[.int .i64 0] n) 2)
  go_enter Tryz.func143, Tryz.ntmps143
  go_wp2
  go_loopw [4, 5, 11] (fun _ _ i wr => ∃ k : Nat, k ≤ n ∧ i = .int .i64 k ∧ OI wr w.heap.size 2 (some ⟨w.heap.size, 0, none⟩) n n (relTo (iotaP n) p k) ∧ Below w.heap.size w wr) (fun _ _ i _ => n - (intOf i).toNat)
  case atStart => exact ⟨0, Nat.zero_le _, rfl, ho0, hb0⟩
  case round =>
    clear ho0 hb0 hmk
    obtain ⟨k, hk, rfl, ho, hw⟩ := hrel
    by_cases hlt : k < n
    · obtain ⟨a, rfl, hca, -⟩ := (ha.keep hw).get hlt
      obtain ⟨q, hq, hqn⟩ := perm_nat HP.out hla.out hlt
      have hst := Lib.hid (invTo_step hlt hq)
      rw [hq] at hca
      obtain ⟨g, hg, cc, cf, -⟩ := ho.cell hqn
      cases hg
      have ho2 := ho.set q (u := (k : Int)) ⟨by omega, by omega⟩
      rw [hst.out] at ho2
      have hw2 := Below.setCell hw (p := ⟨w.heap.size, q, none⟩) (Nat.le_refl _) (.int .i64 (k : Int))
      clear ho hw hq
      go_wp2
      go_roundw
      case rel => exact ⟨k + 1, by omega, by go_num, ho2, hw2⟩
      case measure => simp [intOf]; omega
    · obtain rfl : k = n := by omega
      rw [invTo_all hla.out] at ho
      go_wp2
      go_ret
      exact ⟨_, _, _, rfl, ho, hw⟩
theorem thn_set {p q : List Int} {n k : Nat} (hl : p.length = n) (hk : k < n) {x : Int} (hx : nth (thenP p q) k = x) : (copied (thenP p q) (List.replicate n 0) k).set k x = copied (thenP p q) (List.replicate n 0) (k + 1) := by
  rw [← hx]
  exact copied_step (by rw [thenP_len, hl]; exact hk) (by simpa using hk)
theorem thn_all {p q : List Int} {n : Nat} (hl : p.length = n) : copied (thenP p q) (List.replicate n 0) n = thenP p q := by
  have := copied_all (xs := thenP p q) (zs := List.replicate n 0) (by rw [thenP_len, hl]; simp)
  rwa [thenP_len, hl] at this
set_option maxHeartbeats 1000000 in
theorem compose_any (A : Option Addr) (n c : Nat) (p : List Int) (B : Option Addr) (m d : Nat) (q : List Int) (w : World) (ha : RI w A n p) (hb : RI w B m q) (hp : ∀ k, k < n → 0 ≤ nth p k ∧ nth p k < m) (hn : n ≤ 1048576) (hm : m ≤ 1048576) :
    Calls Tryz.prog 144 #[.slice A n c, .slice B m d] w (RetI w 2 (thenP p q)) := by
  have hla := Lib.hid ha.len
  have HP := Lib.hid hp
  clear hp
  have hmk := run_make_row' (P := Tryz.prog) 22 2 (.int .i64 0) 8 Tryz.underlying22 int_info rfl .i64 .i64 n (by omega) (by omega)
  have ho0 := OI.made w w.heap.size 2 n (Nat.le_refl _) (by omega)
  rw [← copied_zero (thenP p q) (List.replicate n 0)] at ho0
  have hb0 := below_alloc w (.cells (madeCells #[.int .i64 0] n) 2)
  go_enter Tryz.func144, Tryz.ntmps144
  go_wp2
  go_loopw [6, 12] (fun _ i wr => ∃ k : Nat, k ≤ n ∧ i = .int .i64 k ∧ OI wr w.heap.size 2 (some ⟨w.heap.size, 0, none⟩) n n (copied (thenP p q) (List.replicate n 0) k) ∧ Below w.heap.size w wr) (fun _ i _ => n - (intOf i).toNat)
  case atStart => exact ⟨0, Nat.zero_le _, rfl, ho0, hb0⟩
  case round =>
    clear ho0 hb0 hmk
    obtain ⟨k, hk, rfl, ho, hw⟩ := hrel
    by_cases hlt : k < n
    · obtain ⟨a, rfl, hca, -⟩ := (ha.keep hw).get hlt
      obtain ⟨x, hx, hxm⟩ : ∃ x : Nat, nth p k = x ∧ x < m := by
        have := HP.out k hlt
        exact ⟨(nth p k).toNat, by omega, by omega⟩
      have hxx : nth (thenP p q) k = nth q x := by rw [thenP_nth (by rw [hla.out]; exact hlt), hx]; rfl
      have hst := Lib.hid (thn_set hla.out hlt hxx)
      rw [hx] at hca
      obtain ⟨b, rfl, hcb, hib⟩ := (hb.keep hw).get hxm
      obtain ⟨g, hg, cc, cf, -⟩ := ho.cell hlt
      cases hg
      have ho2 := ho.set k (u := nth q x) hib
      rw [hst.out] at ho2
      have hw2 := Below.setCell hw (p := ⟨w.heap.size, k, none⟩) (Nat.le_refl _) (.int .i64 (nth q x))
      clear ho hw hx hxx
      go_wp2
      go_roundw
      case rel => exact ⟨k + 1, by omega, by go_num, ho2, hw2⟩
      case measure => simp [intOf]; omega
    · obtain rfl : k = n := by omega
      rw [thn_all hla.out] at ho
      go_wp2
      go_ret
      exact ⟨_, _, _, rfl, ho, hw⟩
def autL (l : List (List Int)) : List (List Int) := l.map fun p => thenP p (invP (row l 0))
theorem add_zero_ (a : Addr) : a.add 0 = a := by simp [Addr.add]
theorem autL_len (l : List (List Int)) : (autL l).length = l.length := by simp [autL]
theorem autL_at {l : List (List Int)} {k : Nat} (h : k < l.length) : row (autL l) k = thenP (row l k) (invP (row l 0)) := by
  rw [row_get (by rw [autL_len]; exact h), row_get h]
  simp [autL]
theorem autL_step {l : List (List Int)} {k : Nat} (h : k < l.length) : (autL l).take k ++ [thenP (row l k) (invP (row l 0))] = (autL l).take (k + 1) := by
  rw [← autL_at h, List.take_succ_eq_append_getElem (by rw [autL_len]; exact h), row_get (by rw [autL_len]; exact h)]
def PermsOf (n : Nat) (l : List (List Int)) : Prop := ∀ k, k < l.length → (row l k).length = n ∧ Perm (row l k)
theorem PermsOf.bd {n : Nat} {l : List (List Int)} (h : PermsOf n l) {k : Nat} (hk : k < l.length) : ∀ v, v < n → 0 ≤ nth (row l k) v ∧ nth (row l k) v < (n : Nat) := fun v hv => by
  obtain ⟨h1, h2⟩ := h k hk
  have := h2.bd v (by omega)
  rw [h1] at this
  exact this
set_option maxRecDepth 100000 in
set_option maxHeartbeats 2000000 in
theorem automorphisms_any (w : World) (pb : Nat) (BA : Option Addr) (bn bc : Nat) (best : List (List Int)) (n : Nat) (h9 : w.cell? ⟨pb, 9, none⟩ = some (.slice BA bn bc)) (hr : RR w BA bn best) (h0 : 0 < bn) (hbn : bn ≤ 1048576) (hn : n ≤ 4096) (hp : PermsOf n best) :
    Calls Tryz.prog 83 #[.pointer (some ⟨pb, 0, none⟩)] w (RetR w 22 2 (autL best)) := by
  have hla := Lib.hid hr.len
  have HP := Lib.hid hp
  clear hp
  obtain ⟨ba, B0, m0, c0, rfl, b1, b2, b3, b4⟩ := hr.get h0
  rw [add_zero_] at b1
  obtain ⟨p1, p2⟩ := HP.out 0 (by rw [hla.out]; exact h0)
  obtain rfl : m0 = n := by rw [← b4.len]; exact p1
  have hinv := inverse_any B0 m0 c0 _ w b4 p2 (by omega)
  have HL := Lib.hid p1
  have HQ := Lib.hid p2
  clear p1 p2
  go_enter Tryz.func83, Tryz.ntmps83
  go_wp2_with (go_at_call 143; refine hinv.mono ?_; rintro e w1 ⟨A1, n1, c1, rfl, ho1, hb1⟩; have h9' := below_cell hb1 h9)
  obtain rfl : n1 = m0 := by rw [← ho1.len, invP_len, HL.out]
  clear h9' hinv
  go_loopw [4, 6, 19] (fun v _ i wr => ∃ (j : Nat) (A' : Option Addr) (c' : Nat), i = .int .i64 j ∧ j ≤ bn ∧ v = .slice A' j c' ∧ OR wr w1.heap.size 22 2 A' j c' ((autL best).take j) ∧ Below w1.heap.size w1 wr) (fun _ _ i _ => bn - (intOf i).toNat)
  case atStart => exact ⟨0, none, 0, rfl, Nat.zero_le _, rfl, OR.nil_ _ _ (by decide), Below.refl _ _⟩
  case round =>
    obtain ⟨j, A', c', rfl, hj, rfl, ho, hw⟩ := hrel
    have hww := hb1.trans (hw.mono hb1.size)
    by_cases hlt : j < bn
    · obtain ⟨ba', A2, n2, c2, hba, hcs, hn2, hc2, hrs⟩ := (hr.keep hww).get hlt
      cases hba
      obtain ⟨q1, q2⟩ := HP.out j (by rw [hla.out]; exact hlt)
      obtain rfl : n2 = n1 := by rw [← hrs.len]; exact q1
      have hcmp := compose_any A2 n2 c2 _ A1 n2 c1 _ wr hrs (ho1.reads.keep hw) (HP.out.bd (by rw [hla.out]; exact hlt)) (by omega) (by omega)
      have hst := Lib.hid (autL_step (l := best) (k := j) (by rw [hla.out]; exact hlt))
      clear q1 q2
      go_wp2_with fail
      refine hcmp.mono ?_
      rintro e w2 ⟨A3, n3, c3, rfl, ho3, hb3⟩
      have hw2 := hw.trans (hb3.mono hw.size)
      obtain ⟨vs, hov⟩ := ho
      have hap := hov.apart_new (v := (A3, n3, c3)) (fun b hb => (ho3.os.lt hb).1)
      have ho4 := hov.below hb3
      have hr4 := ho3.more hw.size
      clear hov hw ho3 hb3 hcs hrs hcmp hww
      go_wp2_with (at_builtin; refine wpList_app1 _ rfl _ _ 25 rfl 22 (.slice none 0 0) 24 Tryz.underlying25 ints_info rfl (by omega) w1.heap.size A' j c' (vs.map slv) rfl ho4.os (.slice A3 n3 c3) rfl rfl (by omega) hw2.size ?_; intro A5 c5 w5 ho5 hg5 hn5)
      have hw5 := below_own hw2 hg5 hw2.size (fun b hb => (ho4.os.lt hb).1)
      have hi5 := ho4.push (v := (A3, n3, c3)) hr4 hap hg5 ho5
      rw [hst.out] at hi5
      clear ho4 hr4 hap ho5 hg5 hn5 hw2
      go_wp2
      go_roundw
      case rel => exact ⟨j + 1, A5, c5, by go_num, by omega, rfl, hi5, hw5⟩
      case measure => simp [intOf]; omega
    · obtain rfl : j = bn := by omega
      rw [List.take_of_length_le (by rw [autL_len, hla.out]; exact Nat.le_refl _)] at ho
      have ho2 := ho.more hb1.size
      clear ho
      go_wp2
      go_ret
      exact ⟨_, _, _, rfl, ho2, hww⟩
theorem apart_pairwise {w : World} {B : Nat} {e2 e1 : TypeId} {A : Option Addr} {n c : Nat} {vs : List Sl} {zss : List (List Int)} (h : ORv w B e2 e1 A n c vs zss) : vs.Pairwise apart :=
  List.pairwise_iff_getElem.2 fun i j hi hj hij => h.sep i j _ _ (by omega) (List.getElem?_eq_getElem hi) (List.getElem?_eq_getElem hj)
theorem pairwise_apart {vs : List Sl} (h : vs.Pairwise apart) (i j : Nat) (v u : Sl) (hij : i ≠ j) (hv : vs[i]? = some v) (hu : vs[j]? = some u) : apart v u := by
  obtain ⟨hi, rfl⟩ := List.getElem?_eq_some_iff.1 hv
  obtain ⟨hj, rfl⟩ := List.getElem?_eq_some_iff.1 hu
  rcases Nat.lt_or_ge i j with h1 | h1
  · exact List.pairwise_iff_getElem.1 h i j hi hj h1
  · exact (List.pairwise_iff_getElem.1 h j i hj hi (by omega)).symm
theorem zip_fst (vs : List Sl) (zss : List (List Int)) (h : vs.length = zss.length) : (vs.zip zss).map (·.1) = vs := by
  rw [List.map_fst_zip (by omega)]
theorem zip_snd (vs : List Sl) (zss : List (List Int)) (h : vs.length = zss.length) : (vs.zip zss).map (·.2) = zss := by
  rw [List.map_snd_zip (by omega)]
theorem ORv.pv {w : World} {B : Nat} {g n c : Nat} {vs : List Sl} {zss : List (List Int)} (h : ORv w B 22 2 (some ⟨g, 0, none⟩) n c vs zss) : PV w B 22 g n c (vs.zip zss) := by
  refine ⟨?_, fun p hp => ?_⟩
  · have := h.os
    rw [← zip_fst vs zss h.len, List.map_map] at this
    exact this
  · obtain ⟨j, hj⟩ := List.getElem?_of_mem hp
    rw [List.getElem?_zip_eq_some] at hj
    obtain ⟨h1, h2⟩ := hj
    have ho := h.rows j _ _ h1 h2
    refine ⟨ho.os.cap.1, ho.os.cap.2, ho.reads, ?_⟩
    rcases h.outer_row h1 with h3 | h3
    · rw [h3]; simp
    · simpa [blk] using h3
theorem ORv.sorted {w w' : World} {B : Nat} {g n c : Nat} {vs : List Sl} {zss : List (List Int)} (h : ORv w B 22 2 (some ⟨g, 0, none⟩) n c vs zss) {Y : List PL} (hp : Y.Perm (vs.zip zss)) (hv : PV w' B 22 g n c Y) (hg : w.grownBy w' (some g)) :
    ORv w' B 22 2 (some ⟨g, 0, none⟩) n c (Y.map (·.1)) (Y.map (·.2)) := by
  refine ⟨?_, by simp, fun j v z hv' hz => ?_, ?_, h.ne⟩
  · have := hv.os
    rw [List.map_map]
    exact this
  · rw [List.getElem?_map] at hv' hz
    cases hy : Y[j]? with
    | none => rw [hy] at hv'; cases hv'
    | some p =>
      rw [hy] at hv' hz
      simp only [Option.map_some, Option.some.injEq] at hv' hz
      subst hv'; subst hz
      have hm : p ∈ vs.zip zss := hp.mem_iff.1 (List.mem_of_getElem? hy)
      obtain ⟨i, hi⟩ := List.getElem?_of_mem hm
      rw [List.getElem?_zip_eq_some] at hi
      obtain ⟨h1, h2⟩ := hi
      refine (h.rows i _ _ h1 h2).kept hg ?_
      rcases h.outer_row h1 with h3 | h3
      · exact .inl h3
      · exact .inr (by simpa [blk] using h3)
  · have h1 := apart_pairwise h
    have h2 : (Y.map (·.1)).Perm vs := by
      have := hp.map (·.1)
      rwa [zip_fst vs zss h.len] at this
    exact pairwise_apart ((h2.pairwise_iff (fun {a b} h => h.symm)).2 h1)
end Go.Proofs.YtdkbcjdimhgmnaaGreat
