/- Permutations composed and inverted, both sides. No condition beyond those stated. -/
import Derived.Test.YtemdjochphehjaaGreatQGG
import Derived.Test.YtemdjochphehjaaGreatQGB
import Derived.Test.YtemdjochphehjaaGreatQGM
import Derived.Deep.RegionHeldLaw
import Derived.Test.YtemdjochphehjaaGreatQGQ
set_option linter.unusedVariables false
set_option linter.unusedSimpArgs false
namespace Go.Proofs.YtemdjochphehjaaGreat
open Go.RowKit

theorem perm_nat {p : List Int} (hp : Perm p) {n : Nat} (hl : p.length = n) {k : Nat} (hk : k < n) : ∃ q : Nat, nth p k = q ∧ q < n := by
  have := hp.bd k (by omega)
  exact ⟨(nth p k).toNat, by omega, by omega⟩
theorem thn_set {p q : List Int} {n k : Nat} (hl : p.length = n) (hk : k < n) {x : Int} (hx : nth (thenP p q) k = x) : (copied (thenP p q) (List.replicate n 0) k).set k x = copied (thenP p q) (List.replicate n 0) (k + 1) := by
  rw [← hx]
  exact copied_step (by rw [thenP_len, hl]; exact hk) (by simpa using hk)
theorem thn_all {p q : List Int} {n : Nat} (hl : p.length = n) : copied (thenP p q) (List.replicate n 0) n = thenP p q := by
  have := copied_all (xs := thenP p q) (zs := List.replicate n 0) (by rw [thenP_len, hl]; simp)
  rwa [thenP_len, hl] at this
set_option maxHeartbeats 1000000 in
theorem compose_any (A : Option Addr) (n c : Nat) (p : List Int) (B : Option Addr) (m d : Nat) (q : List Int) (w : World) (ha : RI w A n p) (hb : RI w B m q) (hp : ∀ k, k < n → 0 ≤ nth p k ∧ nth p k < m) (hn : n ≤ 1048576) (hm : m ≤ 1048576) :
    Calls Tryz.prog 204 #[.slice A n c, .slice B m d] w (RetI w 2 (thenP p q)) := by
  have hla := Lib.hid ha.len
  have HP := Lib.hid hp
  clear hp
  have hmk := run_make_row' (P := Tryz.prog) 22 2 (.int .i64 0) 8 Tryz.underlying22 int_info rfl .i64 .i64 n (by omega) (by omega)
  have ho0 := OI.made w w.heap.size 2 n (Nat.le_refl _) (by omega)
  rw [← copied_zero (thenP p q) (List.replicate n 0)] at ho0
  have hb0 := below_alloc w (.cells (madeCells #[.int .i64 0] n) 2)
  go_enter Tryz.func204, Tryz.ntmps204
  go_wp2
  go_loopw [6, 12] (fun _ i wr => ∃ k : Nat, k ≤ n ∧ i = .int .i64 k ∧ OI wr w.heap.size 2 (some ⟨w.heap.size, 0, none⟩) n n (copied (thenP p q) (List.replicate n 0) k) ∧ Below w.heap.size w wr) (fun _ i _ => n - (intOf i).toNat)
  case atStart => exact ⟨0, Nat.zero_le _, rfl, ho0, hb0⟩
  case round =>
    clear ho0 hb0 hmk
    obtain ⟨k, hk, rfl, ho, hw⟩ := hrel
    by_cases hlt : k < n
    · obtain ⟨a, rfl, hca, -⟩ := (ha.keep hw).get hlt
      obtain ⟨x, hx, hxm⟩ : ∃ x : Nat, nth p k = x ∧ x < m := by
        have := HP.out k hlt
        exact ⟨(nth p k).toNat, by omega, by omega⟩
      have hxx : nth (thenP p q) k = nth q x := by rw [thenP_nth (by rw [hla.out]; exact hlt), hx]; rfl
      have hst := Lib.hid (thn_set hla.out hlt hxx)
      rw [hx] at hca
      obtain ⟨b, rfl, hcb, hib⟩ := (hb.keep hw).get hxm
      obtain ⟨g, hg, cc, cf, -⟩ := ho.cell hlt
      cases hg
      have ho2 := ho.set k (u := nth q x) hib
      rw [hst.out] at ho2
      have hw2 := Below.setCell hw (p := ⟨w.heap.size, k, none⟩) (Nat.le_refl _) (.int .i64 (nth q x))
      clear ho hw hx hxx
      go_wp2
      go_roundw
      case rel => exact ⟨k + 1, by omega, by go_num, ho2, hw2⟩
      case measure => simp [intOf]; omega
    · obtain rfl : k = n := by omega
      rw [thn_all hla.out] at ho
      go_wp2
      go_ret
      exact ⟨_, _, _, rfl, ho, hw⟩
end Go.Proofs.YtemdjochphehjaaGreat
/- The automorphisms that a search has found, both sides. No condition beyond those stated. -/
namespace Go.Proofs.YtemdjochphehjaaGreat
open Go.RowKit

/-- permutations of n numbers -/
def PermsOf (n : Nat) (l : List (List Int)) : Prop := ∀ k, k < l.length → (row l k).length = n ∧ Perm (row l k)
theorem PermsOf.bd {n : Nat} {l : List (List Int)} (h : PermsOf n l) {k : Nat} (hk : k < l.length) : ∀ v, v < n → 0 ≤ nth (row l k) v ∧ nth (row l k) v < (n : Nat) := fun v hv => by
  obtain ⟨h1, h2⟩ := h k hk
  have := h2.bd v (by omega)
  rw [h1] at this
  exact this
end Go.Proofs.YtemdjochphehjaaGreat
/- Sorting rows of a call's own: they stay its own. No condition beyond those stated. -/
namespace Go.Proofs.YtemdjochphehjaaGreat
open Go.RowKit

theorem apart_pairwise {w : World} {B : Nat} {e2 e1 : TypeId} {A : Option Addr} {n c : Nat} {vs : List Sl} {zss : List (List Int)} (h : ORv w B e2 e1 A n c vs zss) : vs.Pairwise apart :=
  List.pairwise_iff_getElem.2 fun i j hi hj hij => h.sep i j _ _ (by omega) (List.getElem?_eq_getElem hi) (List.getElem?_eq_getElem hj)
theorem pairwise_apart {vs : List Sl} (h : vs.Pairwise apart) (i j : Nat) (v u : Sl) (hij : i ≠ j) (hv : vs[i]? = some v) (hu : vs[j]? = some u) : apart v u := by
  obtain ⟨hi, rfl⟩ := List.getElem?_eq_some_iff.1 hv
  obtain ⟨hj, rfl⟩ := List.getElem?_eq_some_iff.1 hu
  rcases Nat.lt_or_ge i j with h1 | h1
  · exact List.pairwise_iff_getElem.1 h i j hi hj h1
  · exact (List.pairwise_iff_getElem.1 h j i hj hi (by omega)).symm
theorem zip_fst (vs : List Sl) (zss : List (List Int)) (h : vs.length = zss.length) : (vs.zip zss).map (·.1) = vs := by
  rw [List.map_fst_zip (by omega)]
theorem zip_snd (vs : List Sl) (zss : List (List Int)) (h : vs.length = zss.length) : (vs.zip zss).map (·.2) = zss := by
  rw [List.map_snd_zip (by omega)]
theorem ORv.pv {w : World} {B : Nat} {g n c : Nat} {vs : List Sl} {zss : List (List Int)} (h : ORv w B 22 2 (some ⟨g, 0, none⟩) n c vs zss) : PV w B 22 g n c (vs.zip zss) := by
  refine ⟨?_, fun p hp => ?_⟩
  · have := h.os
    rw [← zip_fst vs zss h.len, List.map_map] at this
    exact this
  · obtain ⟨j, hj⟩ := List.getElem?_of_mem hp
    rw [List.getElem?_zip_eq_some] at hj
    obtain ⟨h1, h2⟩ := hj
    have ho := h.rows j _ _ h1 h2
    refine ⟨ho.os.cap.1, ho.os.cap.2, ho.reads, ?_⟩
    rcases h.outer_row h1 with h3 | h3
    · rw [h3]; simp
    · simpa [blk] using h3
/-- rows of its own in another order -/
theorem ORv.sorted {w w' : World} {B : Nat} {g n c : Nat} {vs : List Sl} {zss : List (List Int)} (h : ORv w B 22 2 (some ⟨g, 0, none⟩) n c vs zss) {Y : List PL} (hp : Y.Perm (vs.zip zss)) (hv : PV w' B 22 g n c Y) (hg : w.grownBy w' (some g)) :
    ORv w' B 22 2 (some ⟨g, 0, none⟩) n c (Y.map (·.1)) (Y.map (·.2)) := by
  refine ⟨?_, by simp, fun j v z hv' hz => ?_, ?_, h.ne⟩
  · have := hv.os
    rw [List.map_map]
    exact this
  · rw [List.getElem?_map] at hv' hz
    cases hy : Y[j]? with
    | none => rw [hy] at hv'; cases hv'
    | some p =>
      rw [hy] at hv' hz
      simp only [Option.map_some, Option.some.injEq] at hv' hz
      subst hv'; subst hz
      have hm : p ∈ vs.zip zss := hp.mem_iff.1 (List.mem_of_getElem? hy)
      obtain ⟨i, hi⟩ := List.getElem?_of_mem hm
      rw [List.getElem?_zip_eq_some] at hi
      obtain ⟨h1, h2⟩ := hi
      refine (h.rows i _ _ h1 h2).kept hg ?_
      rcases h.outer_row h1 with h3 | h3
      · exact .inl h3
      · exact .inr (by simpa [blk] using h3)
  · have h1 := apart_pairwise h
    have h2 : (Y.map (·.1)).Perm vs := by
      have := hp.map (·.1)
      rwa [zip_fst vs zss h.len] at this
    exact pairwise_apart ((h2.pairwise_iff (fun {a b} h => h.symm)).2 h1)
theorem sorted_setG {l m : List (List Int)} (hp : m.Perm l) (hs : SortedL cmpL m) (hn : l.Nodup) : m = setG cmpL l := by
  refine (setG_eq cmpL_ord ?_ fun x => hp.mem_iff).symm
  have hnd : m.Nodup := hp.nodup_iff.2 hn
  refine List.Pairwise.imp₂ (fun a b h1 h2 => ?_) hs hnd
  rcases Int.lt_or_eq_of_le h1 with h3 | h3
  · exact h3
  · exact absurd (cmpL_ord.eq_of h3) h2
theorem sortOwn_any (B : Nat) (A : Option Addr) (n c : Nat) (zss : List (List Int)) (w : World) (ho : OR w B 22 2 A n c zss) (hn : n ≤ 1048576) (h0 : 0 < n) (hnd : zss.Nodup) :
    Calls Tryz.prog 205 #[.slice A n c, .func (.func 120) #[] #[]] w (fun e w' => e = .returned (.tuple #[]) ∧ OR w' B 22 2 A n c (setG cmpL zss) ∧ w.grownBy w' (blk A)) := by
  obtain ⟨vs, h⟩ := ho
  obtain ⟨g, rfl, hgB, hgl⟩ := h.os.form h0
  refine (sortR_own B g n c _ w h.pv hn hgl).mono ?_
  rintro e w' ⟨Y, he, hv, hp, hs, hg⟩
  have hz : (Y.map (·.2)).Perm zss := by
    have := hp.map (·.2)
    rwa [zip_snd vs zss h.len] at this
  rw [← sorted_setG hz hs hnd]
  exact ⟨he, ⟨_, h.sorted hp hv hg⟩, hg⟩
end Go.Proofs.YtemdjochphehjaaGreat
