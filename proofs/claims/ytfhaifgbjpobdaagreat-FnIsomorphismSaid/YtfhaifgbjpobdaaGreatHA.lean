/- Permutations composed and inverted, both sides. No condition beyond those stated. -/
import Derived.Test.YtfhaifgbjpobdaaGreatGG
import Derived.Test.YtfhaifgbjpobdaaGreatGB
import Derived.Test.YtfhaifgbjpobdaaGreatGM
import Derived.Deep.RegionHeldLaw
set_option linter.unusedVariables false
set_option linter.unusedSimpArgs false
namespace Go.Proofs.YtfhaifgbjpobdaaGreat
open Go.RowKit

theorem perm_nat {p : List Int} (hp : Perm p) {n : Nat} (hl : p.length = n) {k : Nat} (hk : k < n) : ∃ q : Nat, nth p k = q ∧ q < n := by
  have := hp.bd k (by omega)
  exact ⟨(nth p k).toNat, by omega, by omega⟩
theorem invTo_zero (n : Nat) (p : List Int) : relTo (iotaP n) p 0 = List.replicate n 0 := by rw [relTo_zero, iotaP_len]
theorem invTo_step {n : Nat} {p : List Int} {k q : Nat} (hk : k < n) (hq : nth p k = q) : (relTo (iotaP n) p k).set q (k : Int) = relTo (iotaP n) p (k + 1) := by
  rw [relTo_step, hq, iotaP_nth hk]
  rfl
theorem invTo_all {p : List Int} {n : Nat} (hl : p.length = n) : relTo (iotaP n) p n = invP p := by
  subst hl
  rw [invP, relC, iotaP_len]
theorem perm_bound {p : List Int} (hp : Perm p) {n : Nat} (hl : p.length = n) (hn : n ≤ 4398046511104) : All64 p := fun z hz => by
  obtain ⟨k, hk, rfl⟩ := mem_nth hz
  have := hp.bd k hk
  exact ⟨by omega, by omega⟩
set_option maxHeartbeats 1000000 in
theorem inverse_any (A : Option Addr) (n c : Nat) (p : List Int) (w : World) (ha : RI w A n p) (hp : Perm p) (hn : n ≤ 1048576) :
    Calls Tryz.prog 15 #[.slice A n c] w (RetI w 2 (invP p)) := by
  have hla := Lib.hid ha.len
  have HP := Lib.hid hp
  clear hp
  have hmk := run_make_row' (P := Tryz.prog) 24 2 (.int .i64 0) 8 Tryz.underlying24 int_info rfl .i64 .i64 n (by omega) (by omega)
  have ho0 := OI.made w w.heap.size 2 n (Nat.le_refl _) (by omega)
  rw [← invTo_zero n p] at ho0
  have hb0 := below_alloc w (.cells (madeCells #[.int .i64 0] n) 2)
  go_enter Tryz.func15, Tryz.ntmps15
  go_wp2
  go_loopw [4, 5, 11] (fun _ _ i wr => ∃ k : Nat, k ≤ n ∧ i = .int .i64 k ∧ OI wr w.heap.size 2 (some ⟨w.heap.size, 0, none⟩) n n (relTo (iotaP n) p k) ∧ Below w.heap.size w wr) (fun _ _ i _ => n - (intOf i).toNat)
  case atStart => exact ⟨0, Nat.zero_le _, rfl, ho0, hb0⟩
  case round =>
    clear ho0 hb0 hmk
    obtain ⟨k, hk, rfl, ho, hw⟩ := hrel
    by_cases hlt : k < n
    · obtain ⟨a, rfl, hca, -⟩ := (ha.keep hw).get hlt
      obtain ⟨q, hq, hqn⟩ := perm_nat HP.out hla.out hlt
      have hst := Lib.hid (invTo_step hlt hq)
      rw [hq] at hca
      obtain ⟨g, hg, cc, cf, -⟩ := ho.cell hqn
      cases hg
      have ho2 := ho.set q (u := (k : Int)) ⟨by omega, by omega⟩
      rw [hst.out] at ho2
      have hw2 := Below.setCell hw (p := ⟨w.heap.size, q, none⟩) (Nat.le_refl _) (.int .i64 (k : Int))
      clear ho hw hq
      go_wp2
      go_roundw
      case rel => exact ⟨k + 1, by omega, by go_num, ho2, hw2⟩
      case measure => simp [intOf]; omega
    · obtain rfl : k = n := by omega
      rw [invTo_all hla.out] at ho
      go_wp2
      go_ret
      exact ⟨_, _, _, rfl, ho, hw⟩
theorem thn_set {p q : List Int} {n k : Nat} (hl : p.length = n) (hk : k < n) {x : Int} (hx : nth (thenP p q) k = x) : (copied (thenP p q) (List.replicate n 0) k).set k x = copied (thenP p q) (List.replicate n 0) (k + 1) := by
  rw [← hx]
  exact copied_step (by rw [thenP_len, hl]; exact hk) (by simpa using hk)
theorem thn_all {p q : List Int} {n : Nat} (hl : p.length = n) : copied (thenP p q) (List.replicate n 0) n = thenP p q := by
  have := copied_all (xs := thenP p q) (zs := List.replicate n 0) (by rw [thenP_len, hl]; simp)
  rwa [thenP_len, hl] at this
set_option maxHeartbeats 1000000 in
theorem compose_any (A : Option Addr) (n c : Nat) (p : List Int) (B : Option Addr) (m d : Nat) (q : List Int) (w : World) (ha : RI w A n p) (hb : RI w B m q) (hp : ∀ k, k < n → 0 ≤ nth p k ∧ nth p k < m) (hn : n ≤ 1048576) (hm : m ≤ 1048576) :
    Calls Tryz.prog 14 #[.slice A n c, .slice B m d] w (RetI w 2 (thenP p q)) := by
  have hla := Lib.hid ha.len
  have HP := Lib.hid hp
  clear hp
  have hmk := run_make_row' (P := Tryz.prog) 24 2 (.int .i64 0) 8 Tryz.underlying24 int_info rfl .i64 .i64 n (by omega) (by omega)
  have ho0 := OI.made w w.heap.size 2 n (Nat.le_refl _) (by omega)
  rw [← copied_zero (thenP p q) (List.replicate n 0)] at ho0
  have hb0 := below_alloc w (.cells (madeCells #[.int .i64 0] n) 2)
  go_enter Tryz.func14, Tryz.ntmps14
  go_wp2
  go_loopw [6, 12] (fun _ i wr => ∃ k : Nat, k ≤ n ∧ i = .int .i64 k ∧ OI wr w.heap.size 2 (some ⟨w.heap.size, 0, none⟩) n n (copied (thenP p q) (List.replicate n 0) k) ∧ Below w.heap.size w wr) (fun _ i _ => n - (intOf i).toNat)
  case atStart => exact ⟨0, Nat.zero_le _, rfl, ho0, hb0⟩
  case round =>
    clear ho0 hb0 hmk
    obtain ⟨k, hk, rfl, ho, hw⟩ := hrel
    by_cases hlt : k < n
    · obtain ⟨a, rfl, hca, -⟩ := (ha.keep hw).get hlt
      obtain ⟨x, hx, hxm⟩ : ∃ x : Nat, nth p k = x ∧ x < m := by
        have := HP.out k hlt
        exact ⟨(nth p k).toNat, by omega, by omega⟩
      have hxx : nth (thenP p q) k = nth q x := by rw [thenP_nth (by rw [hla.out]; exact hlt), hx]; rfl
      have hst := Lib.hid (thn_set hla.out hlt hxx)
      rw [hx] at hca
      obtain ⟨b, rfl, hcb, hib⟩ := (hb.keep hw).get hxm
      obtain ⟨g, hg, cc, cf, -⟩ := ho.cell hlt
      cases hg
      have ho2 := ho.set k (u := nth q x) hib
      rw [hst.out] at ho2
      have hw2 := Below.setCell hw (p := ⟨w.heap.size, k, none⟩) (Nat.le_refl _) (.int .i64 (nth q x))
      clear ho hw hx hxx
      go_wp2
      go_roundw
      case rel => exact ⟨k + 1, by omega, by go_num, ho2, hw2⟩
      case measure => simp [intOf]; omega
    · obtain rfl : k = n := by omega
      rw [thn_all hla.out] at ho
      go_wp2
      go_ret
      exact ⟨_, _, _, rfl, ho, hw⟩
theorem thn_take {p q : List Int} {n k : Nat} (hl : p.length = n) (hk : k < n) {x : Int} (hx : nth (thenP p q) k = x) : (thenP p q).take k ++ [x] = (thenP p q).take (k + 1) := by
  rw [List.take_succ_eq_append_getElem (by rw [thenP_len, hl]; exact hk), ← nth_get, hx]
end Go.Proofs.YtfhaifgbjpobdaaGreat
/- The automorphisms that a search has found, both sides. No condition beyond those stated. -/
namespace Go.Proofs.YtfhaifgbjpobdaaGreat
open Go.RowKit

/-- each of some permutations behind the first one's inverse -/
def autL (l : List (List Int)) : List (List Int) := l.map fun p => thenP p (invP (row l 0))
theorem add_zero_ (a : Addr) : a.add 0 = a := by simp [Addr.add]
theorem autL_len (l : List (List Int)) : (autL l).length = l.length := by simp [autL]
theorem autL_at {l : List (List Int)} {k : Nat} (h : k < l.length) : row (autL l) k = thenP (row l k) (invP (row l 0)) := by
  rw [row_get (by rw [autL_len]; exact h), row_get h]
  simp [autL]
theorem autL_step {l : List (List Int)} {k : Nat} (h : k < l.length) : (autL l).take k ++ [thenP (row l k) (invP (row l 0))] = (autL l).take (k + 1) := by
  rw [← autL_at h, List.take_succ_eq_append_getElem (by rw [autL_len]; exact h), row_get (by rw [autL_len]; exact h)]
/-- permutations of n numbers -/
def PermsOf (n : Nat) (l : List (List Int)) : Prop := ∀ k, k < l.length → (row l k).length = n ∧ Perm (row l k)
theorem PermsOf.bd {n : Nat} {l : List (List Int)} (h : PermsOf n l) {k : Nat} (hk : k < l.length) : ∀ v, v < n → 0 ≤ nth (row l k) v ∧ nth (row l k) v < (n : Nat) := fun v hv => by
  obtain ⟨h1, h2⟩ := h k hk
  have := h2.bd v (by omega)
  rw [h1] at this
  exact this
theorem setG_take {l : List (List Int)} {k : Nat} (h : k < l.length) : putG cmpL (setG cmpL (l.take k)) (row l k) = setG cmpL (l.take (k + 1)) := by
  rw [List.take_succ_eq_append_getElem h, setG_snoc, row_get h]
end Go.Proofs.YtfhaifgbjpobdaaGreat
