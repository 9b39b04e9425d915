/- What the laws' own helpers do with rows: mark them, hold them against marks, compare two that read alike. No condition beyond those stated. -/
import Derived.Test.YtainkgckahcdnaaRow
import Derived.Test.YtainkgckahcdnaaLaw
namespace Go.Proofs.Ytainkgckahcdnaa
open Go.RowKit

theorem lens_cells (zss : List (List Int)) {k : Nat} (h : k ≤ zss.length) : lens zss k = cells (zss.take k) := by
  induction k with
  | zero => simp [lens, cells]
  | succ k ih => rw [lens, ih (by omega), cells_take zss h]
theorem bulk_cells (zss : List (List Int)) : bulk zss = zss.length + cells zss := by
  unfold bulk
  rw [lens_cells zss (Nat.le_refl _), List.take_length]
theorem OI.setMid {w : World} {B : Nat} {e : TypeId} {A : Option Addr} {n c : Nat} {zs ys : List Int} {w' : World} (h : OI w B e A n c zs) (_ : OI w' B e A n c ys) (hg : w.grownBy w' (blk A)) {D : Nat} (hD : ∀ b, blk A = some b → b < D) : Mid w w' B D :=
  Mid.grown hg fun b hb => ⟨(h.os.lt hb).1, hD b hb⟩

set_option maxHeartbeats 400000 in
/-- as 'markInt64S_any', and nothing but the slice's own block has changed -/
theorem markInt64S_own (B : Nat) (e : TypeId) (A : Option Addr) (n c k : Nat) (zs : List Int) (w : World) (ha : OI w B e A n c zs) (hn : k + n ≤ 4611686018427387904) :
    Calls Try.prog 44 #[.slice A n c, .int .i64 k] w fun en w' => en = .returned (.int .i64 ((k + n : Nat) : Int)) ∧ OI w' B e A n c (marks k n) ∧ w.grownBy w' (blk A) := by
  have hl := Lib.hid ha.len
  go_enter Try.func44, Try.ntmps44
  go_wp2
  go_loopw [1, 5] (fun q i wr => ∃ j : Nat, j ≤ n ∧ i = .int .i64 j ∧ q = .int .i64 ((k + j : Nat) : Int) ∧ OI wr B e A n c (marked k zs j) ∧ w.grownBy wr (blk A)) (fun _ i _ => n - (intOf i).toNat)
  case atStart => exact ⟨0, Nat.zero_le _, rfl, by simp, by rw [marked_zero]; exact ha, World.grownBy.refl _ _⟩
  case round =>
    obtain ⟨j, hj, rfl, rfl, ho, hw⟩ := hrel
    by_cases hlt : j < n
    · obtain ⟨g, rfl, hca, hfa, hia⟩ := ho.cell hlt
      have ho' := ho.set j (u := ((k + j : Nat) : Int)) ⟨by omega, by omega⟩
      rw [marked_step (by rw [hl.out]; exact hlt)] at ho'
      have hw' : w.grownBy (wr.setCell ⟨g, j, none⟩ (.int .i64 ((k + j : Nat) : Int))) (blk (some ⟨g, 0, none⟩)) :=
        hw.trans ⟨rfl, rfl, rfl, by simp [World.setCell], fun b _ hb => Below.heap_setCell _ _ _ _ (fun e => hb (by rw [e]; rfl))⟩
      clear ho hw
      go_wp2
      go_roundw
      case rel => exact ⟨j + 1, by omega, by go_num, by go_num, ho', hw'⟩
      case measure => simp [intOf]; omega
    · obtain rfl : j = n := by omega
      have ho' : OI wr B e A j c (marks k j) := by rw [← hl.out]; rw [← hl.out] at ho; rw [marked_all] at ho; exact ho
      go_wp2
      go_ret
      exact ⟨rfl, ho', hw⟩

set_option maxHeartbeats 1000000 in
theorem markInt64SS_any (B D : Nat) (e2 e1 : TypeId) (A : Option Addr) (n c k : Nat) (zss : List (List Int)) (w : World) (ha : ORd w B D e2 e1 A n c zss) (hc : n ≤ 1099511627776) (hn : k + cells zss ≤ 4611686018427387904) :
    Calls Try.prog 14 #[.slice A n c, .int .i64 k] w fun en w' => en = .returned (.int .i64 ((k + cells zss : Nat) : Int)) ∧ ORd w' B D e2 e1 A n c (marksR k zss) ∧ Mid w w' B D := by
  have hl := Lib.hid ha.len
  have HC := Lib.hid (show ∀ j, j < n → cells (zss.take j) + (row zss j).length = cells (zss.take (j + 1)) ∧ cells (zss.take (j + 1)) ≤ cells zss from fun j hj => ⟨(cells_take zss (by rw [hl.out]; exact hj)).symm, cells_le _ _⟩)
  go_enter Try.func14, Try.ntmps14
  go_wp2
  go_loopw [1, 5] (fun q i wr => ∃ j : Nat, j ≤ n ∧ i = .int .i64 j ∧ q = .int .i64 ((k + cells (zss.take j) : Nat) : Int) ∧ ORd wr B D e2 e1 A n c (markedR k zss j) ∧ Mid w wr B D) (fun _ i _ => n - (intOf i).toNat)
  case atStart => exact ⟨0, Nat.zero_le _, rfl, by simp [cells], by rw [markedR_zero]; exact ha, Mid.refl _ _ _⟩
  case round =>
    obtain ⟨j, hj, rfl, rfl, ⟨vs, ho⟩, hw⟩ := hrel
    by_cases hlt : j < n
    · obtain ⟨hc1, hc2⟩ := HC.out j hlt
      obtain ⟨g, v, rfl, hv, hca, hfa, hr⟩ := ho.orv.get hlt
      have hre := markedR_row (k := k) (zss := zss) (j := j) (by rw [hl.out]; exact hlt)
      rw [hre] at hr
      have hlen := Lib.hid hr.len
      have hst := Lib.hid (markedR_step (k := k) (zss := zss) (j := j) (by rw [hl.out]; exact hlt))
      have hlr : v.2.1 = (row zss j).length := hlen.out.symm
      have hk1 : k + cells (zss.take j) + v.2.1 ≤ 4611686018427387904 := by omega
      have HE := Lib.hid (show k + cells (zss.take j) + v.2.1 = k + cells (zss.take (j + 1)) by omega)
      clear hre hlr hc1 hc2
      have hcall := markInt64S_own B e1 v.1 v.2.1 v.2.2 (k + cells (zss.take j)) (row zss j) wr hr hk1
      generalize hkc : k + cells (zss.take j) = kc at *
      have HK := Lib.hid hkc; clear hkc
      go_wp2_with fail
      refine hcall.mono ?_
      rintro e w1 ⟨rfl, ho1, hg1⟩
      have hnew := ho.orv.wrote hv hg1 ho1
      rw [hlen.out.symm, hst.out] at hnew
      have hm := hw.trans (OI.setMid hr ho1 hg1 (D := D) (fun b hb => ho.ltr j v b hv hb))
      have hnew' : ORd w1 B D e2 e1 (some ⟨g, 0, none⟩) n c (markedR k zss (j + 1)) := ⟨vs, hnew, ho.lt, ho.ltr⟩
      clear hnew ho ho1 hg1 hcall hr hca hfa
      go_wp2
      go_roundw
      case rel => exact ⟨j + 1, by omega, by go_num, by rw [← HE.out]; go_num, hnew', hm⟩
      case measure => simp [intOf]; omega
    · obtain rfl : j = n := by omega
      have q1 : cells (zss.take j) = cells zss := by rw [← hl.out, List.take_length]
      have ho' : ORd wr B D e2 e1 A j c (marksR k zss) := ⟨vs, by have e : markedR k zss j = marksR k zss := by rw [← hl.out, markedR_all]
                                                                  rw [e] at ho; exact ho⟩
      have E1 := Lib.hid q1; clear q1 ho
      go_wp2
      go_ret
      exact ⟨by rw [E1.out]; first | rfl | exact ret_int (by omega), ho', hw⟩

set_option maxHeartbeats 1000000 in
theorem heldInt64SS_any (A : Option Addr) (n c k : Nat) (zss : List (List Int)) (w : World) (ha : RR w A n (marksR k zss)) (hc : n ≤ 1099511627776) (hn : k + cells zss ≤ 4611686018427387904) :
    Calls Try.prog 45 #[.slice A n c, .int .i64 k] w fun en w' => en = .returned (.int .i64 ((k + cells zss : Nat) : Int)) ∧ w = w' := by
  have hl := Lib.hid (show zss.length = n by rw [← marksR_len k]; exact ha.len)
  have HC := Lib.hid (show ∀ j, j < n → cells (zss.take j) + (row zss j).length = cells (zss.take (j + 1)) ∧ cells (zss.take (j + 1)) ≤ cells zss from fun j hj => ⟨(cells_take zss (by rw [hl.out]; exact hj)).symm, cells_le _ _⟩)
  go_enter Try.func45, Try.ntmps45
  go_wp2
  go_loop [1, 5] (fun q i => ∃ j : Nat, j ≤ n ∧ i = .int .i64 j ∧ q = .int .i64 ((k + cells (zss.take j) : Nat) : Int)) (fun _ i => n - (intOf i).toNat)
  case atStart => exact ⟨0, Nat.zero_le _, rfl, by simp [cells]⟩
  case round =>
    obtain ⟨j, hj, rfl, rfl⟩ := hrel
    by_cases hlt : j < n
    · obtain ⟨hc1, hc2⟩ := HC.out j hlt
      obtain ⟨a, A1, n1, c1, rfl, hca, hn1, hc3, ha1⟩ := ha.get hlt
      rw [marksR_row k zss (by rw [hl.out]; exact hlt)] at ha1
      have hn1' : (row zss j).length = n1 := by rw [← ha1.len, marks_len]
      have hk1 : k + cells (zss.take j) + n1 ≤ 4611686018427387904 := by omega
      have HE := Lib.hid (show k + cells (zss.take j) + n1 = k + cells (zss.take (j + 1)) by omega)
      rw [hn1'] at ha1
      clear hc1 hc2 hn1'
      generalize hkc : k + cells (zss.take j) = kc at *
      have HK := Lib.hid hkc; clear hkc
      go_wp2_with fail
      refine (heldInt64S_any A1 n1 c1 kc _ ha1 hk1).mono ?_
      rintro e w' ⟨rfl, rfl⟩
      go_wp2
      go_round
      case rel => exact ⟨j + 1, by omega, by go_num, by rw [← HE.out]; go_num⟩
      case measure => simp [intOf]; omega
    · obtain rfl : j = n := by omega
      have E1 := Lib.hid (show cells (zss.take j) = cells zss by rw [← hl.out, List.take_length])
      go_wp2
      go_ret
      exact ⟨by rw [E1.out]; first | rfl | exact ret_int (by omega), rfl⟩
end Go.Proofs.Ytainkgckahcdnaa
