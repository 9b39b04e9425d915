/- What the laws' own helpers do: mark, hold, measure and copy slices of numbers, and slices of such slices. No condition beyond those stated. -/
import Derived.Test.YtainkgckahcdnaaEq
namespace Go.Proofs.Ytainkgckahcdnaa
open Go.RowKit

theorem int_info : (Try.prog.info? 2).map (fun i => (i.zero, i.size, i.bytes)) = some (some (.int .i64 0), 1, 8) := by kernel_rfl
theorem ints_info : (Try.prog.info? 51).map (fun i => (i.zero, i.size, i.bytes)) = some (some (.slice none 0 0), 1, 24) := by kernel_rfl

set_option maxHeartbeats 400000 in
theorem heldInt64S_any (A : Option Addr) (n c k : Nat) (w : World) (ha : RI w A n (marks k n)) (hn : k + n ≤ 4611686018427387904) :
    Calls Try.prog 64 #[.slice A n c, .int .i64 k] w fun e w' => e = .returned (.int .i64 ((k + n : Nat) : Int)) ∧ w = w' := by
  go_enter Try.func64, Try.ntmps64
  go_wp2
  go_loop [1, 5] (fun q i => ∃ j : Nat, j ≤ n ∧ i = .int .i64 j ∧ q = .int .i64 ((k + j : Nat) : Int)) (fun _ i => n - (intOf i).toNat)
  case atStart => exact ⟨0, Nat.zero_le _, rfl, by simp⟩
  case round =>
    obtain ⟨j, hj, rfl, rfl⟩ := hrel
    by_cases hlt : j < n
    · obtain ⟨a, rfl, hca, hia⟩ := ha.get hlt
      rw [marks_nth hlt] at hca
      go_wp2
      go_round
      case rel => exact ⟨j + 1, by omega, by go_num, by go_num⟩
      case measure => simp [intOf]; omega
    · obtain rfl : j = n := by omega
      go_wp2
      go_ret
      exact ⟨rfl, rfl⟩

set_option maxHeartbeats 400000 in
theorem markInt64S_any (B : Nat) (e : TypeId) (A : Option Addr) (n c k : Nat) (zs : List Int) (w : World) (ha : OI w B e A n c zs) (hn : k + n ≤ 4611686018427387904) :
    Calls Try.prog 44 #[.slice A n c, .int .i64 k] w fun en w' => en = .returned (.int .i64 ((k + n : Nat) : Int)) ∧ OI w' B e A n c (marks k n) ∧ Below B w w' := by
  have hl := Lib.hid ha.len
  go_enter Try.func44, Try.ntmps44
  go_wp2
  go_loopw [1, 5] (fun q i wr => ∃ j : Nat, j ≤ n ∧ i = .int .i64 j ∧ q = .int .i64 ((k + j : Nat) : Int) ∧ OI wr B e A n c (marked k zs j) ∧ Below B w wr) (fun _ i _ => n - (intOf i).toNat)
  case atStart => exact ⟨0, Nat.zero_le _, rfl, by simp, by rw [marked_zero]; exact ha, Below.refl _ _⟩
  case round =>
    obtain ⟨j, hj, rfl, rfl, ho, hw⟩ := hrel
    by_cases hlt : j < n
    · obtain ⟨g, rfl, hca, hfa, hia⟩ := ho.cell hlt
      have hB := (ho.os.lt (k := g) rfl).1
      have ho' := ho.set j (u := ((k + j : Nat) : Int)) ⟨by omega, by omega⟩
      rw [marked_step (by rw [hl.out]; exact hlt)] at ho'
      have hw' := hw.setCell (p := ⟨g, j, none⟩) hB (.int .i64 ((k + j : Nat) : Int))
      clear ho hw
      go_wp2
      go_roundw
      case rel => exact ⟨j + 1, by omega, by go_num, by go_num, ho', hw'⟩
      case measure => simp [intOf]; omega
    · obtain rfl : j = n := by omega
      have ho' : OI wr B e A j c (marks k j) := by rw [← hl.out]; rw [← hl.out] at ho; rw [marked_all] at ho; exact ho
      go_wp2
      go_ret
      exact ⟨rfl, ho', hw⟩

def szF (left tot : Int) : Int := if tot ≤ left then left - tot else -1

set_option maxHeartbeats 400000 in
theorem szInt64S_any (A : Option Addr) (n c : Nat) (l : Int) (w : World) (hn : n ≤ 9223372036854775807) (h0 : 0 ≤ l) (hl : l ≤ 1048576) :
    Calls Try.prog 37 #[.slice A n c, .int .i64 l] w fun e w' => e = .returned (.int .i64 (szF l n)) ∧ w = w' := by
  by_cases h : (n : Int) ≤ l
  · have H := Lib.hid (show szF l n = l - n by simp [szF, h])
    go_enter Try.func37, Try.ntmps37
    go_wp2
    go_ret
    exact ⟨by rw [H.out]; rfl, rfl⟩
  · have H := Lib.hid (show szF l n = -1 by simp [szF, h])
    go_enter Try.func37, Try.ntmps37
    go_wp2
    go_ret
    exact ⟨by rw [H.out]; rfl, rfl⟩

set_option maxHeartbeats 400000 in
theorem toInt64S_any (A : Option Addr) (n c : Nat) (zs : List Int) (w : World) (ha : RI w A n zs) (hn : n ≤ 1099511627776) :
    Calls Try.prog 39 #[.slice A n c] w (RetI w 2 zs) := by
  have hl := Lib.hid ha.len
  have hall : All64 zs := fun z hz => by
    obtain ⟨i, hi, rfl⟩ := List.mem_iff_getElem.1 hz
    obtain ⟨ad, u, _, _, _, h⟩ := ha.at_ i _ (List.getElem?_eq_getElem hi)
    exact h
  have hmk := run_make_row' (P := Try.prog) 51 2 (.int .i64 0) 8 Try.underlying51 int_info rfl .i64 .i64 n (by omega) (by omega)
  go_enter Try.func39, Try.ntmps39
  go_wp2
  have ho0 := OI.made w w.heap.size 2 n (Nat.le_refl _) (by omega)
  have hb0 := below_alloc w (.cells (madeCells #[.int .i64 0] n) 2)
  go_loopw [4] (fun i wr => ∃ j : Nat, j ≤ n ∧ i = .int .i64 j ∧ OI wr w.heap.size 2 (some ⟨w.heap.size, 0, none⟩) n n (copied zs (List.replicate n 0) j) ∧ Below w.heap.size w wr) (fun i _ => n - (intOf i).toNat)
  case atStart => exact ⟨0, Nat.zero_le _, rfl, by rw [copied_zero]; exact ho0, hb0⟩
  case round =>
    obtain ⟨j, hj, rfl, ho, hw⟩ := hrel
    clear ho0 hb0 hmk
    by_cases hlt : j < n
    · obtain ⟨a, rfl, hcs, his⟩ := (ha.keep hw).get hlt
      obtain ⟨g, hg, hca, hfa, hia⟩ := ho.cell hlt
      obtain rfl : w.heap.size = g := by injection hg with hg; injection hg
      have ho' := ho.set j (u := nth zs j) his
      rw [copied_step (by rw [hl.out]; exact hlt) (by simpa using hlt)] at ho'
      have hw' := hw.setCell (p := ⟨w.heap.size, j, none⟩) (Nat.le_refl _) (.int .i64 (nth zs j))
      clear ho hw hg
      go_wp2
      go_roundw
      case rel => exact ⟨j + 1, by omega, by go_num, ho', hw'⟩
      case measure => simp [intOf]; omega
    · obtain rfl : j = n := by omega
      have ho' : OI wr w.heap.size 2 (some ⟨w.heap.size, 0, none⟩) j j zs := by
        have h := copied_all (xs := zs) (zs := List.replicate j 0) (by simp [hl.out])
        rw [hl.out] at h
        rw [h] at ho
        exact ho
      go_wp2
      go_ret
      exact ⟨_, _, _, rfl, ho', hw⟩


/-- the lengths of the first k rows together -/
def lens (zss : List (List Int)) : Nat → Nat
  | 0 => 0
  | k + 1 => lens zss k + (row zss k).length
def bulk (zss : List (List Int)) : Nat := zss.length + lens zss zss.length
theorem lens_mono (zss : List (List Int)) {a b : Nat} (h : a ≤ b) : lens zss a ≤ lens zss b := by
  induction h with
  | refl => exact Nat.le_refl _
  | step _ ih => exact Nat.le_trans ih (Nat.le_add_right _ _)
theorem bulk_eq {w : World} {A : Option Addr} {n : Nat} {zss : List (List Int)} (h : RR w A n zss) : bulk zss = n + lens zss n := by
  unfold bulk
  rw [h.len]
theorem lens_row (zss : List (List Int)) {k n : Nat} (h : k < n) : (row zss k).length ≤ lens zss n :=
  Nat.le_trans (Nat.le_add_left _ _) (lens_mono zss (show k + 1 ≤ n from h))

set_option maxHeartbeats 400000 in
theorem szInt64SS_any (A : Option Addr) (n c : Nat) (l : Int) (zss : List (List Int)) (w : World) (ha : RR w A n zss) (hn : n ≤ 9223372036854775807) (h0 : 0 ≤ l) (hl : l ≤ 1048576) :
    Calls Try.prog 8 #[.slice A n c, .int .i64 l] w fun e w' => e = .returned (.int .i64 (szF l (bulk zss))) ∧ w = w' := by
  have hla := Lib.hid ha.len
  by_cases h : (n : Int) ≤ l
  · go_enter Try.func8, Try.ntmps8
    go_wp2
    go_loop [1, 5] (fun q i => ∃ k : Nat, k ≤ n ∧ i = .int .i64 k ∧ (0 : Int) ≤ l - n - lens zss k ∧ q = .int .i64 (l - n - lens zss k)) (fun _ i => n - (intOf i).toNat)
    case atStart => exact ⟨0, Nat.zero_le _, rfl, by simp [lens]; omega, by simp [lens]⟩
    case round =>
      obtain ⟨k, hk, rfl, hp, rfl⟩ := hrel
      by_cases hlt : k < n
      · obtain ⟨a, A1, n1, c1, rfl, hca, hn1, hc1, ha1⟩ := ha.get hlt
        have hl1 := Lib.hid ha1.len
        by_cases he : (n1 : Int) ≤ l - n - lens zss k
        · have H := Lib.hid (show szF (l - n - lens zss k) n1 = l - n - lens zss k - n1 by simp [szF, he])
          have HS := Lib.hid (show lens zss (k + 1) = lens zss k + n1 by rw [← hl1.out]; rfl)
          go_wp2_with (go_at_call 37; refine (szInt64S_any A1 n1 c1 _ _ (by omega) (by omega) (by omega)).mono ?_; rintro e w1 ⟨rfl, rfl⟩; rw [H.out])
          go_round
          case rel => exact ⟨k + 1, by omega, by go_num, by rw [HS.out]; omega, by rw [HS.out]; go_num⟩
          case measure => simp [intOf]; omega
        · have H := Lib.hid (show szF (l - n - lens zss k) n1 = -1 by simp [szF, he])
          have HS := Lib.hid (show szF l (bulk zss) = -1 by
            have h1 := lens_mono zss (show k + 1 ≤ n from hlt)
            have h2 : lens zss (k + 1) = lens zss k + n1 := by rw [← hl1.out]; rfl
            unfold szF bulk
            rw [hla.out, if_neg (by omega)])
          clear he
          go_wp2_with (go_at_call 37; refine (szInt64S_any A1 n1 c1 _ _ (by omega) (by omega) (by omega)).mono ?_; rintro e w1 ⟨rfl, rfl⟩; rw [H.out])
          go_ret
          exact ⟨by rw [HS.out]; rfl, rfl⟩
      · obtain rfl : k = n := by omega
        have HS := Lib.hid (show szF l (bulk zss) = l - k - lens zss k by
          unfold szF bulk
          rw [hla.out, if_pos (by omega)]
          omega)
        go_wp2
        go_ret
        exact ⟨by rw [HS.out]; rfl, rfl⟩
  · have H := Lib.hid (show szF l (bulk zss) = -1 by
      unfold szF bulk
      rw [hla.out, if_neg (by omega)])
    go_enter Try.func8, Try.ntmps8
    go_wp2
    go_ret
    exact ⟨by rw [H.out]; rfl, rfl⟩

/-- the first j rows copied over -/
def copiedR (xs zs : List (List Int)) (j : Nat) : List (List Int) := xs.take j ++ zs.drop j
theorem copiedR_zero (xs zs : List (List Int)) : copiedR xs zs 0 = zs := by simp [copiedR]
theorem copiedR_all {xs zs : List (List Int)} (h : xs.length = zs.length) : copiedR xs zs xs.length = xs := by
  rw [copiedR, List.take_length, List.drop_eq_nil_of_le (by omega), List.append_nil]
theorem copiedR_step {xs zs : List (List Int)} {j : Nat} (hx : j < xs.length) (hz : j < zs.length) : (copiedR xs zs j).set j (row xs j) = copiedR xs zs (j + 1) := by
  unfold copiedR
  have hl : (xs.take j).length = j := by rw [List.length_take]; omega
  rw [List.set_append_right _ _ (by omega), hl, Nat.sub_self, List.drop_eq_getElem_cons hz, List.set_cons_zero, List.take_succ_eq_append_getElem hx, row_get hx, List.append_assoc]
  rfl

set_option maxHeartbeats 400000 in
theorem toInt64SS_any (A : Option Addr) (n c : Nat) (zss : List (List Int)) (w : World) (ha : RR w A n zss) (hn : n ≤ 1099511627776) (hr : lens zss n ≤ 1099511627776) :
    Calls Try.prog 10 #[.slice A n c] w (RetR w 51 2 zss) := by
  have hla := Lib.hid ha.len
  have hrow : ∀ k, k < n → (row zss k).length ≤ 1099511627776 := fun k hk => Nat.le_trans (lens_row zss hk) hr
  have HR := Lib.hid hrow; clear hrow
  have hmk := run_make_row' (P := Try.prog) 22 51 (.slice none 0 0) 24 Try.underlying22 ints_info rfl .i64 .i64 n (by omega) (by omega)
  go_enter Try.func10, Try.ntmps10
  go_wp2
  have ho0 := OR.made w w.heap.size (e2 := 51) (e1 := 2) (by decide) n (Nat.le_refl _) (by omega)
  have hb0 := below_alloc w (.cells (madeCells #[.slice none 0 0] n) 51)
  go_loopw [4] (fun i wr => ∃ j : Nat, j ≤ n ∧ i = .int .i64 j ∧ OR wr w.heap.size 51 2 (some ⟨w.heap.size, 0, none⟩) n n (copiedR zss (List.replicate n []) j) ∧ Below w.heap.size w wr) (fun i _ => n - (intOf i).toNat)
  case atStart => exact ⟨0, Nat.zero_le _, rfl, by rw [copiedR_zero]; exact ho0, hb0⟩
  case round =>
    obtain ⟨j, hj, rfl, ho, hw⟩ := hrel
    clear ho0 hb0 hmk
    by_cases hlt : j < n
    · obtain ⟨a, A1, n1, c1, rfl, hcs, hn1, hc1, hrs⟩ := (ha.keep hw).get hlt
      have hl1 : n1 ≤ 1099511627776 := by have := HR.out j hlt; rw [hrs.len] at this; exact this
      obtain ⟨vs, hov⟩ := ho
      obtain ⟨g, v, hg, hv, hco, hfo, _⟩ := hov.get hlt
      obtain rfl : w.heap.size = g := by injection hg with hg; injection hg
      clear hg
      go_wp2_with (go_at_call 39; refine (toInt64S_any A1 n1 c1 (row zss j) _ hrs hl1).mono ?_; rintro e w1 ⟨A2, n2, c2, rfl, ho2, hb2⟩; obtain ⟨hco', hfo'⟩ : w1.cell? ⟨w.heap.size, j, none⟩ = some (.slice v.1 v.2.1 v.2.2) ∧ w1.frozen? ⟨w.heap.size, j, none⟩ = false := ⟨below_cell hb2 hco, (hb2.frozen (p := ⟨w.heap.size, j, none⟩) (block_lt hco)).trans hfo⟩)
      have ho' := hov.upd (w' := w1) (v' := (A2, n2, c2)) (z := row zss j) hv (grownBy_of_below hb2 _) (ho2.more (by have := hw.size; omega)) (by
        cases hA : blk A2 with
        | none => exact .inl rfl
        | some b => exact .inr (.inr ⟨b, rfl, (ho2.os.lt hA).1⟩))
      rw [copiedR_step (by rw [hla.out]; exact hlt) (by simpa using hlt)] at ho'
      have hw' := (hw.trans (hb2.mono hw.size)).setCell (p := ⟨w.heap.size, j, none⟩) (Nat.le_refl _) (.slice A2 n2 c2)
      clear hov hw hco hfo
      go_roundw
      case rel => exact ⟨j + 1, by omega, by go_num, ho', hw'⟩
      case measure => simp [intOf]; omega
    · obtain rfl : j = n := by omega
      have ho' : OR wr w.heap.size 51 2 (some ⟨w.heap.size, 0, none⟩) j j zss := by
        have h := copiedR_all (xs := zss) (zs := List.replicate j []) (by simp [hla.out])
        rw [hla.out] at h
        rw [h] at ho
        exact ho
      go_wp2
      go_ret
      exact ⟨_, _, _, rfl, ho', hw⟩
end Go.Proofs.Ytainkgckahcdnaa
