/- All words of a code: the program's own function. No condition beyond those stated. -/
import Derived.Test.YtdkbcjdimhgmnaaGreatQKP
import Derived.Test.YtdkbcjdimhgmnaaGreatQJK
set_option linter.unusedVariables false
set_option linter.unusedSimpArgs false
namespace Go.Proofs.YtdkbcjdimhgmnaaGreat
open Go.RowKit
set_option maxRecDepth 100000 in
set_option maxHeartbeats 4000000 in
theorem wordsOf_any (p : Int) (k : Nat) (A : Option Addr) (n c : Nat) (f : List Int) (M : Option Addr) (r rc m : Nat) (rows : List (List Int)) (q : Nat) (w : World) (hA : RI w A n f) (hr : RR w M r rows) (hf : FldOk p k f) (hq : p ^ k = (q : Int)) (hm : MatQ (p ^ k) m rows) (hr1 : 1 ≤ r) (hr8 : r ≤ 8) (hm32 : m ≤ 32) (hw : q ^ r ≤ 4096) :
    Calls Tryz.prog 54 #[.agg #[.int .i64 p, .int .i64 k, .slice A n c, .slice M r rc]] w (fun e w' => ∃ A' n' c', e = .returned (.slice A' n' c') ∧ (n' = 0 ∨ ∃ g, A' = some ⟨g, 0, none⟩) ∧ n' ≤ c' ∧ c' ≤ 9223372036854775807 ∧ RR w' A' n' (wordsTo p k f q m rows r) ∧ Below w.heap.size w w') := by
  obtain ⟨p2, p61, k1, k6, hq64, hq2⟩ := hf.nums
  rw [hq] at hq64 hq2
  have HL := Lib.hid hr.len
  have HM := Lib.hid hm
  have HQ := Lib.hid hq
  have HP := Lib.hid (show p ^ k = (q : Int) from hq)
  have HWL := Lib.hid (wordsTo_len p k f q m rows r)
  have HEN := Lib.hid (fun i hi => enc_word (p := p) (k := k) (f := f) (q := q) (m := m) (rows := rows) (by omega) r i hi)
  have hb1 := below_alloc w (.cells #[.int .i64 p, .int .i64 k, .slice A n c, .slice M r rc] 33)
  have X := Blk.new w 33 #[.int .i64 p, .int .i64 k, .slice A n c, .slice M r rc]
  have htab := tablesOf_any p k f q A n c _ hq hf (hA.keep hb1)
  clear hm hq hf
  go_enter Tryz.func54, Tryz.ntmps54
  go_wp2_with fail
  refine htab.mono ?_
  rintro e w2 ⟨A1, A2, A3, A4, d1, d2, d3, d4, rfl, hT, hb2⟩
  have hw2 := hb1.trans (hb2.mono hb1.size)
  have hal := below_alloc w2 (.cells #[.int .i64 q, .slice A1 q d1, .slice A2 q d2, .slice A3 q d3, .slice A4 q d4] 146)
  have X3 := (X.after hb2).after hal
  have T3 := Blk.new w2 146 #[.int .i64 q, .slice A1 q d1, .slice A2 q d2, .slice A3 q d3, .slice A4 q d4]
  have hT3 := hT.keep hal
  have hw3 := hw2.trans (hal.mono hw2.size)
  have x3 := X3.cell 3
  have t0 := T3.cell 0
  clear htab hT hb2 hal hb1 X hw2
  go_wp2_with fail
  refine (sizeR_any M r rc _ (by omega)).mono ?_
  rintro e w' ⟨rfl, rfl⟩
  go_wp2_with fail
  refine (powerUpTo_any q r 4096 _ (by omega) (by omega) (by omega) (by omega) (by omega) (by omega)).mono ?_
  rintro e w' ⟨rv, rfl, hcap, rfl⟩
  have hrv : rv = ((q ^ r : Nat) : Int) := by
    rw [Int.toNat_natCast] at hcap
    rw [Int.natCast_pow]
    refine hcap.eq ?_
    rw [← Int.natCast_pow]
    exact Int.ofNat_le.2 hw
  subst hrv
  clear hcap
  obtain ⟨wn, hwn⟩ : ∃ wn, wn = q ^ r := ⟨_, rfl⟩
  rw [← hwn] at hw HWL HEN ⊢
  clear hwn
  generalize hW0 : w2.alloc (.cells #[.int .i64 q, .slice A1 q d1, .slice A2 q d2, .slice A3 q d3, .slice A4 q d4] 146) = W0 at *
  generalize hgt : w2.heap.size = gt at *
  clear hW0 hgt
  have HR := Lib.hid (hr.keep hw3)
  obtain ⟨vs0, hov0⟩ := OR.nil_ W0 W0.heap.size (e2 := 22) (e1 := 2) (by decide)
  go_wp2
  clear x3 t0
  go_loopw [5, 6, 17] (fun ws _ i wr => ∃ (t : Nat) (A5 : Option Addr) (c5 : Nat) (vs : List Sl), t ≤ wn ∧ i = .int .i64 t ∧ ws = .slice A5 t c5 ∧ ORv wr W0.heap.size 22 2 A5 t c5 vs ((wordsTo p k f q m rows r).take t) ∧ Below W0.heap.size W0 wr) (fun _ _ i _ => wn - (intOf i).toNat)
  case atStart => exact ⟨0, none, 0, vs0, Nat.zero_le _, rfl, rfl, hov0, Below.refl _ _⟩
  case round =>
    clear hov0 vs0
    obtain ⟨t, A5, c5, vs, ht, rfl, rfl, hov, hwi⟩ := hrel
    by_cases htq : t < wn
    · have hwd := hwi.trans (below_drewn' _ wr 1)
      have hod := hov.below (below_drewn wr 1)
      simp only [← World.drew_is_drewN] at hwd hod
      have Xd := X3.after hwd
      have Td := T3.after hwd
      have x3 : wr.drew.cell? ⟨w.heap.size, 3, none⟩ = some (.slice M r rc) := Xd.cell 3
      have t0 : wr.drew.cell? ⟨gt, 0, none⟩ = some (.int .i64 q) := Td.cell 0
      have t1 : wr.drew.cell? ⟨gt, 1, none⟩ = some (.slice A1 q d1) := Td.cell 1
      have t2 : wr.drew.cell? ⟨gt, 2, none⟩ = some (.slice A2 q d2) := Td.cell 2
      have t3 : wr.drew.cell? ⟨gt, 3, none⟩ = some (.slice A3 q d3) := Td.cell 3
      have t4 : wr.drew.cell? ⟨gt, 4, none⟩ = some (.slice A4 q d4) := Td.cell 4
      have HS : ∀ {V : World}, Below W0.heap.size W0 V → V.cell? ⟨w.heap.size, 3, none⟩ = some (.slice M r rc) ∧ V.cell? ⟨gt, 0, none⟩ = some (.int .i64 q) ∧ V.cell? ⟨gt, 1, none⟩ = some (.slice A1 q d1) ∧ V.cell? ⟨gt, 2, none⟩ = some (.slice A2 q d2) ∧ V.cell? ⟨gt, 3, none⟩ = some (.slice A3 q d3) ∧ V.cell? ⟨gt, 4, none⟩ = some (.slice A4 q d4) := fun hb => ⟨(X3.after hb).cell 3, (T3.after hb).cell 0, (T3.after hb).cell 1, (T3.after hb).cell 2, (T3.after hb).cell 3, (T3.after hb).cell 4⟩
      have hsz0 := hwi.size
      have htk := Lib.hid (take_rowW (L := wordsTo p k f q m rows r) (x := t) (by rw [HWL.out]; exact htq))
      rw [← HEN.out t htq] at htk
      have hhf := highFirst_any t q r wr.drew (by omega) (by omega) (by omega) (by omega) (by omega)
      have HDL := Lib.hid (show (revL (digsP t q r)).length = r by rw [revL_len, digs_len])
      have HDN := Lib.hid (show ∀ i, i < r → 0 ≤ nth (revL (digsP t q r)) i ∧ nth (revL (digsP t q r)) i < (q : Int) from fun i hi => by
        rw [revL_nth _ (by rw [digs_len]; exact hi), digs_nth, digs_len, if_pos (by omega)]
        exact ⟨Int.emod_nonneg _ (by omega), Int.emod_lt_of_pos _ (by omega)⟩)
      clear hov Xd Td
      have HWD := Lib.hid hwd
      have hsd : wr.heap.size = wr.drew.heap.size := rfl
      go_wp2
      refine region_last (P := Tryz.prog) (S := fun V => V.cell? ⟨w.heap.size, 3, none⟩ = some (.slice M r rc) ∧ V.cell? ⟨gt, 0, none⟩ = some (.int .i64 q) ∧ V.cell? ⟨gt, 1, none⟩ = some (.slice A1 q d1) ∧ V.cell? ⟨gt, 2, none⟩ = some (.slice A2 q d2) ∧ V.cell? ⟨gt, 3, none⟩ = some (.slice A3 q d3) ∧ V.cell? ⟨gt, 4, none⟩ = some (.slice A4 q d4)) (by kernel_rfl) (by simp only [List.getLast?_cons_cons, List.getLast?_singleton]; rfl) (by dsimp only [List.dropLast]) (by kernel_rfl) ⟨x3, t0, t1, t2, t3, t4⟩ ?_
      intro hS
      refine wpAnyH_take (i := 0) (v := ?_) rfl (by kernel_rfl) (by kernel_rfl) (by kernel_rfl) (fun _ _ _ h => h) (Or.inl ⟨by rfl, ?_⟩) (by assumption) ?_
      rotate_left
      · (intro w hSw; (try dsimp only at hSw); go_simp; (try with_reducible rfl))
      simp only [Act.put, List.setIfInBounds_toArray, List.set_cons_zero, List.set_cons_succ]
      refine wpAnyH_take (i := 1) (v := ?_) rfl (by kernel_rfl) (by kernel_rfl) (by kernel_rfl) (fun _ _ _ h => h) (Or.inl ⟨by rfl, ?_⟩) (by assumption) ?_
      rotate_left
      · (intro w hSw; (try dsimp only at hSw); go_simp; (try with_reducible rfl))
      simp only [Act.put, List.setIfInBounds_toArray, List.set_cons_zero, List.set_cons_succ]
      refine wpAnyH_take (i := 2) (v := ?_) rfl (by kernel_rfl) (by kernel_rfl) (by kernel_rfl) (fun _ _ _ h => h) (Or.inl ⟨by rfl, ?_⟩) (by assumption) ?_
      rotate_left
      · (intro w hSw; (try dsimp only at hSw); go_simp; (try with_reducible rfl))
      simp only [Act.put, List.setIfInBounds_toArray, List.set_cons_zero, List.set_cons_succ]
      refine wpAnyH_take (i := 3) (v := ?_) rfl (by kernel_rfl) (by kernel_rfl) (by kernel_rfl) (fun _ _ _ h => h) (Or.inl ⟨by rfl, ?_⟩) (by assumption) ?_
      rotate_left
      · (intro w hSw; (try dsimp only at hSw); go_simp; (try with_reducible rfl))
      simp only [Act.put, List.setIfInBounds_toArray, List.set_cons_zero, List.set_cons_succ]
      refine wpAnyH_take (i := 4) (v := ?_) rfl (by kernel_rfl) (by kernel_rfl) (by kernel_rfl) (fun _ _ _ h => h) (Or.inl ⟨by rfl, ?_⟩) (by assumption) ?_
      rotate_left
      · (intro w hSw; (try dsimp only at hSw); go_simp; (try with_reducible rfl))
      simp only [Act.put, List.setIfInBounds_toArray, List.set_cons_zero, List.set_cons_succ]
      refine wpAnyH_take (i := 5) (v := ?_) rfl (by kernel_rfl) (by kernel_rfl) (by kernel_rfl) (fun _ _ _ h => h) (Or.inl ⟨by rfl, ?_⟩) (by assumption) ?_
      rotate_left
      · (intro w hSw; (try dsimp only at hSw); go_simp; (try with_reducible rfl))
      simp only [Act.put, List.setIfInBounds_toArray, List.set_cons_zero, List.set_cons_succ]
      refine wpAnyH_take (i := 6) (v := ?_) rfl (by kernel_rfl) (by kernel_rfl) (by kernel_rfl) (fun _ _ _ h => h) (Or.inl ⟨by rfl, ?_⟩) (by assumption) ?_
      rotate_left
      · (intro w hSw; (try dsimp only at hSw); go_simp; (try with_reducible rfl))
      simp only [Act.put, List.setIfInBounds_toArray, List.set_cons_zero, List.set_cons_succ]
      refine wpAnyH_take (i := 7) (v := ?_) rfl (by kernel_rfl) (by kernel_rfl) (by kernel_rfl) (fun _ _ _ h => h) (Or.inl ⟨by rfl, ?_⟩) (by assumption) ?_
      rotate_left
      · (intro w hSw; (try dsimp only at hSw); go_simp; (try with_reducible rfl))
      simp only [Act.put, List.setIfInBounds_toArray, List.set_cons_zero, List.set_cons_succ]
      simp only [List.getElem_toArray, List.getElem_cons_succ, List.getElem_cons_zero]
      generalize wr.drew = V at *
      clear x3 t0 t1 t2 t3 t4 hwd hwi
      refine wpAnyH_ready (rs := [8]) (by kernel_rfl) (by simp) ?_
      refine AllReadyH.cons rfl (fun K hK => ?_) AllReadyH.nil
      go_simp
      refine hhf.mono ?_
      rintro e w4 ⟨A7, n7, c7, rfl, ho7, hb4⟩
      dsimp only
      have hw4 := HWD.out.trans (hb4.mono HWD.out.size)
      have ho4 := hod.below hb4
      have h7n : n7 = r := by rw [← ho7.len, HDL.out]
      refine hK.out _ _ (HS hw4) (fun hS2 => ?_)
      clear hK K hS
      refine wpAnyH_ready (rs := [9]) (by kernel_rfl) (by simp) ?_
      refine AllReadyH.cons rfl (fun K hK => ?_) AllReadyH.nil
      go_simp
      subst h7n
      have hen := encode_any p k f q A1 A2 A3 A4 d1 d2 d3 d4 W0 w4 HQ.out (by omega) (by omega) hT3 hw4 M n7 rc m rows HR.out HM.out hr1 hr8 hm32 A7 c7 _ ho7.reads HDN.out
      refine hen.mono ?_
      rintro e w5 ⟨A8, n8, c8, rfl, ho8, hb5⟩
      dsimp only
      have hw5 := hw4.trans (hb5.mono hw4.size)
      have ho5 := ho4.below hb5
      have hap := ho4.apart_new (v := (A8, n8, c8)) (fun b hb => (ho8.os.lt hb).1)
      refine hK.out _ _ (HS hw5) (fun hS3 => ?_)
      clear hK K hS2
      refine wpAnyH_ready (rs := [10]) (by kernel_rfl) (by simp) ?_
      refine AllReadyH.cons rfl (fun K hK => ?_) AllReadyH.nil
      go_simp
      have hba := below_alloc w5 (.cells #[.slice A8 n8 c8] 22)
      have hL6 := Blk.new w5 22 #[.slice A8 n8 c8]
      have ho6 := ho5.below hba
      have ho86 := (ho8.below hba).more hw4.size
      have hw6 := hw5.trans (hba.mono hw5.size)
      refine hK.out _ _ (HS hw6) (fun hS4 => ?_)
      clear hK K hS3
      generalize w5.alloc _ = w6 at *
      generalize w5.heap.size = g6 at *
      refine wpAnyH_ready (rs := [11]) (by kernel_rfl) (by simp) ?_
      refine AllReadyH.cons rfl (fun K hK => ?_) AllReadyH.nil
      refine step_of_list (by rfl) ?_
      refine app_rowR _ (by rfl) (.tmp 20) (.tmp 30) (by rfl) W0.heap.size A5 t c5 vs _ (by rfl) ho6 (A8, n8, c8) _ ho86 hap g6 (by rfl) (hL6.cell 0) (by omega) hw6.size ?_
      intro A9 c9 w9 ho9 hg9 hf9
      refine list_onlyK ?_
      have hw9 := below_own hw6 hg9 hw6.size (fun b hb => (ho6.os.lt hb).1)
      rw [htk.out] at ho9
      refine hK.out _ _ (HS hw9) (fun hS5 => ?_)
      clear hK K hS4
      refine wpAnyH_done (by kernel_rfl) ?_ _
      dsimp only [atEnd]
      clear hS5 hg9 hf9 ho6 ho86 hap ho5 hL6 hba ho8 hen
      go_wp2
      go_roundw
      case rel => exact ⟨t + 1, A9, c9, _, by omega, by go_num, rfl, ho9, hw9⟩
      case measure => simp [intOf]; omega
    · obtain rfl : t = wn := by omega
      have hRM : RR wr A5 t (wordsTo p k f q m rows r) := by
        have := OR.reads ⟨_, hov⟩
        rwa [List.take_of_length_le (by rw [HWL.out]; exact Nat.le_refl _)] at this
      have hcap := hov.os.cap
      have hcs : t = 0 ∨ ∃ g, A5 = some ⟨g, 0, none⟩ := by
        rcases hov.os.cases with ⟨_, hn, _⟩ | ⟨g, cur, h, _⟩
        · exact .inl hn
        · exact .inr ⟨g, h⟩
      have hwe := hw3.trans (hwi.mono hw3.size)
      clear hov
      go_wp2
      go_ret
      exact ⟨A5, t, c5, rfl, hcs, hcap.1, hcap.2, hRM, hwe⟩
end Go.Proofs.YtdkbcjdimhgmnaaGreat
