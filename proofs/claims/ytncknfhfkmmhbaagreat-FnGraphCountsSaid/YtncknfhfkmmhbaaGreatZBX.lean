/- The law FnGraphCounts, joined with its plain facts. No condition beyond those stated. -/
import Derived.Test.YtncknfhfkmmhbaaGreatZBW
set_option linter.unusedVariables false
set_option linter.unusedSimpArgs false
namespace Go.Proofs.YtncknfhfkmmhbaaGreat
open Go.RowKit

/-- the forms say all -/
theorem genOk_of {n T N : Nat} {L : List (List (List Int))} {F : List (Bool × List Int × List Ed)} (hg : gsP n T = L) (hf : L.map (formG n) = F) (hl : LevOk n T) (hT : T ≤ 11) (hn : n ≤ 64) (he : (L.all fun bs => edgB n (edL bs)) = true) (hs : (F.all fun f => !f.1) = true)
    (hd : ((List.range N).all fun i => (List.range N).all fun k => match F[i]?, F[k]? with | some f, some g => decide (sameG f.2.1 f.2.2 g.2.1 g.2.2 = decide (i = k)) | _, _ => false) = true) (hc : cntN n = (gsP n T).length) (hN : cntN n = N) (h1 : 1 ≤ cntN n) (h2 : cntN n ≤ 1000) : GenOk n T := by
  refine ⟨hT, hl, hc, h1, h2, fun i k bs cs hi hk => ?_⟩
  rw [hg] at hi hk
  have hlN : L.length = N := by rw [← hg, ← hc, hN]
  have gok : ∀ bs ∈ L, GraphOk (List.replicate n 0) (edL bs) := fun bs hb => edgB_ok hn (List.all_eq_true.1 he bs hb)
  have nsp : ∀ bs ∈ L, (runP (List.replicate n 0) (edL bs) 20000).spent = false := fun bs hb => by
    have := List.all_eq_true.1 hs (formG n bs) (by rw [← hf]; exact List.mem_map_of_mem hb)
    rw [runN_eq]
    simpa [formG] using this
  have code : ∀ bs ∈ L, codeP (List.replicate n 0) (edL bs) 20000 = 0 := fun bs hb => by
    unfold codeP
    rw [tB_yes (gok bs hb), if_neg (by simp), if_neg (by decide), show (20000 : Int).toNat = 20000 from rfl, nsp bs hb]
    rfl
  have hbi := List.mem_of_getElem? hi
  have hbk := List.mem_of_getElem? hk
  have h0 : code2P (List.replicate n 0) (edL bs) (List.replicate n 0) (edL cs) 20000 = 0 := by rw [code2_eq (gok _ hbi) (gok _ hbk) (code _ hbi)]; exact code _ hbk
  refine ⟨h0, ?_⟩
  unfold isoP
  rw [if_pos h0]
  have hi' : F[i]? = some (formG n bs) := by rw [← hf, List.getElem?_map, hi]; rfl
  have hk' : F[k]? = some (formG n cs) := by rw [← hf, List.getElem?_map, hk]; rfl
  have hiN : i < N := by rw [← hlN]; exact (List.getElem?_eq_some_iff.1 hi).1
  have hkN : k < N := by rw [← hlN]; exact (List.getElem?_eq_some_iff.1 hk).1
  have := List.all_eq_true.1 (List.all_eq_true.1 hd i (List.mem_range.2 hiN)) k (List.mem_range.2 hkN)
  rw [hi', hk'] at this
  rw [show (20000 : Int).toNat = 20000 from rfl, runN_eq, runN_eq]
  exact of_decide_eq_true this
theorem lev1_0 : lev 1 0 = L1_0 := rfl
theorem lev1_1 : lev 1 1 = [] := by
  show extdP 1 (lev 1 0) = []
  rw [lev1_0, extdF_eq]
  exact stepL1_0
theorem gs1 : gsP 1 1 = L1 := by
  unfold gsP
  rw [show List.range 1 = [0] from rfl]
  simp only [List.flatMap_cons, List.flatMap_nil, lev1_0, List.append_nil]
  simp only [L1, List.append_assoc]
theorem frm1 : L1.map (formG 1) = F1 := by
  simp only [L1, F1, List.map_append, form1_0]
theorem sys1 : L1.all (sysB 1) = true := by decide +kernel
theorem edg1 : (L1.all fun bs => edgB 1 (edL bs)) = true := by decide +kernel
theorem spn1 : (F1.all fun f => !f.1) = true := by decide +kernel
set_option maxRecDepth 100000 in
theorem dif1 : ((List.range 1).all fun i => (List.range 1).all fun k => match F1[i]?, F1[k]? with | some f, some g => decide (sameG f.2.1 f.2.2 g.2.1 g.2.2 = decide (i = k)) | _, _ => false) = true := by decide +kernel
set_option maxRecDepth 100000 in
theorem cntT1 : cntN 1 = 1 := by decide +kernel
theorem levOk1 : LevOk 1 1 := by
  refine ⟨fun t ht => ?_, fun t ht bs hb => ?_, lev1_1⟩
  · match t, ht with
    | 0, _ => exact ⟨by rw [lev1_0]; decide, by rw [lev1_0]; decide⟩
  · match t, ht with
    | 0, _ => rw [lev1_0] at hb; exact sysB_ok (List.all_eq_true.1 sys1 bs (by simp only [L1, List.mem_append]; simp only [hb, true_or, or_true]))
theorem genOk1 : GenOk 1 1 := genOk_of gs1 frm1 levOk1 (by omega) (by omega) edg1 spn1 dif1 (cntT1.trans (by rw [gs1]; rfl)) cntT1 (by rw [cntT1]; omega) (by rw [cntT1]; omega)
theorem lev2_0 : lev 2 0 = L2_0 := rfl
theorem lev2_1 : lev 2 1 = L2_1 := by
  show extdP 2 (lev 2 0) = L2_1
  rw [lev2_0, extdF_eq]
  exact stepL2_0
theorem lev2_2 : lev 2 2 = [] := by
  show extdP 2 (lev 2 1) = []
  rw [lev2_1, extdF_eq]
  exact stepL2_1
theorem gs2 : gsP 2 2 = L2 := by
  unfold gsP
  rw [show List.range 2 = [0, 1] from rfl]
  simp only [List.flatMap_cons, List.flatMap_nil, lev2_0, lev2_1, List.append_nil]
  simp only [L2, List.append_assoc]
theorem frm2 : L2.map (formG 2) = F2 := by
  simp only [L2, F2, List.map_append, form2_0, form2_1]
theorem sys2 : L2.all (sysB 2) = true := by decide +kernel
theorem edg2 : (L2.all fun bs => edgB 2 (edL bs)) = true := by decide +kernel
theorem spn2 : (F2.all fun f => !f.1) = true := by decide +kernel
set_option maxRecDepth 100000 in
theorem dif2 : ((List.range 2).all fun i => (List.range 2).all fun k => match F2[i]?, F2[k]? with | some f, some g => decide (sameG f.2.1 f.2.2 g.2.1 g.2.2 = decide (i = k)) | _, _ => false) = true := by decide +kernel
set_option maxRecDepth 100000 in
theorem cntT2 : cntN 2 = 2 := by decide +kernel
theorem levOk2 : LevOk 2 2 := by
  refine ⟨fun t ht => ?_, fun t ht bs hb => ?_, lev2_2⟩
  · match t, ht with
    | 0, _ => exact ⟨by rw [lev2_0]; decide, by rw [lev2_0]; decide⟩
    | 1, _ => exact ⟨by rw [lev2_1]; decide, by rw [lev2_1]; decide⟩
  · match t, ht with
    | 0, _ => rw [lev2_0] at hb; exact sysB_ok (List.all_eq_true.1 sys2 bs (by simp only [L2, List.mem_append]; simp only [hb, true_or, or_true]))
    | 1, _ => rw [lev2_1] at hb; exact sysB_ok (List.all_eq_true.1 sys2 bs (by simp only [L2, List.mem_append]; simp only [hb, true_or, or_true]))
theorem genOk2 : GenOk 2 2 := genOk_of gs2 frm2 levOk2 (by omega) (by omega) edg2 spn2 dif2 (cntT2.trans (by rw [gs2]; rfl)) cntT2 (by rw [cntT2]; omega) (by rw [cntT2]; omega)
theorem lev3_0 : lev 3 0 = L3_0 := rfl
theorem lev3_1 : lev 3 1 = L3_1 := by
  show extdP 3 (lev 3 0) = L3_1
  rw [lev3_0, extdF_eq]
  exact stepL3_0
theorem lev3_2 : lev 3 2 = L3_2 := by
  show extdP 3 (lev 3 1) = L3_2
  rw [lev3_1, extdF_eq]
  exact stepL3_1
theorem lev3_3 : lev 3 3 = L3_3 := by
  show extdP 3 (lev 3 2) = L3_3
  rw [lev3_2, extdF_eq]
  exact stepL3_2
theorem lev3_4 : lev 3 4 = [] := by
  show extdP 3 (lev 3 3) = []
  rw [lev3_3, extdF_eq]
  exact stepL3_3
theorem gs3 : gsP 3 4 = L3 := by
  unfold gsP
  rw [show List.range 4 = [0, 1, 2, 3] from rfl]
  simp only [List.flatMap_cons, List.flatMap_nil, lev3_0, lev3_1, lev3_2, lev3_3, List.append_nil]
  simp only [L3, List.append_assoc]
theorem frm3 : L3.map (formG 3) = F3 := by
  simp only [L3, F3, List.map_append, form3_0, form3_1, form3_2, form3_3]
theorem sys3 : L3.all (sysB 3) = true := by decide +kernel
theorem edg3 : (L3.all fun bs => edgB 3 (edL bs)) = true := by decide +kernel
theorem spn3 : (F3.all fun f => !f.1) = true := by decide +kernel
set_option maxRecDepth 100000 in
theorem dif3 : ((List.range 4).all fun i => (List.range 4).all fun k => match F3[i]?, F3[k]? with | some f, some g => decide (sameG f.2.1 f.2.2 g.2.1 g.2.2 = decide (i = k)) | _, _ => false) = true := by decide +kernel
set_option maxRecDepth 100000 in
theorem cntT3 : cntN 3 = 4 := by decide +kernel
theorem levOk3 : LevOk 3 4 := by
  refine ⟨fun t ht => ?_, fun t ht bs hb => ?_, lev3_4⟩
  · match t, ht with
    | 0, _ => exact ⟨by rw [lev3_0]; decide, by rw [lev3_0]; decide⟩
    | 1, _ => exact ⟨by rw [lev3_1]; decide, by rw [lev3_1]; decide⟩
    | 2, _ => exact ⟨by rw [lev3_2]; decide, by rw [lev3_2]; decide⟩
    | 3, _ => exact ⟨by rw [lev3_3]; decide, by rw [lev3_3]; decide⟩
  · match t, ht with
    | 0, _ => rw [lev3_0] at hb; exact sysB_ok (List.all_eq_true.1 sys3 bs (by simp only [L3, List.mem_append]; simp only [hb, true_or, or_true]))
    | 1, _ => rw [lev3_1] at hb; exact sysB_ok (List.all_eq_true.1 sys3 bs (by simp only [L3, List.mem_append]; simp only [hb, true_or, or_true]))
    | 2, _ => rw [lev3_2] at hb; exact sysB_ok (List.all_eq_true.1 sys3 bs (by simp only [L3, List.mem_append]; simp only [hb, true_or, or_true]))
    | 3, _ => rw [lev3_3] at hb; exact sysB_ok (List.all_eq_true.1 sys3 bs (by simp only [L3, List.mem_append]; simp only [hb, true_or, or_true]))
theorem genOk3 : GenOk 3 4 := genOk_of gs3 frm3 levOk3 (by omega) (by omega) edg3 spn3 dif3 (cntT3.trans (by rw [gs3]; rfl)) cntT3 (by rw [cntT3]; omega) (by rw [cntT3]; omega)
theorem lev4_0 : lev 4 0 = L4_0 := rfl
theorem lev4_1 : lev 4 1 = L4_1 := by
  show extdP 4 (lev 4 0) = L4_1
  rw [lev4_0, extdF_eq]
  exact stepL4_0
theorem lev4_2 : lev 4 2 = L4_2 := by
  show extdP 4 (lev 4 1) = L4_2
  rw [lev4_1, extdF_eq]
  exact stepL4_1
theorem lev4_3 : lev 4 3 = L4_3 := by
  show extdP 4 (lev 4 2) = L4_3
  rw [lev4_2, extdF_eq]
  exact stepL4_2
theorem lev4_4 : lev 4 4 = L4_4 := by
  show extdP 4 (lev 4 3) = L4_4
  rw [lev4_3, extdF_eq]
  exact stepL4_3
theorem lev4_5 : lev 4 5 = L4_5 := by
  show extdP 4 (lev 4 4) = L4_5
  rw [lev4_4, extdF_eq]
  exact stepL4_4
theorem lev4_6 : lev 4 6 = L4_6 := by
  show extdP 4 (lev 4 5) = L4_6
  rw [lev4_5, extdF_eq]
  exact stepL4_5
theorem lev4_7 : lev 4 7 = [] := by
  show extdP 4 (lev 4 6) = []
  rw [lev4_6, extdF_eq]
  exact stepL4_6
theorem gs4 : gsP 4 7 = L4 := by
  unfold gsP
  rw [show List.range 7 = [0, 1, 2, 3, 4, 5, 6] from rfl]
  simp only [List.flatMap_cons, List.flatMap_nil, lev4_0, lev4_1, lev4_2, lev4_3, lev4_4, lev4_5, lev4_6, List.append_nil]
  simp only [L4, List.append_assoc]
theorem frm4 : L4.map (formG 4) = F4 := by
  simp only [L4, F4, List.map_append, form4_0, form4_1, form4_2, form4_3, form4_4, form4_5, form4_6]
theorem sys4 : L4.all (sysB 4) = true := by decide +kernel
theorem edg4 : (L4.all fun bs => edgB 4 (edL bs)) = true := by decide +kernel
theorem spn4 : (F4.all fun f => !f.1) = true := by decide +kernel
set_option maxRecDepth 100000 in
theorem dif4 : ((List.range 11).all fun i => (List.range 11).all fun k => match F4[i]?, F4[k]? with | some f, some g => decide (sameG f.2.1 f.2.2 g.2.1 g.2.2 = decide (i = k)) | _, _ => false) = true := by decide +kernel
set_option maxRecDepth 100000 in
theorem cntT4 : cntN 4 = 11 := by decide +kernel
theorem levOk4 : LevOk 4 7 := by
  refine ⟨fun t ht => ?_, fun t ht bs hb => ?_, lev4_7⟩
  · match t, ht with
    | 0, _ => exact ⟨by rw [lev4_0]; decide, by rw [lev4_0]; decide⟩
    | 1, _ => exact ⟨by rw [lev4_1]; decide, by rw [lev4_1]; decide⟩
    | 2, _ => exact ⟨by rw [lev4_2]; decide, by rw [lev4_2]; decide⟩
    | 3, _ => exact ⟨by rw [lev4_3]; decide, by rw [lev4_3]; decide⟩
    | 4, _ => exact ⟨by rw [lev4_4]; decide, by rw [lev4_4]; decide⟩
    | 5, _ => exact ⟨by rw [lev4_5]; decide, by rw [lev4_5]; decide⟩
    | 6, _ => exact ⟨by rw [lev4_6]; decide, by rw [lev4_6]; decide⟩
  · match t, ht with
    | 0, _ => rw [lev4_0] at hb; exact sysB_ok (List.all_eq_true.1 sys4 bs (by simp only [L4, List.mem_append]; simp only [hb, true_or, or_true]))
    | 1, _ => rw [lev4_1] at hb; exact sysB_ok (List.all_eq_true.1 sys4 bs (by simp only [L4, List.mem_append]; simp only [hb, true_or, or_true]))
    | 2, _ => rw [lev4_2] at hb; exact sysB_ok (List.all_eq_true.1 sys4 bs (by simp only [L4, List.mem_append]; simp only [hb, true_or, or_true]))
    | 3, _ => rw [lev4_3] at hb; exact sysB_ok (List.all_eq_true.1 sys4 bs (by simp only [L4, List.mem_append]; simp only [hb, true_or, or_true]))
    | 4, _ => rw [lev4_4] at hb; exact sysB_ok (List.all_eq_true.1 sys4 bs (by simp only [L4, List.mem_append]; simp only [hb, true_or, or_true]))
    | 5, _ => rw [lev4_5] at hb; exact sysB_ok (List.all_eq_true.1 sys4 bs (by simp only [L4, List.mem_append]; simp only [hb, true_or, or_true]))
    | 6, _ => rw [lev4_6] at hb; exact sysB_ok (List.all_eq_true.1 sys4 bs (by simp only [L4, List.mem_append]; simp only [hb, true_or, or_true]))
theorem genOk4 : GenOk 4 7 := genOk_of gs4 frm4 levOk4 (by omega) (by omega) edg4 spn4 dif4 (cntT4.trans (by rw [gs4]; rfl)) cntT4 (by rw [cntT4]; omega) (by rw [cntT4]; omega)
theorem lev5_0 : lev 5 0 = L5_0 := rfl
theorem lev5_1 : lev 5 1 = L5_1 := by
  show extdP 5 (lev 5 0) = L5_1
  rw [lev5_0, extdF_eq]
  exact stepL5_0
theorem lev5_2 : lev 5 2 = L5_2 := by
  show extdP 5 (lev 5 1) = L5_2
  rw [lev5_1, extdF_eq]
  exact stepL5_1
theorem lev5_3 : lev 5 3 = L5_3 := by
  show extdP 5 (lev 5 2) = L5_3
  rw [lev5_2, extdF_eq]
  exact stepL5_2
theorem lev5_4 : lev 5 4 = L5_4 := by
  show extdP 5 (lev 5 3) = L5_4
  rw [lev5_3, extdF_eq]
  exact stepL5_3
theorem lev5_5 : lev 5 5 = L5_5 := by
  show extdP 5 (lev 5 4) = L5_5
  rw [lev5_4, extdF_eq]
  exact stepL5_4
theorem lev5_6 : lev 5 6 = L5_6 := by
  show extdP 5 (lev 5 5) = L5_6
  rw [lev5_5, extdF_eq]
  exact stepL5_5
theorem lev5_7 : lev 5 7 = L5_7 := by
  show extdP 5 (lev 5 6) = L5_7
  rw [lev5_6, extdF_eq]
  exact stepL5_6
theorem lev5_8 : lev 5 8 = L5_8 := by
  show extdP 5 (lev 5 7) = L5_8
  rw [lev5_7, extdF_eq]
  exact stepL5_7
theorem lev5_9 : lev 5 9 = L5_9 := by
  show extdP 5 (lev 5 8) = L5_9
  rw [lev5_8, extdF_eq]
  exact stepL5_8
theorem lev5_10 : lev 5 10 = L5_10 := by
  show extdP 5 (lev 5 9) = L5_10
  rw [lev5_9, extdF_eq]
  exact stepL5_9
theorem lev5_11 : lev 5 11 = [] := by
  show extdP 5 (lev 5 10) = []
  rw [lev5_10, extdF_eq]
  exact stepL5_10
theorem gs5 : gsP 5 11 = L5 := by
  unfold gsP
  rw [show List.range 11 = [0, 1, 2, 3, 4, 5, 6, 7, 8, 9, 10] from rfl]
  simp only [List.flatMap_cons, List.flatMap_nil, lev5_0, lev5_1, lev5_2, lev5_3, lev5_4, lev5_5, lev5_6, lev5_7, lev5_8, lev5_9, lev5_10, List.append_nil]
  simp only [L5, List.append_assoc]
theorem frm5 : L5.map (formG 5) = F5 := by
  simp only [L5, F5, List.map_append, form5_0, form5_1, form5_2, form5_3, form5_4, form5_5, form5_6, form5_7, form5_8, form5_9, form5_10]
theorem sys5 : L5.all (sysB 5) = true := by decide +kernel
theorem edg5 : (L5.all fun bs => edgB 5 (edL bs)) = true := by decide +kernel
theorem spn5 : (F5.all fun f => !f.1) = true := by decide +kernel
set_option maxRecDepth 100000 in
theorem dif5 : ((List.range 34).all fun i => (List.range 34).all fun k => match F5[i]?, F5[k]? with | some f, some g => decide (sameG f.2.1 f.2.2 g.2.1 g.2.2 = decide (i = k)) | _, _ => false) = true := by decide +kernel
set_option maxRecDepth 100000 in
theorem cntT5 : cntN 5 = 34 := by decide +kernel
theorem levOk5 : LevOk 5 11 := by
  refine ⟨fun t ht => ?_, fun t ht bs hb => ?_, lev5_11⟩
  · match t, ht with
    | 0, _ => exact ⟨by rw [lev5_0]; decide, by rw [lev5_0]; decide⟩
    | 1, _ => exact ⟨by rw [lev5_1]; decide, by rw [lev5_1]; decide⟩
    | 2, _ => exact ⟨by rw [lev5_2]; decide, by rw [lev5_2]; decide⟩
    | 3, _ => exact ⟨by rw [lev5_3]; decide, by rw [lev5_3]; decide⟩
    | 4, _ => exact ⟨by rw [lev5_4]; decide, by rw [lev5_4]; decide⟩
    | 5, _ => exact ⟨by rw [lev5_5]; decide, by rw [lev5_5]; decide⟩
    | 6, _ => exact ⟨by rw [lev5_6]; decide, by rw [lev5_6]; decide⟩
    | 7, _ => exact ⟨by rw [lev5_7]; decide, by rw [lev5_7]; decide⟩
    | 8, _ => exact ⟨by rw [lev5_8]; decide, by rw [lev5_8]; decide⟩
    | 9, _ => exact ⟨by rw [lev5_9]; decide, by rw [lev5_9]; decide⟩
    | 10, _ => exact ⟨by rw [lev5_10]; decide, by rw [lev5_10]; decide⟩
  · match t, ht with
    | 0, _ => rw [lev5_0] at hb; exact sysB_ok (List.all_eq_true.1 sys5 bs (by simp only [L5, List.mem_append]; simp only [hb, true_or, or_true]))
    | 1, _ => rw [lev5_1] at hb; exact sysB_ok (List.all_eq_true.1 sys5 bs (by simp only [L5, List.mem_append]; simp only [hb, true_or, or_true]))
    | 2, _ => rw [lev5_2] at hb; exact sysB_ok (List.all_eq_true.1 sys5 bs (by simp only [L5, List.mem_append]; simp only [hb, true_or, or_true]))
    | 3, _ => rw [lev5_3] at hb; exact sysB_ok (List.all_eq_true.1 sys5 bs (by simp only [L5, List.mem_append]; simp only [hb, true_or, or_true]))
    | 4, _ => rw [lev5_4] at hb; exact sysB_ok (List.all_eq_true.1 sys5 bs (by simp only [L5, List.mem_append]; simp only [hb, true_or, or_true]))
    | 5, _ => rw [lev5_5] at hb; exact sysB_ok (List.all_eq_true.1 sys5 bs (by simp only [L5, List.mem_append]; simp only [hb, true_or, or_true]))
    | 6, _ => rw [lev5_6] at hb; exact sysB_ok (List.all_eq_true.1 sys5 bs (by simp only [L5, List.mem_append]; simp only [hb, true_or, or_true]))
    | 7, _ => rw [lev5_7] at hb; exact sysB_ok (List.all_eq_true.1 sys5 bs (by simp only [L5, List.mem_append]; simp only [hb, true_or, or_true]))
    | 8, _ => rw [lev5_8] at hb; exact sysB_ok (List.all_eq_true.1 sys5 bs (by simp only [L5, List.mem_append]; simp only [hb, true_or, or_true]))
    | 9, _ => rw [lev5_9] at hb; exact sysB_ok (List.all_eq_true.1 sys5 bs (by simp only [L5, List.mem_append]; simp only [hb, true_or, or_true]))
    | 10, _ => rw [lev5_10] at hb; exact sysB_ok (List.all_eq_true.1 sys5 bs (by simp only [L5, List.mem_append]; simp only [hb, true_or, or_true]))
theorem genOk5 : GenOk 5 11 := genOk_of gs5 frm5 levOk5 (by omega) (by omega) edg5 spn5 dif5 (cntT5.trans (by rw [gs5]; rfl)) cntT5 (by rw [cntT5]; omega) (by rw [cntT5]; omega)
theorem genOk_all : ∀ n, 1 ≤ n → n ≤ 5 → ∃ T, GenOk n T := fun n h1 h5 => by
  have : n = 1 ∨ n = 2 ∨ n = 3 ∨ n = 4 ∨ n = 5 := by omega
  rcases this with rfl | rfl | rfl | rfl | rfl
  · exact ⟨_, genOk1⟩
  · exact ⟨_, genOk2⟩
  · exact ⟨_, genOk3⟩
  · exact ⟨_, genOk4⟩
  · exact ⟨_, genOk5⟩
set_option maxRecDepth 100000 in
theorem law_GraphCounts (A0 : Option Addr) (n0 c0 : Nat) (bs : List Int) (A1 : Option Addr) (n1 c1 : Nat) (ys : List Int) (w : World) (ha : RS EByte w A0 n0 bs) (hn0 : n0 ≤ c0) (hc0 : c0 ≤ 9223372036854775807) (hb : RS EByte w A1 n1 ys) (hn1 : n1 ≤ c1) (hc1 : c1 ≤ 9223372036854775807) :
    Calls Tryz.prog 3 #[.slice A0 n0 c0, .slice A1 n1 c1] w fun e w' => e = .returned (.bool true) ∧ Below w.heap.size w w' := by
  by_cases h1 : n0 ≤ 1048576
  · by_cases h2 : n1 ≤ 1048576
    · exact law_GraphCounts_at genOk_all A0 n0 c0 bs A1 n1 c1 ys w ha h1 hb h2
    · go_enter Tryz.func3, Tryz.ntmps3
      go_wp2_with fail
      refine (b10Long_no A0 n0 c0 _ h1).mono ?_
      rintro e w' ⟨rfl, rfl⟩
      go_wp2_with fail
      refine (b10Long_yes A1 n1 c1 _ (by omega)).mono ?_
      rintro e w' ⟨rfl, rfl⟩
      go_wp2
      go_ret
      exact ⟨rfl, Below.refl _ _⟩
  · go_enter Tryz.func3, Tryz.ntmps3
    go_wp2_with fail
    refine (b10Long_yes A0 n0 c0 _ (by omega)).mono ?_
    rintro e w' ⟨rfl, rfl⟩
    go_wp2
    go_ret
    exact ⟨rfl, Below.refl _ _⟩
end Go.Proofs.YtncknfhfkmmhbaaGreat
