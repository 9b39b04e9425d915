/- Plain law: the automorphisms that a search finds, in order, are a group, and its orbits are those that the search counts. No condition beyond those stated. -/
import Derived.Test.YtpckplpkedhlcaaGreatHD
import Derived.Test.YtpckplpkedhlcaaGreatHE
import Derived.Test.YtpckplpkedhlcaaGreatIE
import Derived.Test.YtpckplpkedhlcaaGreatIF
set_option linter.unusedVariables false
set_option linter.unusedSimpArgs false
namespace Go.Proofs.YtpckplpkedhlcaaGreat
open Go.RowKit

section
variable {cs : List Int} {es : List Ed} {b : Nat}
theorem auts_mem (he : EdgesOk cs.length es) (h : (runP cs es b).spent = false) (s : List Int) : s ∈ setG cmpL (autL (runP cs es b).best) ↔ Aut cs es s :=
  (setG_mem cmpL_ord _ s).trans (autsP_mem he h s)
theorem auts_perm (he : EdgesOk cs.length es) (h : (runP cs es b).spent = false) : AllN cs.length (setG cmpL (autL (runP cs es b).best)) := fun s hs =>
  ⟨((auts_mem he h s).1 hs).len, ((auts_mem he h s).1 hs).perm⟩
theorem auts_closed (he : EdgesOk cs.length es) (h : (runP cs es b).spent = false) : ClosedG cs.length (setG cmpL (autL (runP cs es b).best)) := fun x hx => by
  induction hx with
  | one => exact (auts_mem he h _).2 (Aut.id cs es)
  | mul _ hg ih => exact (auts_mem he h _).2 (((auts_mem he h _).1 ih).comp ((auts_mem he h _).1 hg))
theorem auts_genL (he : EdgesOk cs.length es) (h : (runP cs es b).spent = false) : GenL cs.length (setG cmpL (autL (runP cs es b).best)) (setG cmpL (autL (runP cs es b).best)) :=
  ⟨setG_strict cmpL_ord _, fun _ => ⟨fun hx => Gen.of_mem (auts_perm he h) hx, fun hx => auts_closed he h _ hx⟩⟩
theorem auts_list (he : EdgesOk cs.length es) (h : (runP cs es b).spent = false) : (setG cmpL (autL (runP cs es b).best)).Perm (autL (runP cs es b).best) :=
  (List.perm_ext_iff_of_nodup (strict_nodup cmpL_ord (setG_strict cmpL_ord _)) (run_nodup h)).2 fun x => setG_mem cmpL_ord _ x
theorem auts_len (he : EdgesOk cs.length es) (h : (runP cs es b).spent = false) : (setG cmpL (autL (runP cs es b).best)).length = (runP cs es b).best.length := by
  rw [(auts_list he h).length_eq, autL_len]
theorem auts_group (he : EdgesOk cs.length es) (h : (runP cs es b).spent = false) (h1 : 1 ≤ cs.length) (h2 : cs.length ≤ 32) (hk : ¬ 720 < (runP cs es b).best.length) : GroupOk (cs.length : Int) (setG cmpL (autL (runP cs es b).best)) where
  d1 := by omega
  d2 := by omega
  l1 := by rw [auts_len he h]; exact List.length_pos_iff.2 (runP_best h)
  l2 := by rw [auts_len he h]; omega
  perm := by rw [Int.toNat_natCast]; exact auts_perm he h
  up := setG_strict cmpL_ord _
  closed := by rw [Int.toNat_natCast]; exact auts_closed he h
end
theorem orbL_perm {L M : List (List Int)} (h : L.Perm M) (v : Nat) : (orbL L v).Perm (orbL M v) := h.map _
theorem orbT_perm {L M : List (List Int)} (h : L.Perm M) (k : Nat) : orbT L k = orbT M k := by
  have h1 : ∀ v, leadB L v = leadB M v := fun v => by unfold leadB; rw [srt_perm_eq (orbL_perm h v)]
  have h2 : ∀ v, setG sgnI (orbL L v) = setG sgnI (orbL M v) := fun v => setG_eq sgnI_ord (setG_strict sgnI_ord _) fun x => (setG_mem sgnI_ord _ x).trans (orbL_perm h v).mem_iff.symm
  induction k with
  | zero => rfl
  | succ k ih =>
    cases hl : leadB M k with
    | true => rw [orbT_yes hl, orbT_yes ((h1 k).trans hl), ih, h2]
    | false => rw [orbT_no hl, orbT_no ((h1 k).trans hl), ih]
end Go.Proofs.YtpckplpkedhlcaaGreat
/- The group of a list of permutations, its orbits. No condition beyond those stated. -/
namespace Go.Proofs.YtpckplpkedhlcaaGreat
open Go.RowKit

theorem comp_head : ∀ (l : List Int), nth (comp l) 0 = nth l 0
  | [] => rfl
  | [x] => rfl
  | x :: y :: r => by
    have ih := comp_head (y :: r)
    unfold comp
    by_cases h : x = y
    · rw [if_pos h, ih, h]; rfl
    · rw [if_neg h]; rfl
theorem cells_max {L : List (List Int)} {k : Nat} (h : ∀ z ∈ L, z.length ≤ k) : cells L ≤ L.length * k := by
  induction L with
  | nil => simp [cells]
  | cons z L ih =>
    have h1 := ih fun y hy => h y (List.mem_cons_of_mem _ hy)
    have h2 := h z (List.mem_cons_self ..)
    unfold cells at h1 ⊢
    rw [List.map_cons, List.sum_cons, List.length_cons, Nat.succ_mul]
    omega
set_option maxRecDepth 100000 in
set_option maxHeartbeats 800000 in
theorem makeGroup_ok (n : Nat) (A : Option Addr) (m c : Nat) (L : List (List Int)) (w : World) (hL : RR w A m L) (hg : GroupOk (n : Int) L) :
    Calls Tryz.prog 16 #[.int .i64 n, .slice A m c] w (fun e w' => ∃ A' c', e = .returned (.tuple #[.agg #[.int .i64 n, .slice A' m c'], .int .i64 0]) ∧ OR w' w.heap.size 24 2 A' m c' L ∧ Below w.heap.size w w') := by
  have hll := hL.len
  have h1 := hg.d1
  have h2 := hg.d2
  have h3 := hg.l2
  have hp := hg.perm
  rw [Int.toNat_natCast] at hp
  have hcl := hg.closed
  rw [Int.toNat_natCast] at hcl
  have hcells : cells L ≤ 1099511627776 := by
    have : cells L ≤ L.length * 32 := cells_max fun z hz => by rw [(hp z hz).1]; omega
    omega
  have hb0 := below_alloc w (.cells #[.int .i64 0, .slice none 0 0] 40)
  have X := Blk.new w 40 #[.int .i64 0, .slice none 0 0]
  have hap := arePermutations_any n A m c L _ (hL.keep hb0) (by omega) hcells
  rw [show tB (allPerm (n : Int) L) = true from tB_true.2 ((allPerm_iff (by omega) h2 L).2 (by rw [Int.toNat_natCast]; exact hp))] at hap
  have HG := Lib.hid (show GenL n L L from ⟨hg.up, fun _ => ⟨fun hx => Gen.of_mem hp hx, fun hx => hcl _ hx⟩⟩)
  have HO := Lib.hid (show ¬ Over n L 720 from ClosedG.not_over hcl (fun _ h => h) h3)
  have HP := Lib.hid hp
  have hin : inB (n : Int) 1 32 = true := inB_mk ⟨h1, h2⟩
  clear hg hp hcl hll
  go_enter Tryz.func16, Tryz.ntmps16
  go_wp2_with fail
  refine (within_any _ _ _ _).mono ?_
  rintro e w' ⟨rfl, rfl⟩
  rw [hin]
  go_wp2_with fail
  refine hap.mono ?_
  rintro e w1 ⟨rfl, hb1⟩
  have hw1 := hb0.trans (hb1.mono hb0.size)
  have X1 := X.after hb1
  clear hap hb1 X hb0
  go_wp2_with fail
  refine (closure_any n A m c L w1 (hL.keep hw1) HP.out (by omega) (by have := hL.len; omega)).mono ?_
  rintro e w2 ⟨A', m', c', ok, M, rfl, hb2, ho2, hcase⟩
  rcases hcase with ⟨rfl, -, hgen⟩ | ⟨rfl, -, hover⟩
  · obtain rfl : M = L := GenL.unique hgen HG.out
    have hlm := ho2.len
    have hlL := hL.len
    obtain rfl : m' = m := by omega
    have X2 := X1.after hb2
    have hw2 := hw1.trans (hb2.mono hw1.size)
    have hlt := X1.lt
    have ho3 := (((ho2.setLow (p := ⟨w.heap.size, 0, none⟩) hlt (.int .i64 n)).setLow (p := ⟨w.heap.size, 1, none⟩) hlt (.slice A' m' c')).more hw1.size)
    have X3 := (X2.set_ 0 (.int .i64 n)).set_ 1 (.slice A' m' c')
    have hw3 := (hw2.setCell (p := ⟨w.heap.size, 0, none⟩) (Nat.le_refl _) (.int .i64 n)).setCell (p := ⟨w.heap.size, 1, none⟩) (Nat.le_refl _) (.slice A' m' c')
    have f0 := X2.frozen 0
    have f1 := X2.frozen 1
    obtain ⟨x0, x1⟩ := X2.cells2
    clear hlm hlL ho2 hgen hb2
    go_wp2
    clear x0 x1
    obtain ⟨x0, x1⟩ := X3.cells2
    exact bodyPost_ret (v := .tuple #[.agg #[.int .i64 n, .slice A' m' c'], .int .i64 0]) (by simp [results, Tryz.results16, go_sem, x0, x1]) rfl ⟨A', c', rfl, ho3, hw3⟩
  · exact absurd hover HO.out
set_option maxRecDepth 100000 in
set_option maxHeartbeats 800000 in
theorem orbitOf_any (n v : Nat) (A : Option Addr) (m c : Nat) (L : List (List Int)) (w : World) (hL : RR w A m L) (hp : AllN n L) (hv : v < n) (hm0 : 0 < m) (hm : m ≤ 1048576) :
    Calls Tryz.prog 63 #[.agg #[.int .i64 n, .slice A m c], .int .i64 v] w (fun e w' => ∃ A' m' c', e = .returned (.slice A' m' c') ∧ OI w' w.heap.size 2 A' m' c' (setG sgnI (orbL L v)) ∧ Below w.heap.size w w' ∧ nth (setG sgnI (orbL L v)) 0 = nth (srt (orbL L v)) 0 ∧ 0 < m') := by
  have hb0 := below_alloc w (.cells #[.int .i64 n, .slice A m c] 40)
  have X := Blk.new w 40 #[.int .i64 n, .slice A m c]
  have HL := Lib.hid (show L.length = m from hL.len)
  have HRL := Lib.hid (fun (k : Nat) (hk : k < m) => show (row L k).length = n from by
    have hk' : k < L.length := by rw [HL.out]; exact hk
    exact (hp _ (by rw [row_get hk']; exact List.getElem_mem hk')).1)
  clear hp
  obtain ⟨x0, x1⟩ := X.cells2
  go_enter Tryz.func63, Tryz.ntmps63
  go_wp2
  clear x0 x1
  go_loopw [5, 7, 11] (fun s _ i wi => ∃ (j : Nat) (V : Option Addr) (e : Nat), j ≤ m ∧ i = .int .i64 j ∧ s = .slice V j e ∧ OI wi w.heap.size 2 V j e ((orbL L v).take j) ∧ Below w.heap.size w wi) (fun _ _ i _ => m - (intOf i).toNat)
  case atStart => exact ⟨0, _, _, Nat.zero_le _, rfl, rfl, OI.nil_ _ _ _, hb0⟩
  case round =>
    clear hb0 X
    obtain ⟨j, V, e, hj, rfl, rfl, hV, hbw⟩ := hrel
    by_cases hjl : j < m
    · obtain ⟨a, B1, q1, r1, rfl, hca, hq1, hr1, hri⟩ := (hL.keep hbw).get hjl
      obtain rfl : q1 = n := by have := hri.len; rw [HRL.out j hjl] at this; omega
      obtain ⟨a2, rfl, hc2, hi2⟩ := hri.get (k := v) hv
      have hst := Lib.hid (orbL_step (L := L) (v := v) (j := j) (by rw [HL.out]; exact hjl))
      generalize nth (row L j) v = z at *
      clear hri
      go_wp2_with (at_builtin; refine app_int _ rfl _ _ rfl w.heap.size V j e _ rfl hV z _ rfl (by simp) hi2 (by omega) hbw.size ?_; intro V2 e2 w5 ho5 hg5 hn5)
      have hb5 := below_own hbw hg5 hbw.size (fun b hb => (hV.os.lt hb).1)
      rw [hst.out] at ho5
      clear hV hbw hg5 hn5 hca hc2
      go_roundw
      case rel => exact ⟨j + 1, _, _, by omega, by go_num, rfl, ho5, hb5⟩
      case measure => simp [intOf]; omega
    · obtain rfl : j = m := by omega
      rw [List.take_of_length_le (by rw [orbL_len, HL.out]; exact Nat.le_refl _)] at hV
      have hso := sort_any w.heap.size 2 V j e _ wr hV (by omega)
      go_wp2_with fail
      refine hso.mono ?_
      rintro e1 w5 ⟨rfl, ho5, hg5⟩
      have hb5 := below_own hbw hg5 hbw.size (fun b hb => (hV.os.lt hb).1)
      have hcp := compactI_any w.heap.size _ j e _ w5 ho5 (by omega)
      have HN := Lib.hid (show nth (setG sgnI (orbL L v)) 0 = nth (srt (orbL L v)) 0 by rw [← comp_srtO, comp_head])
      have HM := Lib.hid (show 0 < (comp (srt (orbL L v))).length from by
        refine List.length_pos_iff.2 fun hnil => ?_
        have h1 : nth (orbL L v) 0 ∈ comp (srt (orbL L v)) := (comp_mem _ _).2 ((srt_mem _ _).2 (by
          rw [nth_get (by rw [orbL_len, HL.out]; exact hm0)]; exact List.getElem_mem _))
        rw [hnil] at h1; cases h1)
      rw [comp_srtO] at hcp HM
      go_wp2_with fail
      refine hcp.mono ?_
      rintro e2 w6 ⟨m6, rfl, ho6, hg6⟩
      have hb6 := below_own hb5 hg6 hb5.size (fun b hb => (ho6.os.lt hb).1)
      have HL6 := Lib.hid ho6.len
      clear hcp hso hg5 hg6 ho5 hV hbw hb5
      go_wp2
      go_ret
      exact ⟨_, _, _, rfl, ho6, hb6, HN.out, by rw [← HL6.out]; exact HM.out⟩
set_option maxRecDepth 100000 in
set_option maxHeartbeats 800000 in
theorem orbitsOf_ok (n : Nat) (A : Option Addr) (m c : Nat) (L : List (List Int)) (w : World) (hL : RR w A m L) (hg : GroupOk (n : Int) L) :
    Calls Tryz.prog 18 #[.agg #[.int .i64 n, .slice A m c]] w (fun e w' => ∃ A' m' c', e = .returned (.slice A' m' c') ∧ OR w' w.heap.size 24 2 A' m' c' (orbT L n) ∧ Below w.heap.size w w') := by
  have hb0 := below_alloc w (.cells #[.int .i64 n, .slice A m c] 40)
  have X := Blk.new w 40 #[.int .i64 n, .slice A m c]
  have hp := hg.perm
  rw [Int.toNat_natCast] at hp
  have h2 := hg.d2
  have hm7 := hg.l2
  have hm0 := hg.l1
  have hll := hL.len
  rw [hll] at hm7 hm0
  have hcells : cells L ≤ 1099511627776 := by
    have : cells L ≤ L.length * 32 := cells_max fun z hz => by rw [(hp z hz).1]; omega
    omega
  have hv := validGroup_any (n : Int) A m c L _ (hL.keep hb0) (by omega) hcells
  rw [show tB (GroupOk (n : Int) L) = true from tB_true.2 hg] at hv
  have HP := Lib.hid hp
  clear hg hp hll hcells
  obtain ⟨x0, x1⟩ := X.cells2
  go_enter Tryz.func18, Tryz.ntmps18
  go_wp2_with fail
  refine hv.mono ?_
  rintro e w1 ⟨rfl, hb1⟩
  have hw1 := hb0.trans (hb1.mono hb0.size)
  have X1 := X.after hb1
  clear hv hb0 hb1 X x0 x1
  go_wp2
  go_loopw [3, 4, 5] (fun v i _ wr => ∃ (k : Nat) (A' : Option Addr) (m' c' : Nat), k ≤ n ∧ i = .int .i64 k ∧ v = .slice A' m' c' ∧ OR wr w1.heap.size 24 2 A' m' c' (orbT L k) ∧ Below w1.heap.size w1 wr) (fun _ i _ _ => n - (intOf i).toNat)
  case atStart => exact ⟨0, _, _, _, Nat.zero_le _, rfl, rfl, OR.nil_ _ _ (by decide), Below.refl _ _⟩
  case round =>
    obtain ⟨k, A', m', c', hk, rfl, rfl, ho, hw⟩ := hrel
    have X2 := X1.after hw
    obtain ⟨x0, x1⟩ := X2.cells2
    by_cases hlt : k < n
    · have hlm := ho.len
      have hom := orbT_len L k
      have hm64 : m' ≤ 64 := by omega
      have hw2 := hw1.trans (hw.mono hw1.size)
      have hob := orbitOf_any n k A m c L wr (hL.keep hw2) HP.out hlt (by omega) (by omega)
      have HO := Lib.hid ho
      clear ho hlm hom
      go_wp2_with fail
      refine hob.mono ?_
      rintro e w5 ⟨V, e5, m5, rfl, ho5, hb5, hn5, hp5⟩
      have hw5 := hw.trans (hb5.mono hw.size)
      obtain ⟨g5, rfl, cz, -, -⟩ := ho5.cell hp5
      have X5 := X2.after hb5
      rw [hn5] at cz
      have HN5 := Lib.hid hn5
      clear hn5 hob x0 x1
      obtain ⟨x0, x1⟩ := X5.cells2
      cases hl : leadB L k with
      | true =>
        have HT := Lib.hid (orbT_yes hl)
        have hz0 : (nth (srt (orbL L k)) 0 == (k : Int)) = true := hl
        generalize nth (srt (orbL L k)) 0 = z at *
        obtain ⟨vs, hov⟩ := HO.out
        have hap := hov.apart_new (v := (some ⟨g5, 0, none⟩, e5, m5)) (fun b hb => (ho5.os.lt hb).1)
        have ho7 := hov.below hb5
        have hr7 := ho5.more hw.size
        clear hl hb5 hov
        go_wp2_with (at_builtin; refine wpList_app1 _ rfl _ _ 30 rfl 24 (.slice none 0 0) 24 Tryz.underlying30 ints_info rfl (by omega) w1.heap.size A' m' c' (vs.map slv) rfl ho7.os (.slice (some ⟨g5, 0, none⟩) e5 m5) rfl rfl (by omega) hw5.size ?_; intro A8 c8 w8 ho8 hg8 hn8)
        have hw8 := below_own hw5 hg8 hw5.size (fun b hb => (ho7.os.lt hb).1)
        have hi8 := ho7.push (v := (some ⟨g5, 0, none⟩, e5, m5)) hr7 hap hg8 ho8
        clear ho7 hr7 hap ho8 hg8 hn8 hw5 cz x0 x1
        go_roundw
        case rel => exact ⟨k + 1, A8, m' + 1, c8, by omega, by go_num, rfl, by rw [HT.out]; exact hi8, hw8⟩
        case measure => simp [intOf]; omega
      | false =>
        have HT := Lib.hid (orbT_no hl)
        have hz0 : (nth (srt (orbL L k)) 0 == (k : Int)) = false := hl
        generalize nth (srt (orbL L k)) 0 = z at *
        have HO2 := Lib.hid (HO.out.below hb5)
        clear hl hb5
        go_wp2
        go_roundw
        case rel => exact ⟨k + 1, A', m', c', by omega, by go_num, rfl, by rw [HT.out]; exact HO2.out, hw5⟩
        case measure => simp [intOf]; omega
    · obtain rfl : k = n := by omega
      have ho2 := ho.more hw1.size
      have hwf := hw1.trans (hw.mono hw1.size)
      clear ho hw
      go_wp2
      go_ret
      exact ⟨_, _, _, rfl, ho2, hwf⟩
end Go.Proofs.YtpckplpkedhlcaaGreat
