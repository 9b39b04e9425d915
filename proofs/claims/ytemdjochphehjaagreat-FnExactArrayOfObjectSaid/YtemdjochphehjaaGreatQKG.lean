/- An object that has to have a kind. No condition beyond those stated. -/
import Derived.Test.YtemdjochphehjaaGreatQKF
set_option linter.unusedVariables false
set_option linter.unusedSimpArgs false
namespace Go.Proofs.YtemdjochphehjaaGreat
open Go.RowKit

/-- the code of an object that has to have a kind -/
noncomputable def askC (kk s : Int) (zss : List (List Int)) (K : Int) : Int := if tB (VObj kk s zss) then (if kk = K then 0 else 6) else 1
noncomputable def outR (kk s : Int) (zss : List (List Int)) (K : Int) : List (List Int) := if askC kk s zss K = 0 then zss else []
noncomputable def outI (x kk s : Int) (zss : List (List Int)) (K : Int) : Int := if askC kk s zss K = 0 then x else 0
theorem askC_zero {kk s : Int} {zss : List (List Int)} {K : Int} (h : askC kk s zss K = 0) : kk = K ∧ VObj kk s zss := by
  unfold askC at h
  cases hv : tB (VObj kk s zss) with
  | false => rw [hv] at h; simp at h
  | true =>
    rw [hv] at h
    by_cases e : kk = K
    · exact ⟨e, tB_true.1 hv⟩
    · simp [e] at h
theorem outR_len (kk s : Int) (zss : List (List Int)) (K : Int) : (outR kk s zss K).length ≤ zss.length ∧ cells (outR kk s zss K) ≤ cells zss := by
  unfold outR
  split
  · exact ⟨Nat.le_refl _, Nat.le_refl _⟩
  · exact ⟨by simp, by simp [cells]⟩
set_option maxHeartbeats 800000 in
theorem ofKind_any (kk s K : Int) (A : Option Addr) (n c : Nat) (zss : List (List Int)) (w : World) (ha : RR w A n zss) (hn : n ≤ 1099511627776) (hr : cells zss ≤ 1099511627776) (hc1 : n ≤ c) (hc2 : c ≤ 9223372036854775807) :
    Calls Tryz.prog 76 #[.agg #[.int .i64 kk, .int .i64 s, .slice A n c], .int .i64 K] w (fun e w' => e = .returned (.int .i64 (askC kk s zss K)) ∧ Below w.heap.size w w') := by
  have hb1 := below_alloc w (.cells #[.int .i64 kk, .int .i64 s, .slice A n c] 30)
  have X := Blk.new w 30 #[.int .i64 kk, .int .i64 s, .slice A n c]
  have hvo := validObject_any kk s A n c zss _ (ha.keep hb1) hn hr hc1 hc2
  cases hv : tB (VObj kk s zss) with
  | false =>
    have H := Lib.hid (show askC kk s zss K = 1 by unfold askC; rw [hv]; rfl)
    rw [hv] at hvo
    go_enter Tryz.func76, Tryz.ntmps76
    go_wp2_with (go_at_call 22; refine hvo.mono ?_; rintro e w2 ⟨rfl, hb⟩)
    go_ret
    exact ⟨by rw [H.out]; rfl, hb1.trans (hb.mono hb1.size)⟩
  | true =>
    rw [hv] at hvo
    by_cases e : kk = K
    · have H := Lib.hid (show askC kk s zss K = 0 by unfold askC; rw [hv, if_pos rfl, if_pos e])
      have e1 : (kk != K) = false := by simp [e]
      clear e
      go_enter Tryz.func76, Tryz.ntmps76
      go_wp2_with (go_at_call 22; refine hvo.mono ?_; rintro e w2 ⟨rfl, hb⟩; obtain ⟨x0, x1, x2⟩ := (X.after hb).cells3)
      go_ret
      exact ⟨by rw [H.out]; rfl, hb1.trans (hb.mono hb1.size)⟩
    · have H := Lib.hid (show askC kk s zss K = 6 by unfold askC; rw [hv, if_pos rfl, if_neg e])
      have e1 : (kk != K) = true := by simp [e]
      clear e
      go_enter Tryz.func76, Tryz.ntmps76
      go_wp2_with (go_at_call 22; refine hvo.mono ?_; rintro e w2 ⟨rfl, hb⟩; obtain ⟨x0, x1, x2⟩ := (X.after hb).cells3)
      go_ret
      exact ⟨by rw [H.out]; rfl, hb1.trans (hb.mono hb1.size)⟩
set_option maxHeartbeats 800000 in
theorem l30Ask_any (g : Nat) (kk s K : Int) (A : Option Addr) (n c : Nat) (zss : List (List Int)) (w : World) (hB : Blk w g 30 #[.int .i64 kk, .int .i64 s, .slice A n c]) (ha : RR w A n zss) (hn : n ≤ 1099511627776) (hc1 : n ≤ c) (hc2 : c ≤ 9223372036854775807) :
    Calls Tryz.prog 74 #[.pointer (some ⟨g, 0, none⟩), .int .i64 K] w (fun e w' => e = .returned (.int .i64 (askC kk s zss K)) ∧ Below w.heap.size w w') := by
  have hvo := judgeAny kk s zss w (by rw [ha.len]; exact hn) g A n c w (Below.refl _ _) hB ha hc1 hc2
  cases hv : tB (VObj kk s zss) with
  | false =>
    have H := Lib.hid (show askC kk s zss K = 1 by unfold askC; rw [hv]; rfl)
    rw [hv] at hvo
    go_enter Tryz.func74, Tryz.ntmps74
    go_wp2_with (go_at_call 62; refine hvo.mono ?_; rintro e w2 ⟨rfl, hb⟩)
    go_ret
    exact ⟨by rw [H.out]; rfl, hb⟩
  | true =>
    rw [hv] at hvo
    by_cases e : kk = K
    · have H := Lib.hid (show askC kk s zss K = 0 by unfold askC; rw [hv, if_pos rfl, if_pos e])
      have e1 : (kk != K) = false := by simp [e]
      clear e
      go_enter Tryz.func74, Tryz.ntmps74
      go_wp2_with (go_at_call 62; refine hvo.mono ?_; rintro e w2 ⟨rfl, hb⟩; obtain ⟨x0, x1, x2⟩ := (hB.after hb).cells3)
      go_ret
      exact ⟨by rw [H.out]; rfl, hb⟩
    · have H := Lib.hid (show askC kk s zss K = 6 by unfold askC; rw [hv, if_pos rfl, if_neg e])
      have e1 : (kk != K) = true := by simp [e]
      clear e
      go_enter Tryz.func74, Tryz.ntmps74
      go_wp2_with (go_at_call 62; refine hvo.mono ?_; rintro e w2 ⟨rfl, hb⟩; obtain ⟨x0, x1, x2⟩ := (hB.after hb).cells3)
      go_ret
      exact ⟨by rw [H.out]; rfl, hb⟩
end Go.Proofs.YtemdjochphehjaaGreat
/- DesignOfObject, GroupOfObject, ArrayOfObject on both sides. No condition beyond those stated. -/
namespace Go.Proofs.YtemdjochphehjaaGreat
open Go.RowKit

/-- such a struct, its rows in memory of the call's own, and a code -/
def RetDesignC (w : World) (v : Int) (Z : List (List Int)) (C : Int) (en : Ending) (w' : World) : Prop :=
  ∃ A n c, en = .returned (.tuple #[.agg #[.int .i64 v, .slice A n c], .int .i64 C]) ∧ OR w' w.heap.size 22 2 A n c Z ∧ Below w.heap.size w w'
set_option maxHeartbeats 1000000 in
theorem impl_DesignOfObject_no (kk s : Int) (A : Option Addr) (n c : Nat) (zss : List (List Int)) (w : World) (ha : RR w A n zss) (hn : n ≤ 1099511627776) (hr : cells zss ≤ 1099511627776) (hc1 : n ≤ c) (hc2 : c ≤ 9223372036854775807) (C : Int) (hC : askC kk s zss 2 = C) (h0 : C ≠ 0) :
    Calls Tryz.prog 24 #[.agg #[.int .i64 kk, .int .i64 s, .slice A n c]] w (RetDesignC w 0 [] C) := by
  have hb1 := (below_alloc w (.cells #[.int .i64 kk, .int .i64 s, .slice A n c] 30)).alloc (by simp) (.cells #[.int .i64 0, .slice none 0 0] 48)
  have X := (Blk.new w 30 #[.int .i64 kk, .int .i64 s, .slice A n c]).alloc (.cells #[.int .i64 0, .slice none 0 0] 48)
  have R : Blk ((w.alloc (.cells #[.int .i64 kk, .int .i64 s, .slice A n c] 30)).alloc (.cells #[.int .i64 0, .slice none 0 0] 48)) (w.heap.size + 1) 48 #[.int .i64 0, .slice none 0 0] := by
    have := Blk.new (w.alloc (.cells #[.int .i64 kk, .int .i64 s, .slice A n c] 30)) 48 #[.int .i64 0, .slice none 0 0]
    simpa using this
  have hz : ((w.alloc (.cells #[.int .i64 kk, .int .i64 s, .slice A n c] 30)).alloc (.cells #[.int .i64 0, .slice none 0 0] 48)).heap.size = w.heap.size + 2 := by simp
  have hof := ofKind_any kk s 2 A n c zss _ (ha.keep hb1) hn hr hc1 hc2
  rw [hC] at hof
  have e1 : (C != 0) = true := by simpa using h0
  clear hC h0
  go_enter Tryz.func24, Tryz.ntmps24
  go_wp2_with fail
  refine hof.mono ?_
  rintro e w2 ⟨rfl, hb⟩
  have R2 := R.after hb
  have hw := hb1.trans (hb.mono hb1.size)
  clear hb R X hof hb1
  obtain ⟨z0, z1⟩ := R2.cells2
  have f0 := R2.frozen 0
  have f1 := R2.frozen 1
  go_wp2
  refine bodyPost_ret (v := .tuple #[.agg #[.int .i64 0, .slice none 0 0], .int .i64 C]) (by simp [results, Tryz.results24, go_sem, z0, z1]) rfl ⟨none, 0, 0, rfl, OR.nil_ _ _ (by decide), ?_⟩
  repeat (refine Below.setCell ?_ (by simp <;> omega) _)
  exact hw
set_option maxHeartbeats 1000000 in
theorem impl_DesignOfObject_yes (kk s : Int) (A : Option Addr) (n c : Nat) (zss : List (List Int)) (w : World) (ha : RR w A n zss) (hn : n ≤ 1099511627776) (hr : cells zss ≤ 1099511627776) (hc1 : n ≤ c) (hc2 : c ≤ 9223372036854775807) (hC : askC kk s zss 2 = 0) :
    Calls Tryz.prog 24 #[.agg #[.int .i64 kk, .int .i64 s, .slice A n c]] w (RetDesignC w s zss 0) := by
  have hb1 := (below_alloc w (.cells #[.int .i64 kk, .int .i64 s, .slice A n c] 30)).alloc (by simp) (.cells #[.int .i64 0, .slice none 0 0] 48)
  have X := (Blk.new w 30 #[.int .i64 kk, .int .i64 s, .slice A n c]).alloc (.cells #[.int .i64 0, .slice none 0 0] 48)
  have R : Blk ((w.alloc (.cells #[.int .i64 kk, .int .i64 s, .slice A n c] 30)).alloc (.cells #[.int .i64 0, .slice none 0 0] 48)) (w.heap.size + 1) 48 #[.int .i64 0, .slice none 0 0] := by
    have := Blk.new (w.alloc (.cells #[.int .i64 kk, .int .i64 s, .slice A n c] 30)) 48 #[.int .i64 0, .slice none 0 0]
    simpa using this
  have hz : ((w.alloc (.cells #[.int .i64 kk, .int .i64 s, .slice A n c] 30)).alloc (.cells #[.int .i64 0, .slice none 0 0] 48)).heap.size = w.heap.size + 2 := by simp
  have hof := ofKind_any kk s 2 A n c zss _ (ha.keep hb1) hn hr hc1 hc2
  rw [hC] at hof
  clear hC
  go_enter Tryz.func24, Tryz.ntmps24
  go_wp2_with fail
  refine hof.mono ?_
  rintro e w2 ⟨rfl, hb⟩
  have R2 := R.after hb
  have hb2 := hb1.trans (hb.mono hb1.size)
  have ha2 := ha.keep hb2
  obtain ⟨x0, x1, x2⟩ := (X.after hb).cells3
  have hz2 := hb.size
  go_wp2_with fail
  refine (designOf_any kk s A n c zss w2 ha2 hn hr).mono ?_
  rintro e w3 ⟨A2, n2, c2, rfl, ho, hb3⟩
  have R3 := R2.after hb3
  have hw := hb2.trans (hb3.mono hb2.size)
  have hz3 := hb3.size
  clear hb R X hof hb1 R2 x0 x1 x2
  have f0 := (R3).frozen 0
  have cq0 := (R3).cell 0
  have f1 := ((R3).set_ 0 (.int .i64 s)).frozen 1
  have cq1 := ((R3).set_ 0 (.int .i64 s)).cell 1
  have R4 : Blk ((w3.setCell ⟨w.heap.size + 1, 0, none⟩ (.int .i64 s)).setCell ⟨w.heap.size + 1, 1, none⟩ (.slice A2 n2 c2)) (w.heap.size + 1) 48 #[.int .i64 s, .slice A2 n2 c2] := by
    have := ((R3).set_ 0 (.int .i64 s)).set_ 1 (.slice A2 n2 c2)
    simpa using this
  obtain ⟨z0, z1⟩ := R4.cells2
  go_wp2
  refine bodyPost_ret (v := .tuple #[.agg #[.int .i64 s, .slice A2 n2 c2], .int .i64 0]) (by simp [results, Tryz.results24, go_sem, z0, z1]) rfl ⟨A2, n2, c2, rfl, ?_, ?_⟩
  · refine OR.more (B := w2.heap.size) ?_ (by omega)
    repeat (refine OR.setLow ?_ (by simp <;> omega) _)
    exact ho
  · repeat (refine Below.setCell ?_ (by simp <;> omega) _)
    exact hw
theorem impl_DesignOfObject (kk s : Int) (A : Option Addr) (n c : Nat) (zss : List (List Int)) (w : World) (ha : RR w A n zss) (hn : n ≤ 1099511627776) (hr : cells zss ≤ 1099511627776) (hc1 : n ≤ c) (hc2 : c ≤ 9223372036854775807) :
    Calls Tryz.prog 24 #[.agg #[.int .i64 kk, .int .i64 s, .slice A n c]] w (RetDesignC w (outI s kk s zss 2) (outR kk s zss 2) (askC kk s zss 2)) := by
  by_cases h : askC kk s zss 2 = 0
  · unfold outI outR
    simp only [if_pos h]
    rw [h]
    exact impl_DesignOfObject_yes kk s A n c zss w ha hn hr hc1 hc2 h
  · unfold outI outR
    simp only [if_neg h]
    exact impl_DesignOfObject_no kk s A n c zss w ha hn hr hc1 hc2 _ rfl h
set_option maxHeartbeats 1000000 in
theorem spec_DesignOfObject_no (kk s : Int) (A : Option Addr) (n c : Nat) (zss : List (List Int)) (w : World) (ha : RR w A n zss) (hn : n ≤ 1099511627776) (hr : cells zss ≤ 1099511627776) (hc1 : n ≤ c) (hc2 : c ≤ 9223372036854775807) (C : Int) (hC : askC kk s zss 2 = C) (h0 : C ≠ 0) :
    Calls Tryz.prog 23 #[.agg #[.int .i64 kk, .int .i64 s, .slice A n c]] w (RetDesignC w 0 [] C) := by
  have hb1 := (below_alloc w (.cells #[.int .i64 kk, .int .i64 s, .slice A n c] 30)).alloc (by simp) (.cells #[.int .i64 0, .slice none 0 0] 48)
  have X := (Blk.new w 30 #[.int .i64 kk, .int .i64 s, .slice A n c]).alloc (.cells #[.int .i64 0, .slice none 0 0] 48)
  have R : Blk ((w.alloc (.cells #[.int .i64 kk, .int .i64 s, .slice A n c] 30)).alloc (.cells #[.int .i64 0, .slice none 0 0] 48)) (w.heap.size + 1) 48 #[.int .i64 0, .slice none 0 0] := by
    have := Blk.new (w.alloc (.cells #[.int .i64 kk, .int .i64 s, .slice A n c] 30)) 48 #[.int .i64 0, .slice none 0 0]
    simpa using this
  have hz : ((w.alloc (.cells #[.int .i64 kk, .int .i64 s, .slice A n c] 30)).alloc (.cells #[.int .i64 0, .slice none 0 0] 48)).heap.size = w.heap.size + 2 := by simp
  have hof := l30Ask_any _ kk s 2 A n c zss _ X (ha.keep hb1) hn hc1 hc2
  rw [hC] at hof
  have e1 : (C != 0) = true := by simpa using h0
  clear hC h0
  go_enter Tryz.func23, Tryz.ntmps23
  go_wp2_with fail
  refine hof.mono ?_
  rintro e w2 ⟨rfl, hb⟩
  have R2 := R.after hb
  have hw := hb1.trans (hb.mono hb1.size)
  clear hb R X hof hb1
  obtain ⟨z0, z1⟩ := R2.cells2
  have f0 := R2.frozen 0
  have f1 := R2.frozen 1
  go_wp2
  refine bodyPost_ret (v := .tuple #[.agg #[.int .i64 0, .slice none 0 0], .int .i64 C]) (by simp [results, Tryz.results23, go_sem, z0, z1]) rfl ⟨none, 0, 0, rfl, OR.nil_ _ _ (by decide), ?_⟩
  repeat (refine Below.setCell ?_ (by simp <;> omega) _)
  exact hw
set_option maxHeartbeats 1000000 in
theorem spec_DesignOfObject_yes (kk s : Int) (A : Option Addr) (n c : Nat) (zss : List (List Int)) (w : World) (ha : RR w A n zss) (hn : n ≤ 1099511627776) (hr : cells zss ≤ 1099511627776) (hc1 : n ≤ c) (hc2 : c ≤ 9223372036854775807) (hC : askC kk s zss 2 = 0) :
    Calls Tryz.prog 23 #[.agg #[.int .i64 kk, .int .i64 s, .slice A n c]] w (RetDesignC w s zss 0) := by
  have hb1 := (below_alloc w (.cells #[.int .i64 kk, .int .i64 s, .slice A n c] 30)).alloc (by simp) (.cells #[.int .i64 0, .slice none 0 0] 48)
  have X := (Blk.new w 30 #[.int .i64 kk, .int .i64 s, .slice A n c]).alloc (.cells #[.int .i64 0, .slice none 0 0] 48)
  have R : Blk ((w.alloc (.cells #[.int .i64 kk, .int .i64 s, .slice A n c] 30)).alloc (.cells #[.int .i64 0, .slice none 0 0] 48)) (w.heap.size + 1) 48 #[.int .i64 0, .slice none 0 0] := by
    have := Blk.new (w.alloc (.cells #[.int .i64 kk, .int .i64 s, .slice A n c] 30)) 48 #[.int .i64 0, .slice none 0 0]
    simpa using this
  have hz : ((w.alloc (.cells #[.int .i64 kk, .int .i64 s, .slice A n c] 30)).alloc (.cells #[.int .i64 0, .slice none 0 0] 48)).heap.size = w.heap.size + 2 := by simp
  have hof := l30Ask_any _ kk s 2 A n c zss _ X (ha.keep hb1) hn hc1 hc2
  rw [hC] at hof
  clear hC
  go_enter Tryz.func23, Tryz.ntmps23
  go_wp2_with fail
  refine hof.mono ?_
  rintro e w2 ⟨rfl, hb⟩
  have R2 := R.after hb
  have X2 := X.after hb
  have hb2 := hb1.trans (hb.mono hb1.size)
  have hz2 := hb.size
  dsimp only
  go_wp2
  have bd : Below w2.heap.size w2 w2.drew := by have := below_drewn w2 1; simpa [← World.drew_is_drewN] using this
  have Xd := X2.after bd
  have hzd := bd.size
  have hcp := l17Own_any A n c zss w2.drew ((ha.keep hb2).keep bd) hn hr
  have ne : w.heap.size ≠ w.heap.size + 1 := by omega
  go_region_held_law (fun w' => w'.cell? ⟨w.heap.size, 1, none⟩ = some (.int .i64 s) ∧ w'.cell? ⟨w.heap.size, 2, none⟩ = some (.slice A n c))
    (first | with_reducible exact obj12 Xd | with_reducible exact obj12 X3 | with_reducible exact obj12 ((X3.far (p := ⟨w.heap.size + 1, 0, none⟩) ne _).far (p := ⟨w.heap.size + 1, 1, none⟩) ne _))
    ((go_at_call 75; (with_reducible refine hcp.mono ?_); rintro e w3 ⟨A2, n2, c2, rfl, ho, hb4⟩; have hb3 := bd.trans (hb4.mono hzd); have X3 := X2.after hb3; have R3 := R2.after hb3; obtain ⟨r0, r1⟩ := R3.cells2; have f0 := R3.frozen 0; have f1 := (R3.set_ 0 (.int .i64 s)).frozen 1; have r2 := (R3.set_ 0 (.int .i64 s)).cell 1))
  have hw := hb2.trans (hb3.mono hb2.size)
  have hz3 := hb4.size
  clear hb hof hb1 r0 r1 r2 f0 f1
  have R4 := (R3.set_ 0 (.int .i64 s)).set_ 1 (.slice A2 n2 c2)
  have R4' : Blk ((w3.setCell ⟨w.heap.size + 1, 0, none⟩ (.int .i64 s)).setCell ⟨w.heap.size + 1, 1, none⟩ (.slice A2 n2 c2)) (w.heap.size + 1) 48 #[.int .i64 s, .slice A2 n2 c2] := by simpa using R4
  obtain ⟨z0, z1⟩ := R4'.cells2
  go_wp2
  refine bodyPost_ret (v := .tuple #[.agg #[.int .i64 s, .slice A2 n2 c2], .int .i64 0]) (by simp [results, Tryz.results23, go_sem, z0, z1]) rfl ⟨A2, n2, c2, rfl, ?_, ?_⟩
  · refine OR.more (B := w2.drew.heap.size) ?_ (by omega)
    repeat (refine OR.setLow ?_ (by simp <;> omega) _)
    exact ho
  · repeat (refine Below.setCell ?_ (by simp <;> omega) _)
    exact hw
theorem spec_DesignOfObject (kk s : Int) (A : Option Addr) (n c : Nat) (zss : List (List Int)) (w : World) (ha : RR w A n zss) (hn : n ≤ 1099511627776) (hr : cells zss ≤ 1099511627776) (hc1 : n ≤ c) (hc2 : c ≤ 9223372036854775807) :
    Calls Tryz.prog 23 #[.agg #[.int .i64 kk, .int .i64 s, .slice A n c]] w (RetDesignC w (outI s kk s zss 2) (outR kk s zss 2) (askC kk s zss 2)) := by
  by_cases h : askC kk s zss 2 = 0
  · unfold outI outR
    simp only [if_pos h]
    rw [h]
    exact spec_DesignOfObject_yes kk s A n c zss w ha hn hr hc1 hc2 h
  · unfold outI outR
    simp only [if_neg h]
    exact spec_DesignOfObject_no kk s A n c zss w ha hn hr hc1 hc2 _ rfl h
/-- such a struct, its rows in memory of the call's own, and a code -/
def RetGroupC (w : World) (v : Int) (Z : List (List Int)) (C : Int) (en : Ending) (w' : World) : Prop :=
  ∃ A n c, en = .returned (.tuple #[.agg #[.int .i64 v, .slice A n c], .int .i64 C]) ∧ OR w' w.heap.size 22 2 A n c Z ∧ Below w.heap.size w w'
set_option maxHeartbeats 1000000 in
theorem impl_GroupOfObject_no (kk s : Int) (A : Option Addr) (n c : Nat) (zss : List (List Int)) (w : World) (ha : RR w A n zss) (hn : n ≤ 1099511627776) (hr : cells zss ≤ 1099511627776) (hc1 : n ≤ c) (hc2 : c ≤ 9223372036854775807) (C : Int) (hC : askC kk s zss 7 = C) (h0 : C ≠ 0) :
    Calls Tryz.prog 29 #[.agg #[.int .i64 kk, .int .i64 s, .slice A n c]] w (RetGroupC w 0 [] C) := by
  have hb1 := (below_alloc w (.cells #[.int .i64 kk, .int .i64 s, .slice A n c] 30)).alloc (by simp) (.cells #[.int .i64 0, .slice none 0 0] 54)
  have X := (Blk.new w 30 #[.int .i64 kk, .int .i64 s, .slice A n c]).alloc (.cells #[.int .i64 0, .slice none 0 0] 54)
  have R : Blk ((w.alloc (.cells #[.int .i64 kk, .int .i64 s, .slice A n c] 30)).alloc (.cells #[.int .i64 0, .slice none 0 0] 54)) (w.heap.size + 1) 54 #[.int .i64 0, .slice none 0 0] := by
    have := Blk.new (w.alloc (.cells #[.int .i64 kk, .int .i64 s, .slice A n c] 30)) 54 #[.int .i64 0, .slice none 0 0]
    simpa using this
  have hz : ((w.alloc (.cells #[.int .i64 kk, .int .i64 s, .slice A n c] 30)).alloc (.cells #[.int .i64 0, .slice none 0 0] 54)).heap.size = w.heap.size + 2 := by simp
  have hof := ofKind_any kk s 7 A n c zss _ (ha.keep hb1) hn hr hc1 hc2
  rw [hC] at hof
  have e1 : (C != 0) = true := by simpa using h0
  clear hC h0
  go_enter Tryz.func29, Tryz.ntmps29
  go_wp2_with fail
  refine hof.mono ?_
  rintro e w2 ⟨rfl, hb⟩
  have R2 := R.after hb
  have hw := hb1.trans (hb.mono hb1.size)
  clear hb R X hof hb1
  obtain ⟨z0, z1⟩ := R2.cells2
  have f0 := R2.frozen 0
  have f1 := R2.frozen 1
  go_wp2
  refine bodyPost_ret (v := .tuple #[.agg #[.int .i64 0, .slice none 0 0], .int .i64 C]) (by simp [results, Tryz.results29, go_sem, z0, z1]) rfl ⟨none, 0, 0, rfl, OR.nil_ _ _ (by decide), ?_⟩
  repeat (refine Below.setCell ?_ (by simp <;> omega) _)
  exact hw
set_option maxHeartbeats 1000000 in
theorem impl_GroupOfObject_yes (kk s : Int) (A : Option Addr) (n c : Nat) (zss : List (List Int)) (w : World) (ha : RR w A n zss) (hn : n ≤ 1099511627776) (hr : cells zss ≤ 1099511627776) (hc1 : n ≤ c) (hc2 : c ≤ 9223372036854775807) (hC : askC kk s zss 7 = 0) :
    Calls Tryz.prog 29 #[.agg #[.int .i64 kk, .int .i64 s, .slice A n c]] w (RetGroupC w s zss 0) := by
  have hb1 := (below_alloc w (.cells #[.int .i64 kk, .int .i64 s, .slice A n c] 30)).alloc (by simp) (.cells #[.int .i64 0, .slice none 0 0] 54)
  have X := (Blk.new w 30 #[.int .i64 kk, .int .i64 s, .slice A n c]).alloc (.cells #[.int .i64 0, .slice none 0 0] 54)
  have R : Blk ((w.alloc (.cells #[.int .i64 kk, .int .i64 s, .slice A n c] 30)).alloc (.cells #[.int .i64 0, .slice none 0 0] 54)) (w.heap.size + 1) 54 #[.int .i64 0, .slice none 0 0] := by
    have := Blk.new (w.alloc (.cells #[.int .i64 kk, .int .i64 s, .slice A n c] 30)) 54 #[.int .i64 0, .slice none 0 0]
    simpa using this
  have hz : ((w.alloc (.cells #[.int .i64 kk, .int .i64 s, .slice A n c] 30)).alloc (.cells #[.int .i64 0, .slice none 0 0] 54)).heap.size = w.heap.size + 2 := by simp
  have hof := ofKind_any kk s 7 A n c zss _ (ha.keep hb1) hn hr hc1 hc2
  rw [hC] at hof
  clear hC
  go_enter Tryz.func29, Tryz.ntmps29
  go_wp2_with fail
  refine hof.mono ?_
  rintro e w2 ⟨rfl, hb⟩
  have R2 := R.after hb
  have hb2 := hb1.trans (hb.mono hb1.size)
  have ha2 := ha.keep hb2
  obtain ⟨x0, x1, x2⟩ := (X.after hb).cells3
  have hz2 := hb.size
  go_wp2_with fail
  refine (groupOf_any kk s A n c zss w2 ha2 hn hr).mono ?_
  rintro e w3 ⟨A2, n2, c2, rfl, ho, hb3⟩
  have R3 := R2.after hb3
  have hw := hb2.trans (hb3.mono hb2.size)
  have hz3 := hb3.size
  clear hb R X hof hb1 R2 x0 x1 x2
  have f0 := (R3).frozen 0
  have cq0 := (R3).cell 0
  have f1 := ((R3).set_ 0 (.int .i64 s)).frozen 1
  have cq1 := ((R3).set_ 0 (.int .i64 s)).cell 1
  have R4 : Blk ((w3.setCell ⟨w.heap.size + 1, 0, none⟩ (.int .i64 s)).setCell ⟨w.heap.size + 1, 1, none⟩ (.slice A2 n2 c2)) (w.heap.size + 1) 54 #[.int .i64 s, .slice A2 n2 c2] := by
    have := ((R3).set_ 0 (.int .i64 s)).set_ 1 (.slice A2 n2 c2)
    simpa using this
  obtain ⟨z0, z1⟩ := R4.cells2
  go_wp2
  refine bodyPost_ret (v := .tuple #[.agg #[.int .i64 s, .slice A2 n2 c2], .int .i64 0]) (by simp [results, Tryz.results29, go_sem, z0, z1]) rfl ⟨A2, n2, c2, rfl, ?_, ?_⟩
  · refine OR.more (B := w2.heap.size) ?_ (by omega)
    repeat (refine OR.setLow ?_ (by simp <;> omega) _)
    exact ho
  · repeat (refine Below.setCell ?_ (by simp <;> omega) _)
    exact hw
theorem impl_GroupOfObject (kk s : Int) (A : Option Addr) (n c : Nat) (zss : List (List Int)) (w : World) (ha : RR w A n zss) (hn : n ≤ 1099511627776) (hr : cells zss ≤ 1099511627776) (hc1 : n ≤ c) (hc2 : c ≤ 9223372036854775807) :
    Calls Tryz.prog 29 #[.agg #[.int .i64 kk, .int .i64 s, .slice A n c]] w (RetGroupC w (outI s kk s zss 7) (outR kk s zss 7) (askC kk s zss 7)) := by
  by_cases h : askC kk s zss 7 = 0
  · unfold outI outR
    simp only [if_pos h]
    rw [h]
    exact impl_GroupOfObject_yes kk s A n c zss w ha hn hr hc1 hc2 h
  · unfold outI outR
    simp only [if_neg h]
    exact impl_GroupOfObject_no kk s A n c zss w ha hn hr hc1 hc2 _ rfl h
set_option maxHeartbeats 1000000 in
theorem spec_GroupOfObject_no (kk s : Int) (A : Option Addr) (n c : Nat) (zss : List (List Int)) (w : World) (ha : RR w A n zss) (hn : n ≤ 1099511627776) (hr : cells zss ≤ 1099511627776) (hc1 : n ≤ c) (hc2 : c ≤ 9223372036854775807) (C : Int) (hC : askC kk s zss 7 = C) (h0 : C ≠ 0) :
    Calls Tryz.prog 28 #[.agg #[.int .i64 kk, .int .i64 s, .slice A n c]] w (RetGroupC w 0 [] C) := by
  have hb1 := (below_alloc w (.cells #[.int .i64 kk, .int .i64 s, .slice A n c] 30)).alloc (by simp) (.cells #[.int .i64 0, .slice none 0 0] 54)
  have X := (Blk.new w 30 #[.int .i64 kk, .int .i64 s, .slice A n c]).alloc (.cells #[.int .i64 0, .slice none 0 0] 54)
  have R : Blk ((w.alloc (.cells #[.int .i64 kk, .int .i64 s, .slice A n c] 30)).alloc (.cells #[.int .i64 0, .slice none 0 0] 54)) (w.heap.size + 1) 54 #[.int .i64 0, .slice none 0 0] := by
    have := Blk.new (w.alloc (.cells #[.int .i64 kk, .int .i64 s, .slice A n c] 30)) 54 #[.int .i64 0, .slice none 0 0]
    simpa using this
  have hz : ((w.alloc (.cells #[.int .i64 kk, .int .i64 s, .slice A n c] 30)).alloc (.cells #[.int .i64 0, .slice none 0 0] 54)).heap.size = w.heap.size + 2 := by simp
  have hof := l30Ask_any _ kk s 7 A n c zss _ X (ha.keep hb1) hn hc1 hc2
  rw [hC] at hof
  have e1 : (C != 0) = true := by simpa using h0
  clear hC h0
  go_enter Tryz.func28, Tryz.ntmps28
  go_wp2_with fail
  refine hof.mono ?_
  rintro e w2 ⟨rfl, hb⟩
  have R2 := R.after hb
  have hw := hb1.trans (hb.mono hb1.size)
  clear hb R X hof hb1
  obtain ⟨z0, z1⟩ := R2.cells2
  have f0 := R2.frozen 0
  have f1 := R2.frozen 1
  go_wp2
  refine bodyPost_ret (v := .tuple #[.agg #[.int .i64 0, .slice none 0 0], .int .i64 C]) (by simp [results, Tryz.results28, go_sem, z0, z1]) rfl ⟨none, 0, 0, rfl, OR.nil_ _ _ (by decide), ?_⟩
  repeat (refine Below.setCell ?_ (by simp <;> omega) _)
  exact hw
set_option maxHeartbeats 1000000 in
theorem spec_GroupOfObject_yes (kk s : Int) (A : Option Addr) (n c : Nat) (zss : List (List Int)) (w : World) (ha : RR w A n zss) (hn : n ≤ 1099511627776) (hr : cells zss ≤ 1099511627776) (hc1 : n ≤ c) (hc2 : c ≤ 9223372036854775807) (hC : askC kk s zss 7 = 0) :
    Calls Tryz.prog 28 #[.agg #[.int .i64 kk, .int .i64 s, .slice A n c]] w (RetGroupC w s zss 0) := by
  have hb1 := (below_alloc w (.cells #[.int .i64 kk, .int .i64 s, .slice A n c] 30)).alloc (by simp) (.cells #[.int .i64 0, .slice none 0 0] 54)
  have X := (Blk.new w 30 #[.int .i64 kk, .int .i64 s, .slice A n c]).alloc (.cells #[.int .i64 0, .slice none 0 0] 54)
  have R : Blk ((w.alloc (.cells #[.int .i64 kk, .int .i64 s, .slice A n c] 30)).alloc (.cells #[.int .i64 0, .slice none 0 0] 54)) (w.heap.size + 1) 54 #[.int .i64 0, .slice none 0 0] := by
    have := Blk.new (w.alloc (.cells #[.int .i64 kk, .int .i64 s, .slice A n c] 30)) 54 #[.int .i64 0, .slice none 0 0]
    simpa using this
  have hz : ((w.alloc (.cells #[.int .i64 kk, .int .i64 s, .slice A n c] 30)).alloc (.cells #[.int .i64 0, .slice none 0 0] 54)).heap.size = w.heap.size + 2 := by simp
  have hof := l30Ask_any _ kk s 7 A n c zss _ X (ha.keep hb1) hn hc1 hc2
  rw [hC] at hof
  clear hC
  go_enter Tryz.func28, Tryz.ntmps28
  go_wp2_with fail
  refine hof.mono ?_
  rintro e w2 ⟨rfl, hb⟩
  have R2 := R.after hb
  have X2 := X.after hb
  have hb2 := hb1.trans (hb.mono hb1.size)
  have hz2 := hb.size
  dsimp only
  go_wp2
  have bd : Below w2.heap.size w2 w2.drew := by have := below_drewn w2 1; simpa [← World.drew_is_drewN] using this
  have Xd := X2.after bd
  have hzd := bd.size
  have hcp := l17Own_any A n c zss w2.drew ((ha.keep hb2).keep bd) hn hr
  have ne : w.heap.size ≠ w.heap.size + 1 := by omega
  go_region_held_law (fun w' => w'.cell? ⟨w.heap.size, 1, none⟩ = some (.int .i64 s) ∧ w'.cell? ⟨w.heap.size, 2, none⟩ = some (.slice A n c))
    (first | with_reducible exact obj12 Xd | with_reducible exact obj12 X3 | with_reducible exact obj12 ((X3.far (p := ⟨w.heap.size + 1, 0, none⟩) ne _).far (p := ⟨w.heap.size + 1, 1, none⟩) ne _))
    ((go_at_call 75; (with_reducible refine hcp.mono ?_); rintro e w3 ⟨A2, n2, c2, rfl, ho, hb4⟩; have hb3 := bd.trans (hb4.mono hzd); have X3 := X2.after hb3; have R3 := R2.after hb3; obtain ⟨r0, r1⟩ := R3.cells2; have f0 := R3.frozen 0; have f1 := (R3.set_ 0 (.int .i64 s)).frozen 1; have r2 := (R3.set_ 0 (.int .i64 s)).cell 1))
  have hw := hb2.trans (hb3.mono hb2.size)
  have hz3 := hb4.size
  clear hb hof hb1 r0 r1 r2 f0 f1
  have R4 := (R3.set_ 0 (.int .i64 s)).set_ 1 (.slice A2 n2 c2)
  have R4' : Blk ((w3.setCell ⟨w.heap.size + 1, 0, none⟩ (.int .i64 s)).setCell ⟨w.heap.size + 1, 1, none⟩ (.slice A2 n2 c2)) (w.heap.size + 1) 54 #[.int .i64 s, .slice A2 n2 c2] := by simpa using R4
  obtain ⟨z0, z1⟩ := R4'.cells2
  go_wp2
  refine bodyPost_ret (v := .tuple #[.agg #[.int .i64 s, .slice A2 n2 c2], .int .i64 0]) (by simp [results, Tryz.results28, go_sem, z0, z1]) rfl ⟨A2, n2, c2, rfl, ?_, ?_⟩
  · refine OR.more (B := w2.drew.heap.size) ?_ (by omega)
    repeat (refine OR.setLow ?_ (by simp <;> omega) _)
    exact ho
  · repeat (refine Below.setCell ?_ (by simp <;> omega) _)
    exact hw
theorem spec_GroupOfObject (kk s : Int) (A : Option Addr) (n c : Nat) (zss : List (List Int)) (w : World) (ha : RR w A n zss) (hn : n ≤ 1099511627776) (hr : cells zss ≤ 1099511627776) (hc1 : n ≤ c) (hc2 : c ≤ 9223372036854775807) :
    Calls Tryz.prog 28 #[.agg #[.int .i64 kk, .int .i64 s, .slice A n c]] w (RetGroupC w (outI s kk s zss 7) (outR kk s zss 7) (askC kk s zss 7)) := by
  by_cases h : askC kk s zss 7 = 0
  · unfold outI outR
    simp only [if_pos h]
    rw [h]
    exact spec_GroupOfObject_yes kk s A n c zss w ha hn hr hc1 hc2 h
  · unfold outI outR
    simp only [if_neg h]
    exact spec_GroupOfObject_no kk s A n c zss w ha hn hr hc1 hc2 _ rfl h
/-- such a struct, its rows in memory of the call's own, and a code -/
def RetArrayC (w : World) (lv co : Int) (Z : List (List Int)) (C : Int) (en : Ending) (w' : World) : Prop :=
  ∃ A n c, en = .returned (.tuple #[.agg #[.int .i64 lv, .int .i64 co, .slice A n c], .int .i64 C]) ∧ OR w' w.heap.size 22 2 A n c Z ∧ Below w.heap.size w w'
set_option maxHeartbeats 1000000 in
theorem impl_ArrayOfObject_no (kk s : Int) (A : Option Addr) (n c : Nat) (zss : List (List Int)) (w : World) (ha : RR w A n zss) (hn : n ≤ 1099511627776) (hr : cells zss ≤ 1099511627776) (hc1 : n ≤ c) (hc2 : c ≤ 9223372036854775807) (C : Int) (hC : askC kk s zss 4 = C) (h0 : C ≠ 0) :
    Calls Tryz.prog 34 #[.agg #[.int .i64 kk, .int .i64 s, .slice A n c]] w (RetArrayC w 0 0 [] C) := by
  have hb1 := (below_alloc w (.cells #[.int .i64 kk, .int .i64 s, .slice A n c] 30)).alloc (by simp) (.cells #[.int .i64 0, .int .i64 0, .slice none 0 0] 60)
  have X := (Blk.new w 30 #[.int .i64 kk, .int .i64 s, .slice A n c]).alloc (.cells #[.int .i64 0, .int .i64 0, .slice none 0 0] 60)
  have R : Blk ((w.alloc (.cells #[.int .i64 kk, .int .i64 s, .slice A n c] 30)).alloc (.cells #[.int .i64 0, .int .i64 0, .slice none 0 0] 60)) (w.heap.size + 1) 60 #[.int .i64 0, .int .i64 0, .slice none 0 0] := by
    have := Blk.new (w.alloc (.cells #[.int .i64 kk, .int .i64 s, .slice A n c] 30)) 60 #[.int .i64 0, .int .i64 0, .slice none 0 0]
    simpa using this
  have hz : ((w.alloc (.cells #[.int .i64 kk, .int .i64 s, .slice A n c] 30)).alloc (.cells #[.int .i64 0, .int .i64 0, .slice none 0 0] 60)).heap.size = w.heap.size + 2 := by simp
  have hof := ofKind_any kk s 4 A n c zss _ (ha.keep hb1) hn hr hc1 hc2
  rw [hC] at hof
  have e1 : (C != 0) = true := by simpa using h0
  clear hC h0
  go_enter Tryz.func34, Tryz.ntmps34
  go_wp2_with fail
  refine hof.mono ?_
  rintro e w2 ⟨rfl, hb⟩
  have R2 := R.after hb
  have hw := hb1.trans (hb.mono hb1.size)
  clear hb R X hof hb1
  obtain ⟨z0, z1, z2⟩ := R2.cells3
  have f0 := R2.frozen 0
  have f1 := R2.frozen 1
  have f2 := R2.frozen 2
  go_wp2
  refine bodyPost_ret (v := .tuple #[.agg #[.int .i64 0, .int .i64 0, .slice none 0 0], .int .i64 C]) (by simp [results, Tryz.results34, go_sem, z0, z1, z2]) rfl ⟨none, 0, 0, rfl, OR.nil_ _ _ (by decide), ?_⟩
  repeat (refine Below.setCell ?_ (by simp <;> omega) _)
  exact hw
set_option maxHeartbeats 1000000 in
theorem impl_ArrayOfObject_yes (kk s : Int) (A : Option Addr) (n c : Nat) (zss : List (List Int)) (w : World) (ha : RR w A n zss) (hn : n ≤ 1099511627776) (hr : cells zss ≤ 1099511627776) (hc1 : n ≤ c) (hc2 : c ≤ 9223372036854775807) (hC : askC kk s zss 4 = 0) :
    Calls Tryz.prog 34 #[.agg #[.int .i64 kk, .int .i64 s, .slice A n c]] w (RetArrayC w s ((row zss 0).length : Int) zss 0) := by
  have hb1 := (below_alloc w (.cells #[.int .i64 kk, .int .i64 s, .slice A n c] 30)).alloc (by simp) (.cells #[.int .i64 0, .int .i64 0, .slice none 0 0] 60)
  have X := (Blk.new w 30 #[.int .i64 kk, .int .i64 s, .slice A n c]).alloc (.cells #[.int .i64 0, .int .i64 0, .slice none 0 0] 60)
  have R : Blk ((w.alloc (.cells #[.int .i64 kk, .int .i64 s, .slice A n c] 30)).alloc (.cells #[.int .i64 0, .int .i64 0, .slice none 0 0] 60)) (w.heap.size + 1) 60 #[.int .i64 0, .int .i64 0, .slice none 0 0] := by
    have := Blk.new (w.alloc (.cells #[.int .i64 kk, .int .i64 s, .slice A n c] 30)) 60 #[.int .i64 0, .int .i64 0, .slice none 0 0]
    simpa using this
  have hz : ((w.alloc (.cells #[.int .i64 kk, .int .i64 s, .slice A n c] 30)).alloc (.cells #[.int .i64 0, .int .i64 0, .slice none 0 0] 60)).heap.size = w.heap.size + 2 := by simp
  have hof := ofKind_any kk s 4 A n c zss _ (ha.keep hb1) hn hr hc1 hc2
  rw [hC] at hof
  clear hC
  go_enter Tryz.func34, Tryz.ntmps34
  go_wp2_with fail
  refine hof.mono ?_
  rintro e w2 ⟨rfl, hb⟩
  have R2 := R.after hb
  have hb2 := hb1.trans (hb.mono hb1.size)
  have ha2 := ha.keep hb2
  obtain ⟨x0, x1, x2⟩ := (X.after hb).cells3
  have hz2 := hb.size
  go_wp2_with fail
  refine (arrayOf_any kk s A n c zss w2 ha2 hn hr).mono ?_
  rintro e w3 ⟨A2, n2, c2, rfl, ho, hb3⟩
  have R3 := R2.after hb3
  have hw := hb2.trans (hb3.mono hb2.size)
  have hz3 := hb3.size
  clear hb R X hof hb1 R2 x0 x1 x2
  generalize hgl : ((row zss 0).length : Int) = gl at *
  clear hgl
  have f0 := (R3).frozen 0
  have cq0 := (R3).cell 0
  have f1 := ((R3).set_ 0 (.int .i64 s)).frozen 1
  have cq1 := ((R3).set_ 0 (.int .i64 s)).cell 1
  have f2 := (((R3).set_ 0 (.int .i64 s)).set_ 1 (.int .i64 gl)).frozen 2
  have cq2 := (((R3).set_ 0 (.int .i64 s)).set_ 1 (.int .i64 gl)).cell 2
  have R4 : Blk (((w3.setCell ⟨w.heap.size + 1, 0, none⟩ (.int .i64 s)).setCell ⟨w.heap.size + 1, 1, none⟩ (.int .i64 gl)).setCell ⟨w.heap.size + 1, 2, none⟩ (.slice A2 n2 c2)) (w.heap.size + 1) 60 #[.int .i64 s, .int .i64 gl, .slice A2 n2 c2] := by
    have := (((R3).set_ 0 (.int .i64 s)).set_ 1 (.int .i64 gl)).set_ 2 (.slice A2 n2 c2)
    simpa using this
  obtain ⟨z0, z1, z2⟩ := R4.cells3
  go_wp2
  refine bodyPost_ret (v := .tuple #[.agg #[.int .i64 s, .int .i64 gl, .slice A2 n2 c2], .int .i64 0]) (by simp [results, Tryz.results34, go_sem, z0, z1, z2]) rfl ⟨A2, n2, c2, rfl, ?_, ?_⟩
  · refine OR.more (B := w2.heap.size) ?_ (by omega)
    repeat (refine OR.setLow ?_ (by simp <;> omega) _)
    exact ho
  · repeat (refine Below.setCell ?_ (by simp <;> omega) _)
    exact hw
theorem impl_ArrayOfObject (kk s : Int) (A : Option Addr) (n c : Nat) (zss : List (List Int)) (w : World) (ha : RR w A n zss) (hn : n ≤ 1099511627776) (hr : cells zss ≤ 1099511627776) (hc1 : n ≤ c) (hc2 : c ≤ 9223372036854775807) :
    Calls Tryz.prog 34 #[.agg #[.int .i64 kk, .int .i64 s, .slice A n c]] w (RetArrayC w (outI s kk s zss 4) (outI ((row zss 0).length : Int) kk s zss 4) (outR kk s zss 4) (askC kk s zss 4)) := by
  by_cases h : askC kk s zss 4 = 0
  · unfold outI outR
    simp only [if_pos h]
    rw [h]
    exact impl_ArrayOfObject_yes kk s A n c zss w ha hn hr hc1 hc2 h
  · unfold outI outR
    simp only [if_neg h]
    exact impl_ArrayOfObject_no kk s A n c zss w ha hn hr hc1 hc2 _ rfl h
set_option maxHeartbeats 1000000 in
theorem spec_ArrayOfObject_no (kk s : Int) (A : Option Addr) (n c : Nat) (zss : List (List Int)) (w : World) (ha : RR w A n zss) (hn : n ≤ 1099511627776) (hr : cells zss ≤ 1099511627776) (hc1 : n ≤ c) (hc2 : c ≤ 9223372036854775807) (C : Int) (hC : askC kk s zss 4 = C) (h0 : C ≠ 0) :
    Calls Tryz.prog 33 #[.agg #[.int .i64 kk, .int .i64 s, .slice A n c]] w (RetArrayC w 0 0 [] C) := by
  have hb1 := (below_alloc w (.cells #[.int .i64 kk, .int .i64 s, .slice A n c] 30)).alloc (by simp) (.cells #[.int .i64 0, .int .i64 0, .slice none 0 0] 60)
  have X := (Blk.new w 30 #[.int .i64 kk, .int .i64 s, .slice A n c]).alloc (.cells #[.int .i64 0, .int .i64 0, .slice none 0 0] 60)
  have R : Blk ((w.alloc (.cells #[.int .i64 kk, .int .i64 s, .slice A n c] 30)).alloc (.cells #[.int .i64 0, .int .i64 0, .slice none 0 0] 60)) (w.heap.size + 1) 60 #[.int .i64 0, .int .i64 0, .slice none 0 0] := by
    have := Blk.new (w.alloc (.cells #[.int .i64 kk, .int .i64 s, .slice A n c] 30)) 60 #[.int .i64 0, .int .i64 0, .slice none 0 0]
    simpa using this
  have hz : ((w.alloc (.cells #[.int .i64 kk, .int .i64 s, .slice A n c] 30)).alloc (.cells #[.int .i64 0, .int .i64 0, .slice none 0 0] 60)).heap.size = w.heap.size + 2 := by simp
  have hof := l30Ask_any _ kk s 4 A n c zss _ X (ha.keep hb1) hn hc1 hc2
  rw [hC] at hof
  have e1 : (C != 0) = true := by simpa using h0
  clear hC h0
  go_enter Tryz.func33, Tryz.ntmps33
  go_wp2_with fail
  refine hof.mono ?_
  rintro e w2 ⟨rfl, hb⟩
  have R2 := R.after hb
  have hw := hb1.trans (hb.mono hb1.size)
  clear hb R X hof hb1
  obtain ⟨z0, z1, z2⟩ := R2.cells3
  have f0 := R2.frozen 0
  have f1 := R2.frozen 1
  have f2 := R2.frozen 2
  go_wp2
  refine bodyPost_ret (v := .tuple #[.agg #[.int .i64 0, .int .i64 0, .slice none 0 0], .int .i64 C]) (by simp [results, Tryz.results33, go_sem, z0, z1, z2]) rfl ⟨none, 0, 0, rfl, OR.nil_ _ _ (by decide), ?_⟩
  repeat (refine Below.setCell ?_ (by simp <;> omega) _)
  exact hw
set_option maxHeartbeats 1000000 in
theorem spec_ArrayOfObject_yes (kk s : Int) (A : Option Addr) (n c : Nat) (zss : List (List Int)) (w : World) (ha : RR w A n zss) (hn : n ≤ 1099511627776) (hr : cells zss ≤ 1099511627776) (hc1 : n ≤ c) (hc2 : c ≤ 9223372036854775807) (hC : askC kk s zss 4 = 0) (hn0 : 0 < n) :
    Calls Tryz.prog 33 #[.agg #[.int .i64 kk, .int .i64 s, .slice A n c]] w (RetArrayC w s ((row zss 0).length : Int) zss 0) := by
  have hb1 := (below_alloc w (.cells #[.int .i64 kk, .int .i64 s, .slice A n c] 30)).alloc (by simp) (.cells #[.int .i64 0, .int .i64 0, .slice none 0 0] 60)
  have X := (Blk.new w 30 #[.int .i64 kk, .int .i64 s, .slice A n c]).alloc (.cells #[.int .i64 0, .int .i64 0, .slice none 0 0] 60)
  have R : Blk ((w.alloc (.cells #[.int .i64 kk, .int .i64 s, .slice A n c] 30)).alloc (.cells #[.int .i64 0, .int .i64 0, .slice none 0 0] 60)) (w.heap.size + 1) 60 #[.int .i64 0, .int .i64 0, .slice none 0 0] := by
    have := Blk.new (w.alloc (.cells #[.int .i64 kk, .int .i64 s, .slice A n c] 30)) 60 #[.int .i64 0, .int .i64 0, .slice none 0 0]
    simpa using this
  have hz : ((w.alloc (.cells #[.int .i64 kk, .int .i64 s, .slice A n c] 30)).alloc (.cells #[.int .i64 0, .int .i64 0, .slice none 0 0] 60)).heap.size = w.heap.size + 2 := by simp
  have hof := l30Ask_any _ kk s 4 A n c zss _ X (ha.keep hb1) hn hc1 hc2
  rw [hC] at hof
  clear hC
  go_enter Tryz.func33, Tryz.ntmps33
  go_wp2_with fail
  refine hof.mono ?_
  rintro e w2 ⟨rfl, hb⟩
  have R2 := R.after hb
  have X2 := X.after hb
  have hb2 := hb1.trans (hb.mono hb1.size)
  have hz2 := hb.size
  dsimp only
  go_wp2_with fail
  refine (l30Array_any w.heap.size kk s A n c zss w2 X2 (ha.keep hb2) hn0 hc1 hc2).mono ?_
  rintro e w3 ⟨rfl, hb3⟩
  have R3 := R2.after hb3
  have X3 := X2.after hb3
  have hb4 := hb2.trans (hb3.mono hb2.size)
  have hz3 := hb3.size
  dsimp only
  generalize hgl : ((row zss 0).length : Int) = gl at *
  have ba := below_alloc w3 (.cells #[.int .i64 s, .int .i64 gl, .slice A n c] 60)
  have Y4 := Blk.new w3 60 #[.int .i64 s, .int .i64 gl, .slice A n c]
  have X4 := X3.after ba
  have R4 := R3.after ba
  have hb5 := hb4.trans (ba.mono hb4.size)
  obtain ⟨x0, x1, x2⟩ := X4.cells3
  have hza := ba.size
  go_wp2_with fail
  have hg : w.heap.size + 2 ≤ w3.heap.size := by omega
  have hgw : w3.heap.size + 1 = (w3.alloc (.cells #[.int .i64 s, .int .i64 gl, .slice A n c] 60)).heap.size := by simp
  generalize w3.alloc (.cells #[.int .i64 s, .int .i64 gl, .slice A n c] 60) = w4 at *
  generalize w3.heap.size = gy at *
  refine (l17Own_any A n c zss w4 (ha.keep hb5) hn hr).mono ?_
  rintro e w5 ⟨A2, n2, c2, rfl, ho, hb6⟩
  dsimp only
  have Y5 := Y4.after hb6
  have R5 := R4.after hb6
  have hw := hb5.trans (hb6.mono hb5.size)
  have hz6 := hb6.size
  clear hb hof hb1 x0 x1 x2 X4 R4 Y4 R3 X3 R2 X2 R X
  have Y6 : Blk (w5.setCell ⟨gy, 2, none⟩ (.slice A2 n2 c2)) gy 60 #[.int .i64 s, .int .i64 gl, .slice A2 n2 c2] := by
    have := Y5.set_ 2 (.slice A2 n2 c2)
    simpa using this
  have R6 := R5.far (p := ⟨gy, 2, none⟩) (show w.heap.size + 1 ≠ gy by omega) (.slice A2 n2 c2)
  obtain ⟨y0, y1, y2⟩ := Y5.cells3
  obtain ⟨t0, t1, t2⟩ := Y6.cells3
  have fy := Y5.frozen 2
  have g0 := R6.frozen 0
  have g1 := (R6.set_ 0 (.int .i64 s)).frozen 1
  have g2 := ((R6.set_ 0 (.int .i64 s)).set_ 1 (.int .i64 gl)).frozen 2
  obtain ⟨r0, r1, r2⟩ := R6.cells3
  have r3 := (R6.set_ 0 (.int .i64 s)).cell 1
  have r4 := ((R6.set_ 0 (.int .i64 s)).set_ 1 (.int .i64 gl)).cell 2
  have R7 : Blk ((((w5.setCell ⟨gy, 2, none⟩ (.slice A2 n2 c2)).setCell ⟨w.heap.size + 1, 0, none⟩ (.int .i64 s)).setCell ⟨w.heap.size + 1, 1, none⟩ (.int .i64 gl)).setCell ⟨w.heap.size + 1, 2, none⟩ (.slice A2 n2 c2)) (w.heap.size + 1) 60 #[.int .i64 s, .int .i64 gl, .slice A2 n2 c2] := by
    have := ((R6.set_ 0 (.int .i64 s)).set_ 1 (.int .i64 gl)).set_ 2 (.slice A2 n2 c2)
    simpa using this
  obtain ⟨z0, z1, z2⟩ := R7.cells3
  have hgy : gy < w4.heap.size := by omega
  clear hgl
  go_wp2
  refine bodyPost_ret (v := .tuple #[.agg #[.int .i64 s, .int .i64 gl, .slice A2 n2 c2], .int .i64 0]) (by simp [results, Tryz.results33, go_sem, z0, z1, z2]) rfl ⟨A2, n2, c2, rfl, ?_, ?_⟩
  · refine OR.more (B := w4.heap.size) ?_ (by omega)
    repeat (refine OR.setLow ?_ (by simp <;> omega) _)
    exact ho
  · repeat (refine Below.setCell ?_ (by simp <;> omega) _)
    exact hw
theorem spec_ArrayOfObject (kk s : Int) (A : Option Addr) (n c : Nat) (zss : List (List Int)) (w : World) (ha : RR w A n zss) (hn : n ≤ 1099511627776) (hr : cells zss ≤ 1099511627776) (hc1 : n ≤ c) (hc2 : c ≤ 9223372036854775807) :
    Calls Tryz.prog 33 #[.agg #[.int .i64 kk, .int .i64 s, .slice A n c]] w (RetArrayC w (outI s kk s zss 4) (outI ((row zss 0).length : Int) kk s zss 4) (outR kk s zss 4) (askC kk s zss 4)) := by
  by_cases h : askC kk s zss 4 = 0
  · unfold outI outR
    simp only [if_pos h]
    rw [h]
    exact spec_ArrayOfObject_yes kk s A n c zss w ha hn hr hc1 hc2 h (by obtain ⟨rfl, hv⟩ := askC_zero h; have := ((vobj4 s zss).1 hv).1; rw [ha.len] at this; exact this)
  · unfold outI outR
    simp only [if_neg h]
    exact spec_ArrayOfObject_no kk s A n c zss w ha hn hr hc1 hc2 _ rfl h
end Go.Proofs.YtemdjochphehjaaGreat
