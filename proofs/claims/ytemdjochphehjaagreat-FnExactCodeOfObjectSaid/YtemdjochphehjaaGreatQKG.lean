/- An object that has to have a kind. No condition beyond those stated. -/
import Derived.Test.YtemdjochphehjaaGreatQKF
set_option linter.unusedVariables false
set_option linter.unusedSimpArgs false
namespace Go.Proofs.YtemdjochphehjaaGreat
open Go.RowKit

/-- the code of an object that has to have a kind -/
noncomputable def askC (kk s : Int) (zss : List (List Int)) (K : Int) : Int := if tB (VObj kk s zss) then (if kk = K then 0 else 6) else 1
noncomputable def outR (kk s : Int) (zss : List (List Int)) (K : Int) : List (List Int) := if askC kk s zss K = 0 then zss else []
noncomputable def outI (x kk s : Int) (zss : List (List Int)) (K : Int) : Int := if askC kk s zss K = 0 then x else 0
theorem askC_zero {kk s : Int} {zss : List (List Int)} {K : Int} (h : askC kk s zss K = 0) : kk = K ∧ VObj kk s zss := by
  unfold askC at h
  cases hv : tB (VObj kk s zss) with
  | false => rw [hv] at h; simp at h
  | true =>
    rw [hv] at h
    by_cases e : kk = K
    · exact ⟨e, tB_true.1 hv⟩
    · simp [e] at h
theorem outR_len (kk s : Int) (zss : List (List Int)) (K : Int) : (outR kk s zss K).length ≤ zss.length ∧ cells (outR kk s zss K) ≤ cells zss := by
  unfold outR
  split
  · exact ⟨Nat.le_refl _, Nat.le_refl _⟩
  · exact ⟨by simp, by simp [cells]⟩
set_option maxHeartbeats 800000 in
theorem ofKind_any (kk s K : Int) (A : Option Addr) (n c : Nat) (zss : List (List Int)) (w : World) (ha : RR w A n zss) (hn : n ≤ 1099511627776) (hr : cells zss ≤ 1099511627776) (hc1 : n ≤ c) (hc2 : c ≤ 9223372036854775807) :
    Calls Tryz.prog 76 #[.agg #[.int .i64 kk, .int .i64 s, .slice A n c], .int .i64 K] w (fun e w' => e = .returned (.int .i64 (askC kk s zss K)) ∧ Below w.heap.size w w') := by
  have hb1 := below_alloc w (.cells #[.int .i64 kk, .int .i64 s, .slice A n c] 30)
  have X := Blk.new w 30 #[.int .i64 kk, .int .i64 s, .slice A n c]
  have hvo := validObject_any kk s A n c zss _ (ha.keep hb1) hn hr hc1 hc2
  cases hv : tB (VObj kk s zss) with
  | false =>
    have H := Lib.hid (show askC kk s zss K = 1 by unfold askC; rw [hv]; rfl)
    rw [hv] at hvo
    go_enter Tryz.func76, Tryz.ntmps76
    go_wp2_with (go_at_call 22; refine hvo.mono ?_; rintro e w2 ⟨rfl, hb⟩)
    go_ret
    exact ⟨by rw [H.out]; rfl, hb1.trans (hb.mono hb1.size)⟩
  | true =>
    rw [hv] at hvo
    by_cases e : kk = K
    · have H := Lib.hid (show askC kk s zss K = 0 by unfold askC; rw [hv, if_pos rfl, if_pos e])
      have e1 : (kk != K) = false := by simp [e]
      clear e
      go_enter Tryz.func76, Tryz.ntmps76
      go_wp2_with (go_at_call 22; refine hvo.mono ?_; rintro e w2 ⟨rfl, hb⟩; obtain ⟨x0, x1, x2⟩ := (X.after hb).cells3)
      go_ret
      exact ⟨by rw [H.out]; rfl, hb1.trans (hb.mono hb1.size)⟩
    · have H := Lib.hid (show askC kk s zss K = 6 by unfold askC; rw [hv, if_pos rfl, if_neg e])
      have e1 : (kk != K) = true := by simp [e]
      clear e
      go_enter Tryz.func76, Tryz.ntmps76
      go_wp2_with (go_at_call 22; refine hvo.mono ?_; rintro e w2 ⟨rfl, hb⟩; obtain ⟨x0, x1, x2⟩ := (X.after hb).cells3)
      go_ret
      exact ⟨by rw [H.out]; rfl, hb1.trans (hb.mono hb1.size)⟩
set_option maxHeartbeats 800000 in
theorem l30Ask_any (g : Nat) (kk s K : Int) (A : Option Addr) (n c : Nat) (zss : List (List Int)) (w : World) (hB : Blk w g 30 #[.int .i64 kk, .int .i64 s, .slice A n c]) (ha : RR w A n zss) (hn : n ≤ 1099511627776) (hc1 : n ≤ c) (hc2 : c ≤ 9223372036854775807) :
    Calls Tryz.prog 74 #[.pointer (some ⟨g, 0, none⟩), .int .i64 K] w (fun e w' => e = .returned (.int .i64 (askC kk s zss K)) ∧ Below w.heap.size w w') := by
  have hvo := judgeAny kk s zss w (by rw [ha.len]; exact hn) g A n c w (Below.refl _ _) hB ha hc1 hc2
  cases hv : tB (VObj kk s zss) with
  | false =>
    have H := Lib.hid (show askC kk s zss K = 1 by unfold askC; rw [hv]; rfl)
    rw [hv] at hvo
    go_enter Tryz.func74, Tryz.ntmps74
    go_wp2_with (go_at_call 62; refine hvo.mono ?_; rintro e w2 ⟨rfl, hb⟩)
    go_ret
    exact ⟨by rw [H.out]; rfl, hb⟩
  | true =>
    rw [hv] at hvo
    by_cases e : kk = K
    · have H := Lib.hid (show askC kk s zss K = 0 by unfold askC; rw [hv, if_pos rfl, if_pos e])
      have e1 : (kk != K) = false := by simp [e]
      clear e
      go_enter Tryz.func74, Tryz.ntmps74
      go_wp2_with (go_at_call 62; refine hvo.mono ?_; rintro e w2 ⟨rfl, hb⟩; obtain ⟨x0, x1, x2⟩ := (hB.after hb).cells3)
      go_ret
      exact ⟨by rw [H.out]; rfl, hb⟩
    · have H := Lib.hid (show askC kk s zss K = 6 by unfold askC; rw [hv, if_pos rfl, if_neg e])
      have e1 : (kk != K) = true := by simp [e]
      clear e
      go_enter Tryz.func74, Tryz.ntmps74
      go_wp2_with (go_at_call 62; refine hvo.mono ?_; rintro e w2 ⟨rfl, hb⟩; obtain ⟨x0, x1, x2⟩ := (hB.after hb).cells3)
      go_ret
      exact ⟨by rw [H.out]; rfl, hb⟩
end Go.Proofs.YtemdjochphehjaaGreat
