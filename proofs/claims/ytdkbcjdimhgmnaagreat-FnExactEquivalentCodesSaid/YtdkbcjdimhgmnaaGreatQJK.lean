/- What a code is: the program's own function. No condition beyond those stated. -/
import Derived.Test.YtdkbcjdimhgmnaaGreatQJI
set_option linter.unusedVariables false
set_option linter.unusedSimpArgs false
namespace Go.Proofs.YtdkbcjdimhgmnaaGreat
open Go.RowKit
set_option maxRecDepth 100000 in
set_option maxHeartbeats 1600000 in
theorem validCode_any (P D : Int) (A : Option Addr) (n c : Nat) (f : List Int) (M : Option Addr) (r rc : Nat) (rows : List (List Int)) (w : World) (hf : RI w A n f) (hP : I64 P) (hD : I64 D) (hn : n ≤ 9223372036854775807) (hr : RR w M r rows) (hrm : r ≤ 9223372036854775807) :
    Calls Tryz.prog 42 #[.agg #[.int .i64 P, .int .i64 D, .slice A n c, .slice M r rc]] w (RetB w (tB (CodeOk P D f rows))) := by
  have hb1 := below_alloc w (.cells #[.int .i64 P, .int .i64 D, .slice A n c, .slice M r rc] 33)
  have X := Blk.new w 33 #[.int .i64 P, .int .i64 D, .slice A n c, .slice M r rc]
  obtain ⟨W1, hW1⟩ : ∃ W1, W1 = w.alloc (.cells #[.int .i64 P, .int .i64 D, .slice A n c, .slice M r rc] 33) := ⟨_, rfl⟩
  rw [← hW1] at hb1 X
  have hf1 := hf.keep hb1
  have hr1 := hr.keep hb1
  have hmat : ∀ p : Bel W1, Calls Tryz.prog 94 #[.agg #[.int .i64 P, .int .i64 D, .slice A n c], .slice M r rc] p.w (RetB p.w (tB (MatOk P D f rows))) := fun p => validMatrix_any P D A n c f M r rc rows p.w (hf1.keep p.h) hP hD hn (hr1.keep p.h) hrm
  have x0 : W1.cell? ⟨w.heap.size, 0, none⟩ = some (.int .i64 P) := X.cell 0
  have x1 : W1.cell? ⟨w.heap.size, 1, none⟩ = some (.int .i64 D) := X.cell 1
  have x2 : W1.cell? ⟨w.heap.size, 2, none⟩ = some (.slice A n c) := X.cell 2
  have x3 : W1.cell? ⟨w.heap.size, 3, none⟩ = some (.slice M r rc) := X.cell 3
  have q0 := cell_bel x0
  have q1 := cell_bel x1
  have q2 := cell_bel x2
  have q3 := cell_bel x3
  have HL := Lib.hid hr.len
  cases hv : tB (MatOk P D f rows) with
  | false =>
    have H := Lib.hid (show tB (CodeOk P D f rows) = false from tB_no fun hh => by rw [tB_yes hh.1] at hv; cases hv)
    rw [hv] at hmat
    go_enter Tryz.func42, Tryz.ntmps42
    go_wp2
    rw [← hW1]
    clear hW1
    refine wp_region_bel (by kernel_rfl) (by kernel_rfl) ?_
    repeat (first | go_big_quiet_step ((go_at_call 94; exact Calls.bel (hmat _))) | quiet_step ((go_at_call 94; exact Calls.bel (hmat _))))
    refine wpQuiet_nil ?_
    rintro _ ⟨⟨w2, hb2⟩, rfl⟩
    clear q0 q1 q2 q3
    go_wp2
    go_ret
    exact ⟨by rw [H.out]; rfl, hb1.trans (hb2.mono hb1.size)⟩
  | true =>
    obtain ⟨⟨hD1, hfo⟩, ⟨r1, r32⟩, ⟨m1, m32⟩, hmq⟩ := tB_true.1 hv
    obtain ⟨K, rfl⟩ : ∃ K : Nat, D = (K : Int) := ⟨D.toNat, by omega⟩
    have hfo : FldOk P K f := hfo
    have hmq : MatQ (P ^ K) (row rows 0).length rows := hmq
    rw [HL.out] at r1 r32
    obtain ⟨ad, Z, m, cz, rfl, hc0, hz1, hz2, hrz⟩ := hr.get (k := 0) (by omega)
    have hm : (row rows 0).length = m := hrz.len
    rw [hm] at m1 m32 hmq
    have HM := Lib.hid hmq
    have HV := Lib.hid hv
    rw [hv] at hmat
    obtain ⟨p2, p61, k1, k6, hq64, hq2⟩ := hfo.nums
    by_cases h8 : r > 8
    · have b2 : (r : Int) > 8 := by omega
      have H := Lib.hid (show tB (CodeOk P K f rows) = false from tB_no fun hh => by have := hh.2.1; rw [HL.out] at this; omega)
      clear hmq hv hrz hc0 hm
      go_enter Tryz.func42, Tryz.ntmps42
      go_wp2
      rw [← hW1]
      clear hW1
      refine wp_region_bel (by kernel_rfl) (by kernel_rfl) ?_
      repeat (first | go_big_quiet_step ((go_at_call 94; exact Calls.bel (hmat _))) | quiet_step ((go_at_call 94; exact Calls.bel (hmat _))))
      refine wpQuiet_nil ?_
      rintro _ ⟨⟨w2, hb2⟩, rfl⟩
      clear q0 q1 q2 q3
      go_wp2
      go_ret
      exact ⟨by rw [H.out]; rfl, hb1.trans (hb2.mono hb1.size)⟩
    · have b2 : decide (8 < (r : Int)) = false := by simp; omega
      have bd : Below W1.heap.size W1 W1.drew := by have := below_drewn W1 1; simpa [← World.drew_is_drewN] using this
      have hmatd : Calls Tryz.prog 94 #[.agg #[.int .i64 P, .int .i64 K, .slice A n c], .slice (some ad) r rc] W1.drew (RetB W1.drew true) := hmat ⟨_, bd⟩
      have hS : ∀ {W : World}, Below W1.heap.size W1 W → (Below W1.heap.size W1 W ∧ W.cell? ⟨w.heap.size, 0, none⟩ = some (.int .i64 P) ∧ W.cell? ⟨w.heap.size, 1, none⟩ = some (.int .i64 K) ∧ W.cell? ⟨w.heap.size, 2, none⟩ = some (.slice A n c) ∧ W.cell? ⟨w.heap.size, 3, none⟩ = some (.slice (some ad) r rc)) := fun hb => ⟨hb, below_cell hb x0, below_cell hb x1, below_cell hb x2, below_cell hb x3⟩
      have HFO := Lib.hid hfo
      clear hmq hv hrz hc0 hmat q0 q1 q2 q3 hfo
      by_cases hc : (P ^ K) ^ r ≤ 4096
      · have HC := Lib.hid hc
        go_enter Tryz.func42, Tryz.ntmps42
        go_wp2
        rw [← hW1]
        clear hW1
        go_region_held_law (fun w' => Below W1.heap.size W1 w' ∧ w'.cell? ⟨w.heap.size, 0, none⟩ = some (.int .i64 P) ∧ w'.cell? ⟨w.heap.size, 1, none⟩ = some (.int .i64 K) ∧ w'.cell? ⟨w.heap.size, 2, none⟩ = some (.slice A n c) ∧ w'.cell? ⟨w.heap.size, 3, none⟩ = some (.slice (some ad) r rc))
          (first | with_reducible exact hS bd | with_reducible exact hS B2 | with_reducible exact hS B3)
          ((first
            | (go_at_call 94; (with_reducible refine hmatd.mono ?_); rintro e w2 ⟨rfl, hb2⟩; have B2 := bd.trans (hb2.mono bd.size))
            | (go_at_call 53; (with_reducible refine (fieldSize_any P K A n c w2 p2 (by omega) hq64 k6).mono ?_); rintro e w3 ⟨rfl, hb3⟩; have B3 := B2.trans (hb3.mono B2.size))
            | (go_at_call 96; (with_reducible refine (sizeR_any (some ad) r rc w3 (by omega)).mono ?_); rintro e w' ⟨rfl, rfl⟩)
            | (go_at_call 95; (with_reducible refine (powerUpTo_any (P ^ K) r 4096 w3 hq2 (by omega) (by omega) (by omega) (by omega) (by omega)).mono ?_); rintro e w' ⟨rv, rfl, hcap, rfl⟩; have hrv := (show ¬ rv > 4096 by rw [Int.toNat_natCast] at hcap; have := hcap.eq HC.out; omega))))
        clear hmatd
        obtain ⟨q, hq⟩ : ∃ q : Nat, P ^ K = (q : Int) := ⟨(P ^ K).toNat, by omega⟩
        have HQ := Lib.hid hq
        have bd3 : Below W1.heap.size W1 w3.drew := B3.trans (by have := (below_drewn w3 1).mono B3.size; simpa [← World.drew_is_drewN] using this)
        have htab := tablesOf_any P K f q A n c w3.drew hq HFO.out (hf1.keep bd3)
        have HF := Lib.hid (show (decide (formR P K f rows = rows) : Bool) = tB (CodeOk P K f rows) by
          by_cases hd : formR P K f rows = rows
          · rw [tB_yes ⟨HV.out |> tB_true.1, by rw [HL.out]; omega, by rw [HL.out]; exact HC.out, hd⟩]; simpa using hd
          · rw [tB_no fun hh => hd hh.2.2.2]; simpa using hd)
        have HFL := Lib.hid (fun (A' : Option Addr) (np : Nat) (w4 : World) (hh : RR w4 A' np (formR P K f rows)) => show np ≤ 9223372036854775807 by
          have h1 := hh.len
          have h2 := redTo_len P K f rows (row rows 0).length
          have h3 := HL.out
          unfold formR at h1
          rw [List.length_take, h2] at h1
          omega)
        obtain ⟨y0, y1, y2, y3⟩ := (hS B3).2
        clear hq hc hb2 hb3 B2 X hf hr
        go_wp2
        go_region_held_law (fun w' => Below W1.heap.size W1 w' ∧ w'.cell? ⟨w.heap.size, 0, none⟩ = some (.int .i64 P) ∧ w'.cell? ⟨w.heap.size, 1, none⟩ = some (.int .i64 K) ∧ w'.cell? ⟨w.heap.size, 2, none⟩ = some (.slice A n c) ∧ w'.cell? ⟨w.heap.size, 3, none⟩ = some (.slice (some ad) r rc))
          (first | with_reducible exact hS bd3 | with_reducible exact hS B4 | with_reducible exact hS B5)
          ((first
            | (go_at_call 97; (with_reducible refine htab.mono ?_); rintro e w4 ⟨A1, A2, A3, A4, d1, d2, d3, d4, rfl, hT, hb4⟩; have B4 := bd3.trans (hb4.mono bd3.size))
            | (go_at_call 98; (with_reducible refine (reduce_any P K f q A1 A2 A3 A4 d1 d2 d3 d4 (some ad) r rc m rows w4 HQ.out HFO.out hT (hr1.keep B4) HM.out r1 (by omega) (by omega)).mono ?_); rintro e w5 ⟨A', n', c', P', np, pc, dd, rfl, hrr, hb5⟩; have B5 := B4.trans (hb5.mono B4.size))))
        obtain ⟨z0, z1, z2, z3⟩ := (hS B5).2
        have hsm := areSame_any A' (some ad) n' r c' rc _ rows w5 hrr (hr1.keep B5) (HFL.out _ _ _ hrr) hrm
        clear hT htab hb4 hb5 y0 y1 y2 y3
        go_wp2_with (go_at_call 99; refine hsm.mono ?_; rintro e w6 ⟨rfl, hd6⟩; have B6 := B5.trans (hd6.below.mono B5.size))
        go_ret
        exact ⟨by rw [← HF.out]; rfl, hb1.trans (B6.mono hb1.size)⟩
      · have HC := Lib.hid hc
        have H := Lib.hid (show tB (CodeOk P K f rows) = false from tB_no fun hh => by have := hh.2.2.1; rw [HL.out] at this; exact HC.out this)
        clear hc
        go_enter Tryz.func42, Tryz.ntmps42
        go_wp2
        rw [← hW1]
        clear hW1
        go_region_held_law (fun w' => Below W1.heap.size W1 w' ∧ w'.cell? ⟨w.heap.size, 0, none⟩ = some (.int .i64 P) ∧ w'.cell? ⟨w.heap.size, 1, none⟩ = some (.int .i64 K) ∧ w'.cell? ⟨w.heap.size, 2, none⟩ = some (.slice A n c) ∧ w'.cell? ⟨w.heap.size, 3, none⟩ = some (.slice (some ad) r rc))
          (first | with_reducible exact hS bd | with_reducible exact hS B2 | with_reducible exact hS B3)
          ((first
            | (go_at_call 94; (with_reducible refine hmatd.mono ?_); rintro e w2 ⟨rfl, hb2⟩; have B2 := bd.trans (hb2.mono bd.size))
            | (go_at_call 53; (with_reducible refine (fieldSize_any P K A n c w2 p2 (by omega) hq64 k6).mono ?_); rintro e w3 ⟨rfl, hb3⟩; have B3 := B2.trans (hb3.mono B2.size))
            | (go_at_call 96; (with_reducible refine (sizeR_any (some ad) r rc w3 (by omega)).mono ?_); rintro e w' ⟨rfl, rfl⟩)
            | (go_at_call 95; (with_reducible refine (powerUpTo_any (P ^ K) r 4096 w3 hq2 (by omega) (by omega) (by omega) (by omega) (by omega)).mono ?_); rintro e w' ⟨rv, rfl, hcap, rfl⟩; have hrv := (show rv > 4096 by rw [Int.toNat_natCast] at hcap; have := hcap.iff; have := HC.out; omega))))
        go_wp2
        go_ret
        exact ⟨by rw [H.out]; rfl, hb1.trans (B3.mono hb1.size)⟩
end Go.Proofs.YtdkbcjdimhgmnaaGreat
