/- What a code is: the program's own function. No condition beyond those stated. -/
import Derived.Test.YtemdjochphehjaaGreatJG
import Derived.Test.YtemdjochphehjaaGreatJH
import Derived.Test.YtemdjochphehjaaGreatJI
import Derived.Test.YtemdjochphehjaaGreatJF
import Derived.Test.YtemdjochphehjaaGreatGB
import Derived.Deep.RegionHeldLaw
import Derived.Deep.RegionHeld3
set_option linter.unusedVariables false
set_option linter.unusedSimpArgs false
namespace Go.Proofs.YtemdjochphehjaaGreat
open Go.RowKit

set_option maxRecDepth 100000 in
set_option maxHeartbeats 1600000 in
theorem validCode_any (P D : Int) (A : Option Addr) (n c : Nat) (f : List Int) (M : Option Addr) (r rc : Nat) (rows : List (List Int)) (w : World) (hf : RI w A n f) (hP : I64 P) (hD : I64 D) (hn : n ≤ 9223372036854775807) (hr : RR w M r rows) (hrm : r ≤ 9223372036854775807) :
    Calls Tryz.prog 52 #[.agg #[.int .i64 P, .int .i64 D, .slice A n c, .slice M r rc]] w (RetB w (tB (CodeOk P D f rows))) := by
  have hb1 := below_alloc w (.cells #[.int .i64 P, .int .i64 D, .slice A n c, .slice M r rc] 35)
  have X := Blk.new w 35 #[.int .i64 P, .int .i64 D, .slice A n c, .slice M r rc]
  obtain ⟨W1, hW1⟩ : ∃ W1, W1 = w.alloc (.cells #[.int .i64 P, .int .i64 D, .slice A n c, .slice M r rc] 35) := ⟨_, rfl⟩
  rw [← hW1] at hb1 X
  have hf1 := hf.keep hb1
  have hr1 := hr.keep hb1
  have hmat : ∀ p : Bel W1, Calls Tryz.prog 96 #[.agg #[.int .i64 P, .int .i64 D, .slice A n c], .slice M r rc] p.w (RetB p.w (tB (MatOk P D f rows))) := fun p => validMatrix_any P D A n c f M r rc rows p.w (hf1.keep p.h) hP hD hn (hr1.keep p.h) hrm
  have x0 : W1.cell? ⟨w.heap.size, 0, none⟩ = some (.int .i64 P) := X.cell 0
  have x1 : W1.cell? ⟨w.heap.size, 1, none⟩ = some (.int .i64 D) := X.cell 1
  have x2 : W1.cell? ⟨w.heap.size, 2, none⟩ = some (.slice A n c) := X.cell 2
  have x3 : W1.cell? ⟨w.heap.size, 3, none⟩ = some (.slice M r rc) := X.cell 3
  have q0 := cell_bel x0
  have q1 := cell_bel x1
  have q2 := cell_bel x2
  have q3 := cell_bel x3
  have HL := Lib.hid hr.len
  cases hv : tB (MatOk P D f rows) with
  | false =>
    have H := Lib.hid (show tB (CodeOk P D f rows) = false from tB_no fun hh => by rw [tB_yes hh.1] at hv; cases hv)
    rw [hv] at hmat
    go_enter Tryz.func52, Tryz.ntmps52
    go_wp2
    rw [← hW1]
    clear hW1
    refine wp_region_bel (by kernel_rfl) (by kernel_rfl) ?_
    repeat (first | go_big_quiet_step ((go_at_call 96; exact Calls.bel (hmat _))) | quiet_step ((go_at_call 96; exact Calls.bel (hmat _))))
    refine wpQuiet_nil ?_
    rintro _ ⟨⟨w2, hb2⟩, rfl⟩
    clear q0 q1 q2 q3
    go_wp2
    go_ret
    exact ⟨by rw [H.out]; rfl, hb1.trans (hb2.mono hb1.size)⟩
  | true =>
    obtain ⟨⟨hD1, hfo⟩, ⟨r1, r32⟩, ⟨m1, m32⟩, hmq⟩ := tB_true.1 hv
    obtain ⟨K, rfl⟩ : ∃ K : Nat, D = (K : Int) := ⟨D.toNat, by omega⟩
    have hfo : FldOk P K f := hfo
    have hmq : MatQ (P ^ K) (row rows 0).length rows := hmq
    rw [HL.out] at r1 r32
    obtain ⟨ad, Z, m, cz, rfl, hc0, hz1, hz2, hrz⟩ := hr.get (k := 0) (by omega)
    have hm : (row rows 0).length = m := hrz.len
    rw [hm] at m1 m32 hmq
    have HM := Lib.hid hmq
    have HV := Lib.hid hv
    rw [hv] at hmat
    obtain ⟨p2, p61, k1, k6, hq64, hq2⟩ := hfo.nums
    by_cases h8 : r > 8
    · have b2 : (r : Int) > 8 := by omega
      have H := Lib.hid (show tB (CodeOk P K f rows) = false from tB_no fun hh => by have := hh.2.1; rw [HL.out] at this; omega)
      clear hmq hv hrz hc0 hm
      go_enter Tryz.func52, Tryz.ntmps52
      go_wp2
      rw [← hW1]
      clear hW1
      refine wp_region_bel (by kernel_rfl) (by kernel_rfl) ?_
      repeat (first | go_big_quiet_step ((go_at_call 96; exact Calls.bel (hmat _))) | quiet_step ((go_at_call 96; exact Calls.bel (hmat _))))
      refine wpQuiet_nil ?_
      rintro _ ⟨⟨w2, hb2⟩, rfl⟩
      clear q0 q1 q2 q3
      go_wp2
      go_ret
      exact ⟨by rw [H.out]; rfl, hb1.trans (hb2.mono hb1.size)⟩
    · have b2 : decide (8 < (r : Int)) = false := by simp; omega
      have bd : Below W1.heap.size W1 W1.drew := by have := below_drewn W1 1; simpa [← World.drew_is_drewN] using this
      have hmatd : Calls Tryz.prog 96 #[.agg #[.int .i64 P, .int .i64 K, .slice A n c], .slice (some ad) r rc] W1.drew (RetB W1.drew true) := hmat ⟨_, bd⟩
      have hS : ∀ {W : World}, Below W1.heap.size W1 W → (Below W1.heap.size W1 W ∧ W.cell? ⟨w.heap.size, 0, none⟩ = some (.int .i64 P) ∧ W.cell? ⟨w.heap.size, 1, none⟩ = some (.int .i64 K) ∧ W.cell? ⟨w.heap.size, 2, none⟩ = some (.slice A n c) ∧ W.cell? ⟨w.heap.size, 3, none⟩ = some (.slice (some ad) r rc)) := fun hb => ⟨hb, below_cell hb x0, below_cell hb x1, below_cell hb x2, below_cell hb x3⟩
      have HFO := Lib.hid hfo
      clear hmq hv hrz hc0 hmat q0 q1 q2 q3 hfo
      by_cases hc : (P ^ K) ^ r ≤ 4096
      · have HC := Lib.hid hc
        go_enter Tryz.func52, Tryz.ntmps52
        go_wp2
        rw [← hW1]
        clear hW1
        go_region_held_law (fun w' => Below W1.heap.size W1 w' ∧ w'.cell? ⟨w.heap.size, 0, none⟩ = some (.int .i64 P) ∧ w'.cell? ⟨w.heap.size, 1, none⟩ = some (.int .i64 K) ∧ w'.cell? ⟨w.heap.size, 2, none⟩ = some (.slice A n c) ∧ w'.cell? ⟨w.heap.size, 3, none⟩ = some (.slice (some ad) r rc))
          (first | with_reducible exact hS bd | with_reducible exact hS B2 | with_reducible exact hS B3)
          ((first
            | (go_at_call 96; (with_reducible refine hmatd.mono ?_); rintro e w2 ⟨rfl, hb2⟩; have B2 := bd.trans (hb2.mono bd.size))
            | (go_at_call 53; (with_reducible refine (fieldSize_any P K A n c w2 p2 (by omega) hq64 k6).mono ?_); rintro e w3 ⟨rfl, hb3⟩; have B3 := B2.trans (hb3.mono B2.size))
            | (go_at_call 63; (with_reducible refine (sizeR_any (some ad) r rc w3 (by omega)).mono ?_); rintro e w' ⟨rfl, rfl⟩)
            | (go_at_call 97; (with_reducible refine (powerUpTo_any (P ^ K) r 4096 w3 hq2 (by omega) (by omega) (by omega) (by omega) (by omega)).mono ?_); rintro e w' ⟨rv, rfl, hcap, rfl⟩; have hrv := (show ¬ rv > 4096 by rw [Int.toNat_natCast] at hcap; have := hcap.eq HC.out; omega))))
        clear hmatd
        obtain ⟨q, hq⟩ : ∃ q : Nat, P ^ K = (q : Int) := ⟨(P ^ K).toNat, by omega⟩
        have HQ := Lib.hid hq
        have bd3 : Below W1.heap.size W1 w3.drew := B3.trans (by have := (below_drewn w3 1).mono B3.size; simpa [← World.drew_is_drewN] using this)
        have htab := tablesOf_any P K f q A n c w3.drew hq HFO.out (hf1.keep bd3)
        have HF := Lib.hid (show (decide (formR P K f rows = rows) : Bool) = tB (CodeOk P K f rows) by
          by_cases hd : formR P K f rows = rows
          · rw [tB_yes ⟨HV.out |> tB_true.1, by rw [HL.out]; omega, by rw [HL.out]; exact HC.out, hd⟩]; simpa using hd
          · rw [tB_no fun hh => hd hh.2.2.2]; simpa using hd)
        have HFL := Lib.hid (fun (A' : Option Addr) (np : Nat) (w4 : World) (hh : RR w4 A' np (formR P K f rows)) => show np ≤ 9223372036854775807 by
          have h1 := hh.len
          have h2 := redTo_len P K f rows (row rows 0).length
          have h3 := HL.out
          unfold formR at h1
          rw [List.length_take, h2] at h1
          omega)
        obtain ⟨y0, y1, y2, y3⟩ := (hS B3).2
        clear hq hc hb2 hb3 B2 X hf hr
        go_wp2
        go_region_held_law (fun w' => Below W1.heap.size W1 w' ∧ w'.cell? ⟨w.heap.size, 0, none⟩ = some (.int .i64 P) ∧ w'.cell? ⟨w.heap.size, 1, none⟩ = some (.int .i64 K) ∧ w'.cell? ⟨w.heap.size, 2, none⟩ = some (.slice A n c) ∧ w'.cell? ⟨w.heap.size, 3, none⟩ = some (.slice (some ad) r rc))
          (first | with_reducible exact hS bd3 | with_reducible exact hS B4 | with_reducible exact hS B5)
          ((first
            | (go_at_call 98; (with_reducible refine htab.mono ?_); rintro e w4 ⟨A1, A2, A3, A4, d1, d2, d3, d4, rfl, hT, hb4⟩; have B4 := bd3.trans (hb4.mono bd3.size))
            | (go_at_call 99; (with_reducible refine (reduce_any P K f q A1 A2 A3 A4 d1 d2 d3 d4 (some ad) r rc m rows w4 HQ.out HFO.out hT (hr1.keep B4) HM.out r1 (by omega) (by omega)).mono ?_); rintro e w5 ⟨A', n', c', P', np, pc, dd, rfl, hrr, hb5⟩; have B5 := B4.trans (hb5.mono B4.size))))
        obtain ⟨z0, z1, z2, z3⟩ := (hS B5).2
        have hsm := areSame_any A' (some ad) n' r c' rc _ rows w5 hrr (hr1.keep B5) (HFL.out _ _ _ hrr) hrm
        clear hT htab hb4 hb5 y0 y1 y2 y3
        go_wp2_with (go_at_call 100; refine hsm.mono ?_; rintro e w6 ⟨rfl, hd6⟩; have B6 := B5.trans (hd6.below.mono B5.size))
        go_ret
        exact ⟨by rw [← HF.out]; rfl, hb1.trans (B6.mono hb1.size)⟩
      · have HC := Lib.hid hc
        have H := Lib.hid (show tB (CodeOk P K f rows) = false from tB_no fun hh => by have := hh.2.2.1; rw [HL.out] at this; exact HC.out this)
        clear hc
        go_enter Tryz.func52, Tryz.ntmps52
        go_wp2
        rw [← hW1]
        clear hW1
        go_region_held_law (fun w' => Below W1.heap.size W1 w' ∧ w'.cell? ⟨w.heap.size, 0, none⟩ = some (.int .i64 P) ∧ w'.cell? ⟨w.heap.size, 1, none⟩ = some (.int .i64 K) ∧ w'.cell? ⟨w.heap.size, 2, none⟩ = some (.slice A n c) ∧ w'.cell? ⟨w.heap.size, 3, none⟩ = some (.slice (some ad) r rc))
          (first | with_reducible exact hS bd | with_reducible exact hS B2 | with_reducible exact hS B3)
          ((first
            | (go_at_call 96; (with_reducible refine hmatd.mono ?_); rintro e w2 ⟨rfl, hb2⟩; have B2 := bd.trans (hb2.mono bd.size))
            | (go_at_call 53; (with_reducible refine (fieldSize_any P K A n c w2 p2 (by omega) hq64 k6).mono ?_); rintro e w3 ⟨rfl, hb3⟩; have B3 := B2.trans (hb3.mono B2.size))
            | (go_at_call 63; (with_reducible refine (sizeR_any (some ad) r rc w3 (by omega)).mono ?_); rintro e w' ⟨rfl, rfl⟩)
            | (go_at_call 97; (with_reducible refine (powerUpTo_any (P ^ K) r 4096 w3 hq2 (by omega) (by omega) (by omega) (by omega) (by omega)).mono ?_); rintro e w' ⟨rv, rfl, hcap, rfl⟩; have hrv := (show rv > 4096 by rw [Int.toNat_natCast] at hcap; have := hcap.iff; have := HC.out; omega))))
        go_wp2
        go_ret
        exact ⟨by rw [H.out]; rfl, hb1.trans (B3.mono hb1.size)⟩
end Go.Proofs.YtemdjochphehjaaGreat
/- CodeObject: the program's own function. No condition beyond those stated. -/
namespace Go.Proofs.YtemdjochphehjaaGreat
open Go.RowKit
theorem four_blk {w : World} {g : Nat} {t : TypeId} {a b c d : Value} (h : Blk w g t #[a, b, c, d]) : w.cell? ⟨g, 0, none⟩ = some a ∧ w.cell? ⟨g, 1, none⟩ = some b ∧ w.cell? ⟨g, 2, none⟩ = some c ∧ w.cell? ⟨g, 3, none⟩ = some d := ⟨h.cell 0, h.cell 1, h.cell 2, h.cell 3⟩
set_option maxHeartbeats 1000000 in
theorem impl_CodeObject_no (P D : Int) (A : Option Addr) (n c : Nat) (f : List Int) (M : Option Addr) (r rc : Nat) (rows : List (List Int)) (w : World) (hf : RI w A n f) (hr : RR w M r rows) (hP : I64 P) (hD : I64 D) (hn : n ≤ 9223372036854775807) (h1 : r ≤ rc) (h2 : rc ≤ 9223372036854775807) (hh : tB (CodeOk P D f rows) = false) :
    Calls Tryz.prog 13 #[.agg #[.int .i64 P, .int .i64 D, .slice A n c, .slice M r rc]] w (RetOC w 0 0 [] 1) := by
  have hb0 := below_alloc w (.cells #[.int .i64 P, .int .i64 D, .slice A n c, .slice M r rc] 35)
  have hb1 := below_then hb0 (below_alloc (w.alloc (.cells #[.int .i64 P, .int .i64 D, .slice A n c, .slice M r rc] 35)) (.cells #[.int .i64 0, .int .i64 0, .slice none 0 0] 30))
  have X := (Blk.new w 35 #[.int .i64 P, .int .i64 D, .slice A n c, .slice M r rc]).alloc (.cells #[.int .i64 0, .int .i64 0, .slice none 0 0] 30)
  have R : Blk ((w.alloc (.cells #[.int .i64 P, .int .i64 D, .slice A n c, .slice M r rc] 35)).alloc (.cells #[.int .i64 0, .int .i64 0, .slice none 0 0] 30)) (w.heap.size + 1) 30 #[.int .i64 0, .int .i64 0, .slice none 0 0] := by
    have := Blk.new (w.alloc (.cells #[.int .i64 P, .int .i64 D, .slice A n c, .slice M r rc] 35)) 30 #[.int .i64 0, .int .i64 0, .slice none 0 0]
    simpa using this
  have hok := validCode_any P D A n c f M r rc rows _ (hf.keep hb1) hP hD hn (hr.keep hb1) (by omega)
  rw [hh] at hok
  go_enter Tryz.func13, Tryz.ntmps13
  go_wp2_with fail
  refine hok.mono ?_
  rintro e w2 ⟨rfl, hb⟩
  have R2 := R.after hb
  have hw := below_then hb1 hb
  clear hb hb1 R hb0 hok X
  obtain ⟨z0, z1, z2⟩ := R2.cells3
  have f0 := R2.frozen 0
  have f1 := R2.frozen 1
  have f2 := R2.frozen 2
  go_wp2
  refine bodyPost_ret (v := .tuple #[.agg #[.int .i64 0, .int .i64 0, .slice none 0 0], .int .i64 1]) (by simp [results, Tryz.results13, go_sem, z0, z1, z2]) rfl ⟨none, 0, 0, rfl, ?_, ?_⟩
  · exact OR.nil_ _ _ (by decide)
  · repeat (refine Below.setCell ?_ (by simp <;> omega) _)
    exact hw
set_option maxHeartbeats 1000000 in
theorem impl_CodeObject_st (P : Int) (D : Nat) (A : Option Addr) (n c : Nat) (f : List Int) (M : Option Addr) (r rc : Nat) (rows : List (List Int)) (w : World) (hf : RI w A n f) (hr : RR w M r rows) (hP : I64 P) (hD : I64 (D : Int)) (hn : n ≤ 9223372036854775807) (h1 : r ≤ rc) (h2 : rc ≤ 9223372036854775807) (hh : CodeOk P (D : Int) f rows) (he : f ≠ mkP P D) :
    Calls Tryz.prog 13 #[.agg #[.int .i64 P, .int .i64 D, .slice A n c, .slice M r rc]] w (RetOC w 0 0 [] 6) := by
  have hb0 := below_alloc w (.cells #[.int .i64 P, .int .i64 D, .slice A n c, .slice M r rc] 35)
  have hb1 := below_then hb0 (below_alloc (w.alloc (.cells #[.int .i64 P, .int .i64 D, .slice A n c, .slice M r rc] 35)) (.cells #[.int .i64 0, .int .i64 0, .slice none 0 0] 30))
  have X := (Blk.new w 35 #[.int .i64 P, .int .i64 D, .slice A n c, .slice M r rc]).alloc (.cells #[.int .i64 0, .int .i64 0, .slice none 0 0] 30)
  have R : Blk ((w.alloc (.cells #[.int .i64 P, .int .i64 D, .slice A n c, .slice M r rc] 35)).alloc (.cells #[.int .i64 0, .int .i64 0, .slice none 0 0] 30)) (w.heap.size + 1) 30 #[.int .i64 0, .int .i64 0, .slice none 0 0] := by
    have := Blk.new (w.alloc (.cells #[.int .i64 P, .int .i64 D, .slice A n c, .slice M r rc] 35)) 30 #[.int .i64 0, .int .i64 0, .slice none 0 0]
    simpa using this
  have hok := validCode_any P D A n c f M r rc rows _ (hf.keep hb1) hP hD hn (hr.keep hb1) (by omega)
  rw [tB_yes hh] at hok
  obtain ⟨p2, p61, k1, k6, hq64, hq2⟩ := (show FldOk P D f from hh.1.1.2).nums
  have hm : (P, D) ∈ PKL := PKL_mem (show FldOk P D f from hh.1.1.2).pr k1 k6 hq64
  have hmk : ∀ W : World, Calls Tryz.prog 54 #[.int .i64 (P ^ D)] W (RetFC W P D (mkP P D) 0) := fun W => makeField_ok hm _ W rfl
  have HX := Lib.hid X
  have HR := Lib.hid R
  have hsf : ∀ (W : World) (A4 : Option Addr) (n4 c4 : Nat), RI W A n f → RI W A4 n4 (mkP P D) → n4 ≤ 9223372036854775807 → Calls Tryz.prog 55 #[.agg #[.int .i64 P, .int .i64 D, .slice A4 n4 c4], .agg #[.int .i64 P, .int .i64 D, .slice A n c]] W (RetB W false) := fun W A4 n4 c4 u1 u2 u3 => by
    have := impl_SameField P D P D A4 A n4 c4 n c (mkP P D) f W u2 u1 u3 hn
    rw [show decide (P = P ∧ (D : Int) = (D : Int) ∧ mkP P D = f) = false from by simpa [eq_comm] using he] at this
    exact this
  have hrf := hf.keep hb1
  have hrr := hr.keep hb1
  clear hh X R he
  go_enter Tryz.func13, Tryz.ntmps13
  go_wp2_with fail
  generalize (w.alloc (.cells #[.int .i64 P, .int .i64 D, .slice A n c, .slice M r rc] 35)).alloc (.cells #[.int .i64 0, .int .i64 0, .slice none 0 0] 30) = W1 at *
  refine hok.mono ?_
  rintro e w2 ⟨rfl, hb⟩
  dsimp only
  obtain ⟨c0, c1, c2, c3⟩ := four_blk (HX.out.after hb)
  go_wp2_with (go_at_call 53; refine (fieldSize_any P D A n c w2 p2 (by omega) hq64 k6).mono ?_; rintro e w3 ⟨rfl, hb3⟩; have hb4 := hb.trans (hb3.mono hb.size))
  refine (hmk w3).mono ?_
  rintro e w4 ⟨A4, n4, c4, rfl, ho4, hb5⟩
  have hb6 := hb4.trans (hb5.mono hb4.size)
  dsimp only
  clear c0 c1 c2 c3
  obtain ⟨c0, c1, c2, c3⟩ := four_blk (HX.out.after hb6)
  have hba := below_alloc w4 (.cells #[.int .i64 P, .int .i64 D, .slice A4 n4 c4] 33)
  obtain ⟨k0, k1', k2, k3⟩ := four_blk ((HX.out.after hb6).after hba)
  clear c0 c1 c2 c3
  have hsf4 := hsf _ A4 n4 c4 ((hrf.keep hb6).keep hba) (ho4.reads.keep hba) (by have := ho4.os.cap; omega)
  go_wp2_with (go_at_call 55; refine hsf4.mono ?_; rintro e w5 ⟨rfl, hb7⟩; have hb8 := hb6.trans ((hba.trans (hb7.mono hba.size)).mono hb6.size); have HB8 := Lib.hid hb8; obtain ⟨d0, d1, d2, d3⟩ := four_blk (HX.out.after hb8); obtain ⟨z0, z1, z2⟩ := (HR.out.after hb8).cells3; have f0 := (HR.out.after hb8).frozen 0; have f1 := (HR.out.after hb8).frozen 1; have f2 := (HR.out.after hb8).frozen 2)
  have hw := hb1.trans (HB8.out.mono hb1.size)
  clear hb hb1 hb0 hok k0 k1' k2 k3 hsf4 hsf hmk ho4 hba hb3 hb4 hb5 hb6 hb7 hb8 d0 d1 d2 d3
  have hzw := hw.size
  refine bodyPost_ret (v := .tuple #[.agg #[.int .i64 0, .int .i64 0, .slice none 0 0], .int .i64 6]) (by simp [results, Tryz.results13, go_sem, z0, z1, z2]) rfl ⟨none, 0, 0, rfl, ?_, ?_⟩
  · exact OR.nil_ _ _ (by decide)
  · repeat (refine Below.setCell ?_ (by simp <;> omega) _)
    exact hw
set_option maxHeartbeats 1000000 in
theorem impl_CodeObject_ok (P : Int) (D : Nat) (A : Option Addr) (n c : Nat) (f : List Int) (M : Option Addr) (r rc : Nat) (rows : List (List Int)) (w : World) (hf : RI w A n f) (hr : RR w M r rows) (hP : I64 P) (hD : I64 (D : Int)) (hn : n ≤ 9223372036854775807) (h1 : r ≤ rc) (h2 : rc ≤ 9223372036854775807) (hh : CodeOk P (D : Int) f rows) (he : f = mkP P D) (hrl : r ≤ 1099511627776) (hcl : cells rows ≤ 1099511627776) :
    Calls Tryz.prog 13 #[.agg #[.int .i64 P, .int .i64 D, .slice A n c, .slice M r rc]] w (RetOC w 5 (P ^ D) rows 0) := by
  have hb0 := below_alloc w (.cells #[.int .i64 P, .int .i64 D, .slice A n c, .slice M r rc] 35)
  have hb1 := below_then hb0 (below_alloc (w.alloc (.cells #[.int .i64 P, .int .i64 D, .slice A n c, .slice M r rc] 35)) (.cells #[.int .i64 0, .int .i64 0, .slice none 0 0] 30))
  have X := (Blk.new w 35 #[.int .i64 P, .int .i64 D, .slice A n c, .slice M r rc]).alloc (.cells #[.int .i64 0, .int .i64 0, .slice none 0 0] 30)
  have R : Blk ((w.alloc (.cells #[.int .i64 P, .int .i64 D, .slice A n c, .slice M r rc] 35)).alloc (.cells #[.int .i64 0, .int .i64 0, .slice none 0 0] 30)) (w.heap.size + 1) 30 #[.int .i64 0, .int .i64 0, .slice none 0 0] := by
    have := Blk.new (w.alloc (.cells #[.int .i64 P, .int .i64 D, .slice A n c, .slice M r rc] 35)) 30 #[.int .i64 0, .int .i64 0, .slice none 0 0]
    simpa using this
  have hok := validCode_any P D A n c f M r rc rows _ (hf.keep hb1) hP hD hn (hr.keep hb1) (by omega)
  rw [tB_yes hh] at hok
  obtain ⟨p2, p61, k1, k6, hq64, hq2⟩ := (show FldOk P D f from hh.1.1.2).nums
  have hm : (P, D) ∈ PKL := PKL_mem (show FldOk P D f from hh.1.1.2).pr k1 k6 hq64
  have hmk : ∀ W : World, Calls Tryz.prog 54 #[.int .i64 (P ^ D)] W (RetFC W P D (mkP P D) 0) := fun W => makeField_ok hm _ W rfl
  have HX := Lib.hid X
  have HR := Lib.hid R
  have hsf : ∀ (W : World) (A4 : Option Addr) (n4 c4 : Nat), RI W A n f → RI W A4 n4 (mkP P D) → n4 ≤ 9223372036854775807 → Calls Tryz.prog 55 #[.agg #[.int .i64 P, .int .i64 D, .slice A4 n4 c4], .agg #[.int .i64 P, .int .i64 D, .slice A n c]] W (RetB W true) := fun W A4 n4 c4 u1 u2 u3 => by
    have := impl_SameField P D P D A4 A n4 c4 n c (mkP P D) f W u2 u1 u3 hn
    rw [show decide (P = P ∧ (D : Int) = (D : Int) ∧ mkP P D = f) = true from by simpa [eq_comm] using he] at this
    exact this
  have hrf := hf.keep hb1
  have hrr := hr.keep hb1
  clear hh X R he
  go_enter Tryz.func13, Tryz.ntmps13
  go_wp2_with fail
  generalize (w.alloc (.cells #[.int .i64 P, .int .i64 D, .slice A n c, .slice M r rc] 35)).alloc (.cells #[.int .i64 0, .int .i64 0, .slice none 0 0] 30) = W1 at *
  refine hok.mono ?_
  rintro e w2 ⟨rfl, hb⟩
  dsimp only
  obtain ⟨c0, c1, c2, c3⟩ := four_blk (HX.out.after hb)
  go_wp2_with (go_at_call 53; refine (fieldSize_any P D A n c w2 p2 (by omega) hq64 k6).mono ?_; rintro e w3 ⟨rfl, hb3⟩; have hb4 := hb.trans (hb3.mono hb.size))
  refine (hmk w3).mono ?_
  rintro e w4 ⟨A4, n4, c4, rfl, ho4, hb5⟩
  have hb6 := hb4.trans (hb5.mono hb4.size)
  dsimp only
  clear c0 c1 c2 c3
  obtain ⟨c0, c1, c2, c3⟩ := four_blk (HX.out.after hb6)
  have hba := below_alloc w4 (.cells #[.int .i64 P, .int .i64 D, .slice A4 n4 c4] 33)
  obtain ⟨k0, k1', k2, k3⟩ := four_blk ((HX.out.after hb6).after hba)
  clear c0 c1 c2 c3
  have hsf4 := hsf _ A4 n4 c4 ((hrf.keep hb6).keep hba) (ho4.reads.keep hba) (by have := ho4.os.cap; omega)
  go_wp2_with (go_at_call 55; refine hsf4.mono ?_; rintro e w5 ⟨rfl, hb7⟩; have hb8 := hb6.trans ((hba.trans (hb7.mono hba.size)).mono hb6.size); have HB8 := Lib.hid hb8; obtain ⟨d0, d1, d2, d3⟩ := four_blk (HX.out.after hb8); obtain ⟨z0, z1, z2⟩ := (HR.out.after hb8).cells3; have f0 := (HR.out.after hb8).frozen 0; have f1 := (HR.out.after hb8).frozen 1; have f2 := (HR.out.after hb8).frozen 2)
  have hw := hb1.trans (HB8.out.mono hb1.size)
  have hr5 := hrr.keep HB8.out
  have R5 := HR.out.after HB8.out
  have hzw := hw.size
  clear hb hb0 hok k0 k1' k2 k3 hsf4 hsf hmk ho4 hba hb3 hb4 hb5 hb6 hb7 hb8 d0 d1 d2 d3 z0 z1 z2 f0 f1 f2
  refine (copyObject_any 5 (P ^ D) M r rc rows w5 hr5 hrl hcl).mono ?_
  rintro e w6 ⟨A6, n6, c6, rfl, ho, hb⟩
  have R2 := R5.after hb
  have hw := hw.trans (hb.mono hzw)
  have hz6 := HR.out.lt
  have hz8 := HB8.out.size
  clear hb R5
  obtain ⟨z0, z1, z2⟩ := R2.cells3
  have f0 := R2.frozen 0
  have f1 := R2.frozen 1
  have f2 := R2.frozen 2
  go_wp2
  refine bodyPost_ret (v := .tuple #[.agg #[.int .i64 5, .int .i64 (P ^ D), .slice A6 n6 c6], .int .i64 0]) (by simp [results, Tryz.results13, go_sem, z0, z1, z2]) rfl ⟨A6, n6, c6, rfl, ?_, ?_⟩
  · refine OR.more (B := w5.heap.size) ?_ (by omega)
    repeat (refine OR.setLow ?_ (by simp <;> omega) _)
    exact ho
  · repeat (refine Below.setCell ?_ (by simp <;> omega) _)
    exact hw
theorem impl_CodeObject (P D : Int) (A : Option Addr) (n c : Nat) (f : List Int) (M : Option Addr) (r rc : Nat) (rows : List (List Int)) (w : World) (hf : RI w A n f) (hr : RR w M r rows) (hP : I64 P) (hD : I64 D) (hn : n ≤ 9223372036854775807) (h1 : r ≤ rc) (h2 : rc ≤ 9223372036854775807) (hrl : r ≤ 1099511627776) (hcl : cells rows ≤ 1099511627776) :
    Calls Tryz.prog 13 #[.agg #[.int .i64 P, .int .i64 D, .slice A n c, .slice M r rc]] w (RetOC w (if coR P D f rows = 0 then 5 else 0) (if coR P D f rows = 0 then P ^ D.toNat else 0) (if coR P D f rows = 0 then rows else []) (coR P D f rows)) := by
  cases hh : tB (CodeOk P D f rows) with
  | false =>
    rw [show coR P D f rows = 1 by unfold coR; rw [hh]; rfl]
    exact impl_CodeObject_no P D A n c f M r rc rows w hf hr hP hD hn h1 h2 hh
  | true =>
    have hk := tB_true.1 hh
    have hD1 : 1 ≤ D := hk.1.1.1
    obtain ⟨K, rfl⟩ : ∃ K : Nat, D = (K : Int) := ⟨D.toNat, by omega⟩
    by_cases he : f = mkP P K
    · rw [show coR P K f rows = 0 by unfold coR; rw [hh, if_pos rfl, if_pos (by simpa using he)]]
      exact impl_CodeObject_ok P K A n c f M r rc rows w hf hr hP hD hn h1 h2 hk he hrl hcl
    · rw [show coR P K f rows = 6 by unfold coR; rw [hh, if_pos rfl, if_neg (by simpa using he)]]
      exact impl_CodeObject_st P K A n c f M r rc rows w hf hr hP hD hn h1 h2 hk he
end Go.Proofs.YtemdjochphehjaaGreat
/- The law on CodeObject. No condition. -/
set_option linter.unusedVariables false
namespace Go.Proofs.YtemdjochphehjaaGreat
open Go.RowKit

/-- the argument's variable and the copy's, behind the copy's rows -/
structure AStCode (w : World) (g1 g6 : Nat) (P D : Int) (A A3 N N3 : Option Addr) (n c n3 c3 j jc j3 jc3 : Nat) (f : List Int) (zss : List (List Int)) (w' : World) : Prop where
  p1 : Blk w' g1 27 #[.int .i64 P, .int .i64 D, .slice A n c, .slice N j jc]
  p6 : Blk w' g6 35 #[.int .i64 P, .int .i64 D, .slice A3 n3 c3, .slice N3 j3 jc3]
  r3 : RCo w' A3 n3 f N3 j3 zss
theorem AStCode.step {w w' w'' : World} {g1 g6 : Nat} {P D : Int} {A A3 N N3 : Option Addr} {n c n3 c3 j jc j3 jc3 : Nat} {f : List Int} {zss : List (List Int)} (h : AStCode w g1 g6 P D A A3 N N3 n c n3 c3 j jc j3 jc3 f zss w') (hb : Below w'.heap.size w' w'') : AStCode w g1 g6 P D A A3 N N3 n c n3 c3 j jc j3 jc3 f zss w'' :=
  ⟨h.p1.after hb, h.p6.after hb, h.r3.keep hb⟩
theorem AStCode.full {w w' : World} {g1 g6 : Nat} {P D : Int} {A A3 N N3 : Option Addr} {n c n3 c3 j jc j3 jc3 : Nat} {f : List Int} {zss : List (List Int)} (h : AStCode w g1 g6 P D A A3 N N3 n c n3 c3 j jc j3 jc3 f zss w') (hb : Below w.heap.size w w') :
    (AStCode w g1 g6 P D A A3 N N3 n c n3 c3 j jc j3 jc3 f zss w' ∧ Below w.heap.size w w') ∧ w'.cell? ⟨g1, 0, none⟩ = some (.int .i64 P) ∧ w'.cell? ⟨g1, 1, none⟩ = some (.int .i64 D) ∧ w'.cell? ⟨g1, 2, none⟩ = some (.slice A n c) ∧ w'.cell? ⟨g1, 3, none⟩ = some (.slice N j jc) ∧ w'.cell? ⟨g6, 0, none⟩ = some (.int .i64 P) ∧ w'.cell? ⟨g6, 1, none⟩ = some (.int .i64 D) ∧ w'.cell? ⟨g6, 2, none⟩ = some (.slice A3 n3 c3) ∧ w'.cell? ⟨g6, 3, none⟩ = some (.slice N3 j3 jc3) :=
  by
    obtain ⟨a0, a1, a2, a3⟩ := tri_blk h.p1
    obtain ⟨b0, b1, b2, b3⟩ := tri_blk h.p6
    exact ⟨⟨h, hb⟩, a0, a1, a2, a3, b0, b1, b2, b3⟩
set_option maxRecDepth 100000 in
set_option maxHeartbeats 4000000 in
theorem law_CodeObject_ok (P D : Int) (A : Option Addr) (n c : Nat) (f : List Int) (N : Option Addr) (j jc : Nat) (zss : List (List Int)) (w : World) (ha : RCo w A n f N j zss) (hn : n ≤ 9223372036854775807) (hjc : j ≤ jc ∧ jc ≤ 9223372036854775807) (hs : (n : Int) + bulk zss ≤ 1048576)
    (K S C : Int) (Z : List (List Int)) (hz : Z.length ≤ 1048576 ∧ cells Z ≤ 1048576)
    (hspec : ∀ (A : Option Addr) (n c : Nat) (N : Option Addr) (j jc : Nat) (w : World), RCo w A n f N j zss → n ≤ 1048576 → j ≤ 1048576 → j ≤ jc → jc ≤ 9223372036854775807 → Calls Tryz.prog 11 #[.agg #[.int .i64 P, .int .i64 D, .slice A n c, .slice N j jc]] w (RetOC w K S Z C))
    (himpl : ∀ (A : Option Addr) (n c : Nat) (N : Option Addr) (j jc : Nat) (w : World), RCo w A n f N j zss → n ≤ 1048576 → j ≤ 1048576 → j ≤ jc → jc ≤ 9223372036854775807 → Calls Tryz.prog 13 #[.agg #[.int .i64 P, .int .i64 D, .slice A n c, .slice N j jc]] w (RetOC w K S Z C)) :
    Calls Tryz.prog 3 #[.agg #[.int .i64 P, .int .i64 D, .slice A n c, .slice N j jc]] w fun e w' => e = .returned (.bool true) ∧ Below w.heap.size w w' := by
  have hla := Lib.hid ha.ri.len
  have hlr := Lib.hid ha.rr.len
  have hbc := bulk_cells zss
  obtain ⟨bz1, bz2, bz3⟩ : n ≤ 1048576 ∧ j ≤ 1048576 ∧ cells zss ≤ 1048576 := by have := hlr.out; omega
  have hlens : lens zss j ≤ 1099511627776 := by have := bulk_eq ha.rr; omega
  have E1 := Lib.hid (show szF 1048576 ((n : Int) + bulk zss) = 1048576 - (n + bulk zss) by simp [szF, hs])
  obtain ⟨hz1, hz2⟩ := hz
  have hbp : (0 : Int) ≤ 1048576 - (n + bulk zss) := by omega
  clear hbc
  generalize hbk : (1048576 - ((n : Int) + bulk zss)) = bk at *
  have HB := Lib.hid hbk; clear hbk
  have p1 := Blk.new w 27 #[.int .i64 P, .int .i64 D, .slice A n c, .slice N j jc]
  have b1 := below_alloc w (.cells #[.int .i64 P, .int .i64 D, .slice A n c, .slice N j jc] 27)
  go_enter Tryz.func3, Tryz.ntmps3
  go_wp2_with fail
  refine (szCode_any P D 1048576 A n c N j jc zss _ (ha.keep b1).rr (by omega) (by omega) (by omega) (by omega)).mono ?_
  rintro e w0 ⟨rfl, hb0⟩
  rw [E1.out]
  have q1 := p1.after hb0
  have b0 := below_then b1 hb0
  clear p1 b1 hb0
  obtain ⟨u0, u1, u2, u3⟩ := tri_blk q1
  go_wp2_with fail
  refine (toCode_any P D A n c f N j jc zss _ (RCo.ri (ha.keep b0)) (RCo.rr (ha.keep b0)) (by omega) (by omega) hlens).mono ?_
  rintro e w1 ⟨A1, n1, c1, N1, j1, jc1, mm1, rfl, hi1, hlt1, ho1, hm1, hn1, hb1⟩
  have k1 : n1 ≤ 1048576 ∧ j1 ≤ 1048576 := by have := hi1.len; have := ho1.len; have := hla.out; have := hlr.out; omega
  have q2 := q1.after hb1
  have b1 := below_then b0 hb1
  clear q1 b0 hb1 u0 u1 u2 u3
  go_wp2_with fail
  refine (hspec A1 n1 c1 N1 j1 jc1 _ ⟨hi1.reads, ho1.reads⟩ (by omega) (by omega) ho1.os_cap.1 ho1.os_cap.2).mono ?_
  rintro e w2 ⟨A2, n2, c2, rfl, ho2, hb2⟩
  have bw2 := below_then b1 hb2
  have r2 := ho2.reads
  have k2 : n2 ≤ 1048576 := by have := ho2.len; omega
  have x4 := Blk.new w2 30 #[.int .i64 K, .int .i64 S, .slice A2 n2 c2]
  have b2 := below_alloc w2 (.cells #[.int .i64 K, .int .i64 S, .slice A2 n2 c2] 30)
  have q3 := (q2.after hb2).after b2
  clear ho1 q2 b1 ho2 hb2
  obtain ⟨u0, u1, u2, u3⟩ := tri_blk q3
  go_wp2_with fail
  refine (toCode_any P D A n c f N j jc zss _ (RCo.ri (ha.keep (below_then bw2 b2))) (RCo.rr (ha.keep (below_then bw2 b2))) (by omega) (by omega) hlens).mono ?_
  rintro e w3 ⟨A3, n3, c3, N3, j3, jc3, mm3, rfl, hi3, hlt3, ho3, hm3, hn3, hb3⟩
  have k3 : n3 ≤ 1048576 ∧ j3 ≤ 1048576 := by have := hi3.len; have := ho3.len; have := hla.out; have := hlr.out; omega
  have k3' := ho3.os_cap
  have od3 := ho3.bound
  have e3 : (w2.alloc (.cells #[.int .i64 K, .int .i64 S, .slice A2 n2 c2] 30)).heap.size = w2.heap.size + 1 := by simp
  rw [e3] at hi3 hm3
  have b3 := below_then b2 hb3
  have x4' := x4.after hb3
  have z3 := hb3.size
  rw [e3] at z3
  have b6 := below_alloc w3 (.cells #[.int .i64 P, .int .i64 D, .slice A3 n3 c3, .slice N3 j3 jc3] 35)
  have z6 : (w3.alloc (.cells #[.int .i64 P, .int .i64 D, .slice A3 n3 c3, .slice N3 j3 jc3] 35)).heap.size = w3.heap.size + 1 := by simp
  have p6 := Blk.new w3 35 #[.int .i64 P, .int .i64 D, .slice A3 n3 c3, .slice N3 j3 jc3]
  have q4 := (q3.after hb3).after b6
  have od3' := od3.below b6
  have oi3' := hi3.below b6
  have b3' := below_then b3 b6
  have x4 := x4'.after b6
  have hg1 := q3.lt
  rw [e3] at hg1
  clear ho3 hb3 x4' b2 b3 e3 q3 od3 u0 u1 u2 u3
  obtain ⟨u0, u1, u2, u3⟩ := tri_blk p6
  go_wp2_with fail
  refine (himpl A3 n3 c3 N3 j3 jc3 _ ⟨oi3'.reads, od3'.reads⟩ (by omega) (by omega) k3'.1 k3'.2).mono ?_
  rintro e w4 ⟨A4, n4, c4, rfl, ho4, hb4⟩
  have k4 : n4 ≤ 1048576 := by have := ho4.len; omega
  have od4 := ho4.bound
  rw [z6] at od4
  have b4 := below_then b3' hb4
  have b7 := below_alloc w4 (.cells #[.int .i64 K, .int .i64 S, .slice A4 n4 c4] 30)
  have z4 := hb4.size
  rw [z6] at z4
  have L0 : LSt w w2 (w4.alloc (.cells #[.int .i64 K, .int .i64 S, .slice A4 n4 c4] 30)) 30 K S Z Z w2.heap.size w4.heap.size (w3.heap.size + 1) w4.heap.size A2 A4 n2 c2 n4 c4 :=
    ⟨bw2, below_then b4 b7, r2, (x4.after hb4).after b7, Blk.new _ _ _, od4.below b7, by omega⟩
  have o3 := (od3'.below hb4).below b7
  have i3 := (oi3'.below hb4).below b7
  have M0 : AStCode w w.heap.size w3.heap.size P D A A3 N N3 n c n3 c3 j jc j3 jc3 f zss (w4.alloc (.cells #[.int .i64 K, .int .i64 S, .slice A4 n4 c4] 30)) := ⟨(q4.after hb4).after b7, (p6.after hb4).after b7, ⟨i3.reads, o3.reads⟩⟩
  clear ho4 hb4 od4 od3' b4 b3' x4 bw2 r2 q4 p6 b6 b7 z6 u0 u1 u2 u3
  generalize w3.heap.size = s3 at *
  obtain ⟨v1, v2⟩ := L0.cells
  go_wp2_with fail
  refine (eqObject_same K S A4 A2 n4 n2 c4 c2 Z _ L0.o4.reads L0.rd (by omega) (by omega)).mono ?_
  rintro e w5 ⟨rfl, hb5⟩
  have L1 := L0.step hb5
  have M1 := M0.step hb5
  have o5 := o3.below hb5
  have i5 := i3.below hb5
  have z5 := hb5.size
  simp at z5
  clear L0 M0 o3 hb5 v1 v2
  have bb5 := L1.below
  go_wp2_with fail
  go_region_held3 (fun w' => (AStCode w w.heap.size s3 P D A A3 N N3 n c n3 c3 j jc j3 jc3 f zss w' ∧ Below w.heap.size w w') ∧ w'.cell? ⟨w.heap.size, 0, none⟩ = some (.int .i64 P) ∧ w'.cell? ⟨w.heap.size, 1, none⟩ = some (.int .i64 D) ∧ w'.cell? ⟨w.heap.size, 2, none⟩ = some (.slice A n c) ∧ w'.cell? ⟨w.heap.size, 3, none⟩ = some (.slice N j jc) ∧ w'.cell? ⟨s3, 0, none⟩ = some (.int .i64 P) ∧ w'.cell? ⟨s3, 1, none⟩ = some (.int .i64 D) ∧ w'.cell? ⟨s3, 2, none⟩ = some (.slice A3 n3 c3) ∧ w'.cell? ⟨s3, 3, none⟩ = some (.slice N3 j3 jc3))
    (first | exact (M1.step (below_drewn _ 1)).full (bb5.trans ((below_drewn _ 1).mono bb5.size)) | exact (AStCode.step (And.left (And.left (by assumption))) (by assumption)).full (below_then (And.right (And.left (by assumption))) (by assumption)))
    (first
      | (go_at_call 12; (with_reducible refine (toCode_any P D A n c f N j jc zss _ ?_ ?_ (by omega) (by omega) hlens).mono ?_); (exact (ha.keep (And.right (And.left (by assumption)))).ri); (exact (ha.keep (And.right (And.left (by assumption)))).rr); rintro e w6 ⟨A6, n6, c6, N6, j6, jc6, mm6, rfl, hi6, hlt6, ho6, hm6, hn6, hb6⟩)
      | (go_at_call 15; (with_reducible refine (eqCode_same P D A3 A6 n3 n6 c3 c6 f N3 N6 j3 j6 jc3 jc6 zss _ ?_ ?_ ?_ ?_ ?_ ?_).mono ?_); (exact AStCode.r3 (And.left (And.left (by assumption)))); (exact ⟨hi6.reads, ho6.reads⟩); (omega); (have := hi6.len; have := hla.out; omega); (omega); (have := ho6.len; have := hlr.out; omega); rintro e w7 ⟨rfl, hb7⟩))
  have hh7 : (AStCode w w.heap.size s3 P D A A3 N N3 n c n3 c3 j jc j3 jc3 f zss w7 ∧ Below w.heap.size w w7) := And.left (by assumption)
  have L3 := (L1.step ((below_drewn w5 1).trans (hb6.mono (Nat.le_refl _)))).step hb7
  have M3 := hh7.1
  have o7 := (o5.below ((below_drewn w5 1).trans (hb6.mono (Nat.le_refl _)))).below hb7
  have i7 := (i5.below ((below_drewn w5 1).trans (hb6.mono (Nat.le_refl _)))).below hb7
  clear L1 M1 o5 hb6 hb7 hh7 ho6 bb5
  obtain ⟨u0, u1, u2, u3⟩ := tri_blk M3.p6
  go_wp2_with fail
  refine (markCode_any P D _ _ _ A3 n3 c3 f N3 j3 jc3 1 zss _ i7 hlt3 o7 hm3 hn3 (by omega) (by have := M3.p6.lt; omega) (by omega)).mono ?_
  rintro e w8 ⟨⟨kk, rfl, hkk⟩, hm8⟩
  have hkk' : decide (kk < 0) = false := by simp; omega
  have L4 := L3.mid hm8 (by omega) (by omega) (by omega) (by omega)
  have M4 := M3.p1.mid hm8 (by omega)
  clear L3 o7 hm8 M3 u0 u1 u2 u3
  obtain ⟨v1, v2⟩ := L4.cells
  go_wp2_with fail
  refine (eqObject_same K S A4 A2 n4 n2 c4 c2 Z _ L4.o4.reads L4.rd (by omega) (by omega)).mono ?_
  rintro e w9 ⟨rfl, hb9⟩
  have L5 := L4.step hb9
  have M5 := M4.after hb9
  clear L4 hb9 v1 v2 M4
  obtain ⟨v1, v2⟩ := L5.cells
  go_wp2_with fail
  refine (markObject_any K S _ _ A4 n4 c4 1 Z _ L5.o4 (by omega) (by omega)).mono ?_
  rintro e w10 ⟨rfl, ho10, hm10⟩
  have L6 := L5.marked hm10 ho10 (by omega) (by omega)
  have M6 := M5.mid hm10 (by omega)
  clear L5 ho10 hm10 v1 v2 M5
  obtain ⟨v1, v2⟩ := L6.cells
  go_wp2_with fail
  refine (heldObject_any K S A4 n4 c4 1 Z _ L6.o4.reads (by omega) (by omega)).mono ?_
  rintro e w11 ⟨rfl, hb11⟩
  have L7 := L6.step hb11
  have M7 := M6.after hb11
  clear L6 hb11 v1 v2 M6
  obtain ⟨u0, u1, u2, u3⟩ := tri_blk M7
  go_wp2_with fail
  refine (toCode_any P D A n c f N j jc zss _ (RCo.ri (ha.keep L7.below)) (RCo.rr (ha.keep L7.below)) (by omega) (by omega) hlens).mono ?_
  rintro e w12 ⟨A12, n12, c12, N12, j12, jc12, mm12, rfl, hi12, hlt12, ho12, hm12, hn12, hb12⟩
  have k12 : n12 ≤ 1048576 ∧ j12 ≤ 1048576 := by have := hi12.len; have := ho12.len; have := hla.out; have := hlr.out; omega
  have L8 := L7.step hb12
  clear L7 hb12 M7 u0 u1 u2 u3
  go_wp2_with fail
  refine (himpl A12 n12 c12 N12 j12 jc12 _ ⟨hi12.reads, ho12.reads⟩ (by omega) (by omega) ho12.os_cap.1 ho12.os_cap.2).mono ?_
  rintro e w13 ⟨A13, n13, c13, rfl, ho13, hb13⟩
  have k13 : n13 ≤ 1048576 := by have := ho13.len; omega
  have L9 := (L8.step hb13).step (below_alloc w13 (.cells #[.int .i64 K, .int .i64 S, .slice A13 n13 c13] 30))
  have X13 := (Blk.new w13 30 #[.int .i64 K, .int .i64 S, .slice A13 n13 c13]).cells3
  have r13 := ho13.reads.keep (below_alloc w13 (.cells #[.int .i64 K, .int .i64 S, .slice A13 n13 c13] 30))
  clear L8 hb13 ho13 ho12
  obtain ⟨v1, v2⟩ := L9.cells
  go_wp2_with fail
  refine (eqObject_same K S A13 A2 n13 n2 c13 c2 Z _ r13 L9.rd (by omega) (by omega)).mono ?_
  rintro e w14 ⟨rfl, hb14⟩
  have L10 := L9.step hb14
  clear L9 hb14 v1 v2 X13 r13
  obtain ⟨v1, v2⟩ := L10.cells
  go_wp2_with fail
  refine (heldObject_any K S A4 n4 c4 1 Z _ L10.o4.reads (by omega) (by omega)).mono ?_
  rintro e w15 ⟨rfl, hb15⟩
  have L11 := L10.step hb15
  clear L10 hb15 v1 v2
  go_wp2_with fail
  go_ret
  exact ⟨rfl, L11.below⟩

set_option maxHeartbeats 1000000 in
theorem law_CodeObject (P D : Int) (A : Option Addr) (n c : Nat) (f : List Int) (N : Option Addr) (j jc : Nat) (zss : List (List Int)) (w : World) (ha : RCo w A n f N j zss) (hP : I64 P) (hD : I64 D) (hn : n ≤ 9223372036854775807) (hjc : j ≤ jc ∧ jc ≤ 9223372036854775807) :
    Calls Tryz.prog 3 #[.agg #[.int .i64 P, .int .i64 D, .slice A n c, .slice N j jc]] w fun e w' => e = .returned (.bool true) ∧ Below w.heap.size w w' := by
  by_cases hs : (n : Int) + bulk zss ≤ 1048576
  · have hbc := bulk_cells zss
    have hl0 := ha.rr.len
    have hZ : (if coR P D f zss = 0 then zss else []).length ≤ 1048576 ∧ cells (if coR P D f zss = 0 then zss else []) ≤ 1048576 := by
      split
      · exact ⟨by omega, by omega⟩
      · exact ⟨by simp, by simp [cells]⟩
    exact law_CodeObject_ok P D A n c f N j jc zss w ha hn hjc hs (if coR P D f zss = 0 then 5 else 0) (if coR P D f zss = 0 then P ^ D.toNat else 0) (coR P D f zss) (if coR P D f zss = 0 then zss else []) hZ
      (fun A' n' c' N' j' jc' w' ha' h1 h2 h3 h4 => spec_CodeObject P D A' n' c' f N' j' jc' zss w' ha'.ri ha'.rr hP hD (by omega) h3 h4 (by omega) (by omega)) (fun A' n' c' N' j' jc' w' ha' h1 h2 h3 h4 => impl_CodeObject P D A' n' c' f N' j' jc' zss w' ha'.ri ha'.rr hP hD (by omega) h3 h4 (by omega) (by omega))
  · have E1 := Lib.hid (show szF 1048576 ((n : Int) + bulk zss) = -1 by simp [szF, hs])
    clear hs
    have b1 := below_alloc w (.cells #[.int .i64 P, .int .i64 D, .slice A n c, .slice N j jc] 27)
    go_enter Tryz.func3, Tryz.ntmps3
    go_wp2_with fail
    refine (szCode_any P D 1048576 A n c N j jc zss _ (ha.keep b1).rr (by omega) (by omega) (by omega) (by omega)).mono ?_
    rintro e w0 ⟨rfl, hb0⟩
    rw [E1.out]
    go_wp2
    go_ret
    exact ⟨rfl, below_then b1 hb0⟩
end Go.Proofs.YtemdjochphehjaaGreat
