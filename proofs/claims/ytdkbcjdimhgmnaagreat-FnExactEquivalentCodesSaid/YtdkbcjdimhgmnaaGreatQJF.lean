/- What a code is: the function of the reference. No condition beyond those stated. -/
import Derived.Test.YtdkbcjdimhgmnaaGreatQJE
set_option linter.unusedVariables false
set_option linter.unusedSimpArgs false
namespace Go.Proofs.YtdkbcjdimhgmnaaGreat
open Go.RowKit
theorem bc_of {w w' : World} {p : Addr} {v : Value} (h : w.cell? p = some v) (hb : Below w.heap.size w w') : Below w.heap.size w w' ∧ w'.cell? p = some v := ⟨hb, below_cell hb h⟩
structure CAt (w : World) (g : Nat) (P D : Int) (A : Option Addr) (n c : Nat) (f : List Int) (M : Option Addr) (r rc : Nat) (rows : List (List Int)) : Prop where
  fa : FAt w g P D A n c f
  c3 : w.cell? ⟨g, 3, none⟩ = some (.slice M r rc)
  rr : RR w M r rows
  cap : r ≤ rc ∧ rc ≤ 9223372036854775807
theorem CAt.keep {w w' : World} {g : Nat} {P D : Int} {A : Option Addr} {n c : Nat} {f : List Int} {M : Option Addr} {r rc : Nat} {rows : List (List Int)} (h : CAt w g P D A n c f M r rc rows) (hb : Below w.heap.size w w') : CAt w' g P D A n c f M r rc rows :=
  ⟨h.fa.keep hb, below_cell hb h.c3, h.rr.keep hb, h.cap⟩
def CodeOk (P D : Int) (f : List Int) (rows : List (List Int)) : Prop :=
  MatOk P D f rows ∧ rows.length ≤ 8 ∧ (P ^ D.toNat) ^ rows.length ≤ 4096 ∧ formR P D.toNat f rows = rows
set_option maxRecDepth 100000 in
set_option maxHeartbeats 800000 in
theorem l18Ok_any (g : Nat) (P D : Int) (A : Option Addr) (n c : Nat) (f : List Int) (M : Option Addr) (r rc : Nat) (rows : List (List Int)) (w : World) (h : CAt w g P D A n c f M r rc rows) (hP : I64 P) (hD : I64 D) (hn : n ≤ 9223372036854775807) :
    Calls Tryz.prog 36 #[.pointer (some ⟨g, 0, none⟩)] w (RetB w (tB (CodeOk P D f rows))) := by
  have hrm : r ≤ 9223372036854775807 := by have := h.cap; omega
  have hmat : ∀ p : Bel w, Calls Tryz.prog 50 #[.pointer (some ⟨g, 0, none⟩), .slice M r rc] p.w (RetB p.w (tB (MatOk P D f rows))) := fun p => l17Ok_any g P D A n c f M r rc rows p.w (h.fa.keep p.h) hP hD hn (h.rr.keep p.h) hrm
  have q3 := cell_bel h.c3
  have HL := Lib.hid h.rr.len
  cases hv : tB (MatOk P D f rows) with
  | false =>
    have H := Lib.hid (show tB (CodeOk P D f rows) = false from tB_no fun hh => by rw [tB_yes hh.1] at hv; cases hv)
    rw [hv] at hmat
    go_enter Tryz.func36, Tryz.ntmps36
    go_wp2
    refine wp_region_bel (by kernel_rfl) (by kernel_rfl) ?_
    repeat (first | go_big_quiet_step ((go_at_call 50; exact Calls.bel (hmat _))) | quiet_step ((go_at_call 50; exact Calls.bel (hmat _))))
    refine wpQuiet_nil ?_
    rintro _ ⟨⟨w2, hb2⟩, rfl⟩
    clear q3
    go_wp2
    go_ret
    exact ⟨by rw [H.out]; rfl, hb2⟩
  | true =>
    obtain ⟨⟨hD1, hfo⟩, ⟨r1, r32⟩, ⟨m1, m32⟩, hmq⟩ := tB_true.1 hv
    obtain ⟨K, rfl⟩ : ∃ K : Nat, D = (K : Int) := ⟨D.toNat, by omega⟩
    have hfo : FldOk P K f := hfo
    have hmq : MatQ (P ^ K) (row rows 0).length rows := hmq
    rw [HL.out] at r1 r32
    obtain ⟨ad, Z, m, cz, rfl, hc0, hz1, hz2, hrz⟩ := h.rr.get (k := 0) (by omega)
    have hc0 : w.cell? ad = some (.slice Z m cz) := hc0
    have HLM := Lib.hid hrz.len
    rw [hrz.len] at m1 m32
    have HM := Lib.hid hmq
    have HV := Lib.hid hv
    rw [hv] at hmat
    have q4 := cell_bel hc0
    have b1 : ¬ (m : Int) > 32 := by omega
    obtain ⟨p2, p61, k1, k6, hq64, hq2⟩ := hfo.nums
    have HC := Lib.hid h
    by_cases h8 : r > 8
    · have b2 : (r : Int) > 8 := by omega
      have H := Lib.hid (show tB (CodeOk P K f rows) = false from tB_no fun hh => by have := hh.2.1; rw [HL.out] at this; omega)
      clear hmq hv hrz
      go_enter Tryz.func36, Tryz.ntmps36
      go_wp2
      refine wp_region_bel (by kernel_rfl) (by kernel_rfl) ?_
      repeat (first | go_big_quiet_step ((go_at_call 50; exact Calls.bel (hmat _))) | quiet_step ((go_at_call 50; exact Calls.bel (hmat _))))
      refine wpQuiet_nil ?_
      rintro _ ⟨⟨w2, hb2⟩, rfl⟩
      clear q3 q4
      go_wp2
      go_ret
      exact ⟨by rw [H.out]; rfl, hb2⟩
    · have b2 : ¬ (r : Int) > 8 := by omega
      clear hmq hv hrz h
      go_enter Tryz.func36, Tryz.ntmps36
      go_wp2
      refine wp_region_bel (by kernel_rfl) (by kernel_rfl) ?_
      repeat (first | go_big_quiet_step ((go_at_call 50; exact Calls.bel (hmat _))) | quiet_step ((go_at_call 50; exact Calls.bel (hmat _))))
      refine wpQuiet_nil ?_
      rintro w2 ⟨⟨_, hb2⟩, rfl⟩
      have HW := Lib.hid (show Below w.heap.size w w2 from hb2)
      have c2 := (HC.out.keep hb2).c3
      clear q3 q4 hmat
      have hsz : ∀ q : Nat, Calls Tryz.prog 49 #[.pointer (some ⟨g, 0, none⟩)] (w2.drewN q) (Quiet (w2.drewN q) (.int .i64 (P ^ K))) := fun q => l03Size_any g P K A n c f _ (((HC.out.keep hb2).keep (below_drewn w2 q)).fa) (by omega) (by omega) (by omega)
      have hcn : ∀ q : Nat, Calls Tryz.prog 89 #[.int .i64 (P ^ K), .int .i64 r] (w2.drewN q) (Quiet (w2.drewN q) (.int .i64 (cntW (P ^ K) r))) := fun q => (l18Count_any (P ^ K) r _ hq2 hq64 (by omega)).mono (by rintro e w' ⟨rfl, rfl⟩; exact ⟨rfl, Drawn.refl _⟩)
      have HN := Lib.hid (show (P ^ K) ^ r ≤ 4096 ↔ cntW (P ^ K) r ≠ 0 by
        unfold cntW
        have := Int.pow_pos (n := P ^ K) (m := r) (by omega)
        split <;> simp_all <;> omega)
      by_cases hc : cntW (P ^ K) r = 0
      · have H := Lib.hid (show tB (CodeOk P K f rows) = false from tB_no fun hh => by have := HN.out.1 (by rw [← HL.out]; exact hh.2.2.1); exact this hc)
        rw [hc] at hcn
        clear hc
        go_wp2
        go_quiet ((first | (go_at_call 49; exact Quiet.call (hsz _)) | (go_at_call 89; exact Quiet.call (hcn _))))
        go_wp2
        go_ret
        exact ⟨by rw [H.out]; rfl, HW.out.trans ((below_drewn w2 _).mono HW.out.size)⟩
      · have hc' : (cntW (P ^ K) r == 0) = false := by simpa using hc
        have HN' := Lib.hid (HN.out.2 hc)
        clear hc HN
        generalize cntW (P ^ K) r = y at *
        go_wp2
        go_quiet ((first | (go_at_call 49; exact Quiet.call (hsz _)) | (go_at_call 89; exact Quiet.call (hcn _))))
        go_wp2
        have HW3 := Lib.hid (show Below w.heap.size w (w2.drewN nq) from HW.out.trans ((below_drewn w2 _).mono HW.out.size))
        clear hsz hcn c2 hb2 HW
        generalize w2.drewN nq = w3 at *
        have hz3 := HW3.out.size
        have c3 := bc_of HC.out.c3 HW3.out
        have HW4 : Below w.heap.size w (w3.drewN 1) := HW3.out.trans ((below_drewn w3 1).mono hz3)
        have hlm : m = (row rows 0).length := HLM.out.symm
        have hform := l17Form_any g P K A n c f (some ad) r rc m rows (w3.drewN 1) ((HC.out.keep HW4).fa) hfo ((HC.out.keep HW4).rr) (by rw [hlm]; exact HM.out) (by omega) (by omega) (by omega)
        have hz4 := HW4.size
        clear hlm
        have HF := Lib.hid (show (decide (formR P K f rows = rows) : Bool) = tB (CodeOk P K f rows) by
          by_cases hd : formR P K f rows = rows
          · rw [tB_yes ⟨HV.out |> tB_true.1, by rw [HL.out]; omega, by rw [HL.out]; exact HN'.out, hd⟩]; simpa using hd
          · rw [tB_no fun hh => hd hh.2.2.2]; simpa using hd)
        have HFL := Lib.hid (fun (A' : Option Addr) (np : Nat) (w4 : World) (hh : RR w4 A' np (formR P K f rows)) => show np ≤ 9223372036854775807 by
          have h1 := hh.len
          have h2 := redTo_len P K f rows (row rows 0).length
          have h3 := HL.out
          unfold formR at h1
          rw [List.length_take, h2] at h1
          omega)
        go_region_held_law (fun w' => Below w.heap.size w w' ∧ w'.cell? ⟨g, 3, none⟩ = some (.slice (some ad) r rc))
          (first | exact bc_of HC.out.c3 HW4 | exact bc_of HC.out.c3 HW3.out | exact bc_of HC.out.c3 (by assumption))
          ((first
            | (go_at_call 52; refine hform.mono ?_; rintro e w4 ⟨A', np, c', rfl, hrr, hb4⟩; have HW5 : Below w.heap.size w w4 := HW4.trans (hb4.mono hz4))
            | (go_at_call 78; refine (l10Same_any A' (some ad) np r c' rc _ rows w4 hrr ((HC.out.keep HW5).rr) (HFL.out A' np w4 hrr) (by omega)).mono ?_; rintro e w5 ⟨rfl, hd5⟩; have HW6 : Below w.heap.size w w5 := HW5.trans (hd5.below.mono HW5.size))))
        go_wp2
        go_ret
        exact ⟨by rw [← HF.out]; rfl, HW6⟩
theorem CAt.new {w : World} {P D : Int} {A M : Option Addr} {n c r rc : Nat} {f : List Int} {rows : List (List Int)} (hf : RI w A n f) (hr : RR w M r rows) (h1 : r ≤ rc) (h2 : rc ≤ 9223372036854775807) :
    CAt (w.alloc (.cells #[.int .i64 P, .int .i64 D, .slice A n c, .slice M r rc] 33)) w.heap.size P D A n c f M r rc rows := by
  have b := below_alloc w (.cells #[.int .i64 P, .int .i64 D, .slice A n c, .slice M r rc] 33)
  have X := Blk.new w 33 #[.int .i64 P, .int .i64 D, .slice A n c, .slice M r rc]
  exact ⟨⟨X.cell 0, X.cell 1, X.cell 2, hf.keep b⟩, X.cell 3, hr.keep b, h1, h2⟩
end Go.Proofs.YtdkbcjdimhgmnaaGreat
