/- What a code is: the function of the reference. No condition beyond those stated. -/
import Derived.Test.YtemdjochphehjaaGreatQJE
import Derived.Test.YtemdjochphehjaaGreatQGB
import Derived.Test.YtemdjochphehjaaGreatQGC
set_option linter.unusedVariables false
set_option linter.unusedSimpArgs false
namespace Go.Proofs.YtemdjochphehjaaGreat
open Go.RowKit

theorem bc_of {w w' : World} {p : Addr} {v : Value} (h : w.cell? p = some v) (hb : Below w.heap.size w w') : Below w.heap.size w w' ∧ w'.cell? p = some v := ⟨hb, below_cell hb h⟩
/-- a code in memory: its field's three cells and its rows -/
structure CAt (w : World) (g : Nat) (P D : Int) (A : Option Addr) (n c : Nat) (f : List Int) (M : Option Addr) (r rc : Nat) (rows : List (List Int)) : Prop where
  fa : FAt w g P D A n c f
  c3 : w.cell? ⟨g, 3, none⟩ = some (.slice M r rc)
  rr : RR w M r rows
  cap : r ≤ rc ∧ rc ≤ 9223372036854775807
theorem CAt.keep {w w' : World} {g : Nat} {P D : Int} {A : Option Addr} {n c : Nat} {f : List Int} {M : Option Addr} {r rc : Nat} {rows : List (List Int)} (h : CAt w g P D A n c f M r rc rows) (hb : Below w.heap.size w w') : CAt w' g P D A n c f M r rc rows :=
  ⟨h.fa.keep hb, below_cell hb h.c3, h.rr.keep hb, h.cap⟩
/-- a code -/
def CodeOk (P D : Int) (f : List Int) (rows : List (List Int)) : Prop :=
  MatOk P D f rows ∧ rows.length ≤ 8 ∧ (P ^ D.toNat) ^ rows.length ≤ 4096 ∧ formR P D.toNat f rows = rows
set_option maxRecDepth 100000 in
set_option maxHeartbeats 800000 in
theorem l18Ok_any (g : Nat) (P D : Int) (A : Option Addr) (n c : Nat) (f : List Int) (M : Option Addr) (r rc : Nat) (rows : List (List Int)) (w : World) (h : CAt w g P D A n c f M r rc rows) (hP : I64 P) (hD : I64 D) (hn : n ≤ 9223372036854775807) :
    Calls Tryz.prog 45 #[.pointer (some ⟨g, 0, none⟩)] w (RetB w (tB (CodeOk P D f rows))) := by
  have hrm : r ≤ 9223372036854775807 := by have := h.cap; omega
  have hmat : ∀ p : Bel w, Calls Tryz.prog 86 #[.pointer (some ⟨g, 0, none⟩), .slice M r rc] p.w (RetB p.w (tB (MatOk P D f rows))) := fun p => l17Ok_any g P D A n c f M r rc rows p.w (h.fa.keep p.h) hP hD hn (h.rr.keep p.h) hrm
  have q3 := cell_bel h.c3
  have HL := Lib.hid h.rr.len
  cases hv : tB (MatOk P D f rows) with
  | false =>
    have H := Lib.hid (show tB (CodeOk P D f rows) = false from tB_no fun hh => by rw [tB_yes hh.1] at hv; cases hv)
    rw [hv] at hmat
    go_enter Tryz.func45, Tryz.ntmps45
    go_wp2
    refine wp_region_bel (by kernel_rfl) (by kernel_rfl) ?_
    repeat (first | go_big_quiet_step ((go_at_call 86; exact Calls.bel (hmat _))) | quiet_step ((go_at_call 86; exact Calls.bel (hmat _))))
    refine wpQuiet_nil ?_
    rintro _ ⟨⟨w2, hb2⟩, rfl⟩
    clear q3
    go_wp2
    go_ret
    exact ⟨by rw [H.out]; rfl, hb2⟩
  | true =>
    obtain ⟨⟨hD1, hfo⟩, ⟨r1, r32⟩, ⟨m1, m32⟩, hmq⟩ := tB_true.1 hv
    obtain ⟨K, rfl⟩ : ∃ K : Nat, D = (K : Int) := ⟨D.toNat, by omega⟩
    have hfo : FldOk P K f := hfo
    have hmq : MatQ (P ^ K) (row rows 0).length rows := hmq
    rw [HL.out] at r1 r32
    obtain ⟨ad, Z, m, cz, rfl, hc0, hz1, hz2, hrz⟩ := h.rr.get (k := 0) (by omega)
    have hc0 : w.cell? ad = some (.slice Z m cz) := hc0
    have HLM := Lib.hid hrz.len
    rw [hrz.len] at m1 m32
    have HM := Lib.hid hmq
    have HV := Lib.hid hv
    rw [hv] at hmat
    have q4 := cell_bel hc0
    have b1 : ¬ (m : Int) > 32 := by omega
    obtain ⟨p2, p61, k1, k6, hq64, hq2⟩ := hfo.nums
    have HC := Lib.hid h
    by_cases h8 : r > 8
    · have b2 : (r : Int) > 8 := by omega
      have H := Lib.hid (show tB (CodeOk P K f rows) = false from tB_no fun hh => by have := hh.2.1; rw [HL.out] at this; omega)
      clear hmq hv hrz
      go_enter Tryz.func45, Tryz.ntmps45
      go_wp2
      refine wp_region_bel (by kernel_rfl) (by kernel_rfl) ?_
      repeat (first | go_big_quiet_step ((go_at_call 86; exact Calls.bel (hmat _))) | quiet_step ((go_at_call 86; exact Calls.bel (hmat _))))
      refine wpQuiet_nil ?_
      rintro _ ⟨⟨w2, hb2⟩, rfl⟩
      clear q3 q4
      go_wp2
      go_ret
      exact ⟨by rw [H.out]; rfl, hb2⟩
    · have b2 : ¬ (r : Int) > 8 := by omega
      clear hmq hv hrz h
      go_enter Tryz.func45, Tryz.ntmps45
      go_wp2
      refine wp_region_bel (by kernel_rfl) (by kernel_rfl) ?_
      repeat (first | go_big_quiet_step ((go_at_call 86; exact Calls.bel (hmat _))) | quiet_step ((go_at_call 86; exact Calls.bel (hmat _))))
      refine wpQuiet_nil ?_
      rintro w2 ⟨⟨_, hb2⟩, rfl⟩
      have HW := Lib.hid (show Below w.heap.size w w2 from hb2)
      have c2 := (HC.out.keep hb2).c3
      clear q3 q4 hmat
      have hsz : ∀ q : Nat, Calls Tryz.prog 46 #[.pointer (some ⟨g, 0, none⟩)] (w2.drewN q) (Quiet (w2.drewN q) (.int .i64 (P ^ K))) := fun q => l03Size_any g P K A n c f _ (((HC.out.keep hb2).keep (below_drewn w2 q)).fa) (by omega) (by omega) (by omega)
      have hcn : ∀ q : Nat, Calls Tryz.prog 87 #[.int .i64 (P ^ K), .int .i64 r] (w2.drewN q) (Quiet (w2.drewN q) (.int .i64 (cntW (P ^ K) r))) := fun q => (l18Count_any (P ^ K) r _ hq2 hq64 (by omega)).mono (by rintro e w' ⟨rfl, rfl⟩; exact ⟨rfl, Drawn.refl _⟩)
      have HN := Lib.hid (show (P ^ K) ^ r ≤ 4096 ↔ cntW (P ^ K) r ≠ 0 by
        unfold cntW
        have := Int.pow_pos (n := P ^ K) (m := r) (by omega)
        split <;> simp_all <;> omega)
      by_cases hc : cntW (P ^ K) r = 0
      · have H := Lib.hid (show tB (CodeOk P K f rows) = false from tB_no fun hh => by have := HN.out.1 (by rw [← HL.out]; exact hh.2.2.1); exact this hc)
        rw [hc] at hcn
        clear hc
        go_wp2
        go_quiet ((first | (go_at_call 46; exact Quiet.call (hsz _)) | (go_at_call 87; exact Quiet.call (hcn _))))
        go_wp2
        go_ret
        exact ⟨by rw [H.out]; rfl, HW.out.trans ((below_drewn w2 _).mono HW.out.size)⟩
      · have hc' : (cntW (P ^ K) r == 0) = false := by simpa using hc
        have HN' := Lib.hid (HN.out.2 hc)
        clear hc HN
        generalize cntW (P ^ K) r = y at *
        go_wp2
        go_quiet ((first | (go_at_call 46; exact Quiet.call (hsz _)) | (go_at_call 87; exact Quiet.call (hcn _))))
        go_wp2
        have HW3 := Lib.hid (show Below w.heap.size w (w2.drewN nq) from HW.out.trans ((below_drewn w2 _).mono HW.out.size))
        clear hsz hcn c2 hb2 HW
        generalize w2.drewN nq = w3 at *
        have hz3 := HW3.out.size
        have c3 := bc_of HC.out.c3 HW3.out
        have HW4 : Below w.heap.size w (w3.drewN 1) := HW3.out.trans ((below_drewn w3 1).mono hz3)
        have hlm : m = (row rows 0).length := HLM.out.symm
        have hform := l17Form_any g P K A n c f (some ad) r rc m rows (w3.drewN 1) ((HC.out.keep HW4).fa) hfo ((HC.out.keep HW4).rr) (by rw [hlm]; exact HM.out) (by omega) (by omega) (by omega)
        have hz4 := HW4.size
        clear hlm
        have HF := Lib.hid (show (decide (formR P K f rows = rows) : Bool) = tB (CodeOk P K f rows) by
          by_cases hd : formR P K f rows = rows
          · rw [tB_yes ⟨HV.out |> tB_true.1, by rw [HL.out]; omega, by rw [HL.out]; exact HN'.out, hd⟩]; simpa using hd
          · rw [tB_no fun hh => hd hh.2.2.2]; simpa using hd)
        have HFL := Lib.hid (fun (A' : Option Addr) (np : Nat) (w4 : World) (hh : RR w4 A' np (formR P K f rows)) => show np ≤ 9223372036854775807 by
          have h1 := hh.len
          have h2 := redTo_len P K f rows (row rows 0).length
          have h3 := HL.out
          unfold formR at h1
          rw [List.length_take, h2] at h1
          omega)
        go_region_held_law (fun w' => Below w.heap.size w w' ∧ w'.cell? ⟨g, 3, none⟩ = some (.slice (some ad) r rc))
          (first | exact bc_of HC.out.c3 HW4 | exact bc_of HC.out.c3 HW3.out | exact bc_of HC.out.c3 (by assumption))
          ((first
            | (go_at_call 89; refine hform.mono ?_; rintro e w4 ⟨A', np, c', rfl, hrr, hb4⟩; have HW5 : Below w.heap.size w w4 := HW4.trans (hb4.mono hz4))
            | (go_at_call 88; refine (l10Same_any A' (some ad) np r c' rc _ rows w4 hrr ((HC.out.keep HW5).rr) (HFL.out A' np w4 hrr) (by omega)).mono ?_; rintro e w5 ⟨rfl, hd5⟩; have HW6 : Below w.heap.size w w5 := HW5.trans (hd5.below.mono HW5.size))))
        go_wp2
        go_ret
        exact ⟨by rw [← HF.out]; rfl, HW6⟩
end Go.Proofs.YtemdjochphehjaaGreat
/- Two fields compared: the function of the reference. No condition beyond those stated. -/
namespace Go.Proofs.YtemdjochphehjaaGreat
open Go.RowKit

end Go.Proofs.YtemdjochphehjaaGreat
/- The code of some rows: the functions of the reference. No condition beyond those stated. -/
namespace Go.Proofs.YtemdjochphehjaaGreat
open Go.RowKit

theorem four_far {w3 : World} {b g o : Nat} (h : g < b) {u0 u1 u2 u3 : Value} : ((((w3.setCell ⟨b, 0, none⟩ u0).setCell ⟨b, 1, none⟩ u1).setCell ⟨b, 2, none⟩ u2).setCell ⟨b, 3, none⟩ u3).cell? ⟨g, o, none⟩ = w3.cell? ⟨g, o, none⟩ := by
  have hB : Below b w3 ((((w3.setCell ⟨b, 0, none⟩ u0).setCell ⟨b, 1, none⟩ u1).setCell ⟨b, 2, none⟩ u2).setCell ⟨b, 3, none⟩ u3) := by
    refine Below.setCell (Below.setCell (Below.setCell (Below.setCell (Below.refl _ _) ?_ _) ?_ _) ?_ _) ?_ _ <;> simp
  exact hB.cell (p := ⟨g, o, none⟩) h
def zeroCode : Value := .agg #[.int .i64 0, .int .i64 0, .slice none 0 0, .slice none 0 0]
theorem l30Code_no (g : Nat) (K s : Int) (M : Option Addr) (r rc : Nat) (w : World) (hB : Blk w g 30 #[.int .i64 K, .int .i64 s, .slice M r rc]) (hs : splS s = 0) :
    Calls Tryz.prog 78 #[.pointer (some ⟨g, 0, none⟩)] w (fun e w' => e = .returned zeroCode ∧ Below w.heap.size w w') := by
  have hb1 := below_alloc w (.cells #[.int .i64 0, .int .i64 0, .slice none 0 0, .slice none 0 0] 35)
  obtain ⟨k1, k2, k3⟩ := (hB.after hb1).cells3
  have hsp : ∀ W : World, Calls Tryz.prog 92 #[.int .i64 s] W (fun e w' => ∃ x, e = .returned (.tuple #[.int .i64 0, .int .i64 x]) ∧ w' = W) := fun W => by
    unfold splS at hs
    split at hs
    · refine (l03Split_any s W (by omega) (by omega)).mono ?_
      rintro e w' ⟨rfl, rfl⟩
      exact ⟨_, by rw [hs], rfl⟩
    · rename_i h
      refine (l03Split_out s W h).mono ?_
      rintro e w' ⟨rfl, rfl⟩
      exact ⟨_, rfl, rfl⟩
  have X' := Blk.new w 35 #[.int .i64 0, .int .i64 0, .slice none 0 0, .slice none 0 0]
  have z0 := X'.cell 0
  have z1 := X'.cell 1
  have z2 := X'.cell 2
  have z3 := X'.cell 3
  have f0 := X'.frozen 0
  have f1 := X'.frozen 1
  have f2 := X'.frozen 2
  have f3 := X'.frozen 3
  simp only [List.getElem?_toArray, List.getElem?_cons_zero, List.getElem?_cons_succ] at z0 z1 z2 z3
  go_enter Tryz.func78, Tryz.ntmps78
  go_wp2_with (go_at_call 92; refine (hsp _).mono ?_; rintro e w2 ⟨x, rfl, rfl⟩)
  refine bodyPost_ret (v := zeroCode) (by simp [zeroCode, results, Tryz.results78, go_sem, z0, z1, z2, z3]) rfl ⟨rfl, ?_⟩
  repeat (refine Below.setCell ?_ (by simp <;> omega) _)
  exact hb1
/-- what the code of some rows is where there is a field -/
def RetCd2 (w : World) (p k : Int) (f : List Int) (M : Option Addr) (r rc : Nat) (e : Ending) (w' : World) : Prop :=
  ∃ A n c, e = .returned (.agg #[.int .i64 p, .int .i64 k, .slice A n c, .slice M r rc]) ∧ OI w' w.heap.size 2 A n c f ∧ Below w.heap.size w w'
set_option maxHeartbeats 1000000 in
set_option maxRecDepth 100000 in
theorem l30Code_yes (g : Nat) (K s p : Int) (k : Nat) (M : Option Addr) (r rc : Nat) (w : World) (hB : Blk w g 30 #[.int .i64 K, .int .i64 s, .slice M r rc]) (hm : (p, k) ∈ PKL) (hs : p ^ k = s) :
    Calls Tryz.prog 78 #[.pointer (some ⟨g, 0, none⟩)] w (RetCd2 w p k (mkP p k) M r rc) := by
  have hb1 := below_alloc w (.cells #[.int .i64 0, .int .i64 0, .slice none 0 0, .slice none 0 0] 35)
  obtain ⟨k1, k2, k3⟩ := (hB.after hb1).cells3
  obtain ⟨m1, m2, m3, m4, m5⟩ := PKL_ok hm
  obtain ⟨p2, p61⟩ := PR_bd m1
  have hsp : ∀ W : World, Calls Tryz.prog 92 #[.int .i64 s] W (fun e w' => e = .returned (.tuple #[.int .i64 p, .int .i64 k]) ∧ w' = W) := fun W => by
    refine (l03Split_any s W (by omega) (by omega)).mono ?_
    rintro e w' ⟨rfl, rfl⟩
    exact ⟨by rw [splF_of hm hs], rfl⟩
  have hmk : ∀ W : World, Calls Tryz.prog 48 #[.int .i64 s] W (RetF W p k (mkP p k)) := fun W => l03Make_any hm s W hs
  have p0 : (p == 0) = false := by simp; omega
  have X' := Blk.new w 35 #[.int .i64 0, .int .i64 0, .slice none 0 0, .slice none 0 0]
  have HX := Lib.hid X'
  have HB := Lib.hid hB
  clear X'
  go_enter Tryz.func78, Tryz.ntmps78
  go_wp2_with (go_at_call 92; refine (hsp _).mono ?_; rintro e w2 ⟨rfl, rfl⟩)
  have HB1 := Lib.hid hb1
  clear hB
  have hb1 := hb1
  generalize hW : w.alloc (.cells #[.int .i64 0, .int .i64 0, .slice none 0 0, .slice none 0 0] 35) = W at *
  have HW := Lib.hid hW
  clear hW
  have hgl : g < w.heap.size := HB.out.lt
  have hbd := below_drewn W 1
  have hzd : W.heap.size ≤ (W.drewN 1).heap.size := hbd.size
  have hzw := hb1.size
  go_region_held_law (fun w' => w'.cell? ⟨g, 1, none⟩ = some (.int .i64 s) ∧ w'.cell? ⟨g, 2, none⟩ = some (.slice M r rc))
    (first | exact ⟨k2, k3⟩ | exact ⟨(by simpa using k2), (by simpa using k3)⟩ | exact hS3 | exact ⟨by rw [four_far hgl]; exact hS3.1, by rw [four_far hgl]; exact hS3.2⟩)
    ((first
      | (go_at_call 48; refine (hmk _).mono ?_; rintro e w3 ⟨A, n, c, rfl, ho, hb3⟩; have hb4 : Below W.heap.size W w3 := hbd.trans (hb3.mono hzd); have hS3 : w3.cell? ⟨g, 1, none⟩ = some (.int .i64 s) ∧ w3.cell? ⟨g, 2, none⟩ = some (.slice M r rc) := ⟨below_cell hb4 k2, below_cell hb4 k3⟩; have X3 := HX.out.after hb4; have f0 := X3.frozen 0; have f1 := X3.frozen 1; have f2 := X3.frozen 2; have f3 := X3.frozen 3; have z0 := X3.cell 0; have z1 := X3.cell 1; have z2 := X3.cell 2; have z3 := X3.cell 3)))
  have Y : Blk ((((w3.setCell ⟨w.heap.size, 0, none⟩ (.int .i64 p)).setCell ⟨w.heap.size, 1, none⟩ (.int .i64 k)).setCell ⟨w.heap.size, 2, none⟩ (.slice A n c)).setCell ⟨w.heap.size, 3, none⟩ (.slice M r rc)) w.heap.size 35 #[.int .i64 p, .int .i64 k, .slice A n c, .slice M r rc] :=
    (((X3.set_ 0 _).set_ 1 _).set_ 2 _).set_ 3 _
  have hoF : OI ((((w3.setCell ⟨w.heap.size, 0, none⟩ (.int .i64 p)).setCell ⟨w.heap.size, 1, none⟩ (.int .i64 k)).setCell ⟨w.heap.size, 2, none⟩ (.slice A n c)).setCell ⟨w.heap.size, 3, none⟩ (.slice M r rc)) w.heap.size 2 A n c (mkP p k) := by
    have hlt : w.heap.size < W.drew.heap.size := by have := HX.out.lt; have : W.heap.size ≤ W.drew.heap.size := hzd; omega
    exact ((((ho.setLow (p := ⟨w.heap.size, 0, none⟩) hlt _).setLow (p := ⟨w.heap.size, 1, none⟩) hlt _).setLow (p := ⟨w.heap.size, 2, none⟩) hlt _).setLow (p := ⟨w.heap.size, 3, none⟩) hlt _).more (by omega)
  have hbF : Below w.heap.size w ((((w3.setCell ⟨w.heap.size, 0, none⟩ (.int .i64 p)).setCell ⟨w.heap.size, 1, none⟩ (.int .i64 k)).setCell ⟨w.heap.size, 2, none⟩ (.slice A n c)).setCell ⟨w.heap.size, 3, none⟩ (.slice M r rc)) := by
    refine Below.setCell (Below.setCell (Below.setCell (Below.setCell (hb1.trans (hb4.mono hzw)) ?_ _) ?_ _) ?_ _) ?_ _ <;> simp
  clear f0 f1 f2 f3 z0 z1 z2 z3 X3 hS3
  generalize (((w3.setCell ⟨w.heap.size, 0, none⟩ (.int .i64 p)).setCell ⟨w.heap.size, 1, none⟩ (.int .i64 k)).setCell ⟨w.heap.size, 2, none⟩ (.slice A n c)).setCell ⟨w.heap.size, 3, none⟩ (.slice M r rc) = w4 at *
  have z0 : w4.cell? ⟨w.heap.size, 0, none⟩ = some (.int .i64 p) := Y.cell 0
  have z1 : w4.cell? ⟨w.heap.size, 1, none⟩ = some (.int .i64 k) := Y.cell 1
  have z2 : w4.cell? ⟨w.heap.size, 2, none⟩ = some (.slice A n c) := Y.cell 2
  have z3 : w4.cell? ⟨w.heap.size, 3, none⟩ = some (.slice M r rc) := Y.cell 3
  go_wp2
  refine bodyPost_ret (v := .agg #[.int .i64 p, .int .i64 k, .slice A n c, .slice M r rc]) (by simp [results, Tryz.results78, go_sem, z0, z1, z2, z3]) rfl ⟨A, n, c, rfl, hoF, hbF⟩
end Go.Proofs.YtemdjochphehjaaGreat
/- What a code's object is: the function of the reference. No condition beyond those stated. -/
namespace Go.Proofs.YtemdjochphehjaaGreat
open Go.RowKit

/-- rows that are a code over the field made of its size -/
def CObj (s : Int) (rows : List (List Int)) : Prop := ∃ (p : Int) (k : Nat), (p, k) ∈ PKL ∧ p ^ k = s ∧ CodeOk p k (mkP p k) rows
theorem splS_no {s : Int} (h : ¬ ∃ (p : Int) (k : Nat), (p, k) ∈ PKL ∧ p ^ k = s) : splS s = 0 := by
  unfold splS
  rw [splF_none fun p k hm e => h ⟨p, k, hm, e⟩]
  simp
theorem PKL_one' {p p' : Int} {k k' : Nat} (h : (p, k) ∈ PKL) (h' : (p', k') ∈ PKL) (e : p ^ k = p' ^ k') : p = p' ∧ k = k' := by
  have a := splF_of h rfl
  have b := splF_of h' rfl
  rw [e, b] at a
  simp at a
  exact ⟨a.1.symm, by omega⟩
theorem tB_CObj {s p : Int} {k : Nat} (hm : (p, k) ∈ PKL) (hs : p ^ k = s) (rows : List (List Int)) : tB (CObj s rows) = tB (CodeOk p k (mkP p k) rows) := by
  by_cases h : CodeOk p k (mkP p k) rows
  · rw [tB_yes h, tB_yes ⟨p, k, hm, hs, h⟩]
  · rw [tB_no h, tB_no]
    rintro ⟨p', k', hm', hs', h'⟩
    obtain ⟨rfl, rfl⟩ := PKL_one' hm hm' (hs.trans hs'.symm)
    exact h h'
theorem RI.nil_ (w : World) : RI w none 0 [] := ⟨rfl, fun j z hz => by cases hz⟩
theorem RR.nil_ (w : World) : RR w none 0 [] := ⟨rfl, fun j z hz => by cases hz⟩
set_option maxHeartbeats 800000 in
theorem judgeCode (s : Int) (zss : List (List Int)) (w : World) : Judge 5 s zss (tB (CObj s zss)) w := by
  intro g M r rc W _ hB ha hr hrc
  obtain ⟨k1, k2, k3⟩ := hB.cells3
  by_cases hx : ∃ (p : Int) (k : Nat), (p, k) ∈ PKL ∧ p ^ k = s
  · obtain ⟨p, k, hm, hs⟩ := hx
    rw [tB_CObj hm hs]
    have hco := l30Code_yes g 5 s p k M r rc W hB hm hs
    go_enter Tryz.func62, Tryz.ntmps62
    go_wp2_with (go_at_call 78; refine hco.mono ?_; rintro e w2 ⟨A, n, c, rfl, ho, hb2⟩)
    have b3 := below_alloc w2 (.cells #[.int .i64 p, .int .i64 k, .slice A n c, .slice M r rc] 35)
    have X := Blk.new w2 35 #[.int .i64 p, .int .i64 k, .slice A n c, .slice M r rc]
    have hb4 := hb2.trans (b3.mono hb2.size)
    obtain ⟨m1, m2, m3, m4, m5⟩ := PKL_ok hm
    obtain ⟨p2, p61⟩ := PR_bd m1
    obtain ⟨hc1, hc2⟩ := ho.os.cap
    have hC := CAt.mk (FAt.mk (X.cell 0) (X.cell 1) (X.cell 2) (ho.reads.keep b3)) (X.cell 3) (ha.keep hb4) ⟨hr, hrc⟩
    refine (l18Ok_any _ p k A n c (mkP p k) M r rc zss _ hC ⟨by omega, by omega⟩ ⟨by omega, by omega⟩ (by omega)).mono ?_
    rintro e w3 ⟨rfl, hb3⟩
    dsimp only
    go_wp2
    go_ret
    exact ⟨rfl, hb4.trans (hb3.mono hb4.size)⟩
  · have H := Lib.hid (show tB (CObj s zss) = false from tB_no fun ⟨p, k, a, b, _⟩ => hx ⟨p, k, a, b⟩)
    have hco := l30Code_no g 5 s M r rc W hB (splS_no hx)
    rw [show zeroCode = .agg #[.int .i64 0, .int .i64 0, .slice none 0 0, .slice none 0 0] from rfl] at hco
    rw [H.out]
    go_enter Tryz.func62, Tryz.ntmps62
    go_wp2_with (go_at_call 78; refine hco.mono ?_; rintro e w2 ⟨rfl, hb2⟩)
    have b3 := below_alloc w2 (.cells #[.int .i64 0, .int .i64 0, .slice none 0 0, .slice none 0 0] 35)
    have X := Blk.new w2 35 #[.int .i64 0, .int .i64 0, .slice none 0 0, .slice none 0 0]
    have hb4 := hb2.trans (b3.mono hb2.size)
    have hC := CAt.mk (FAt.mk (X.cell 0) (X.cell 1) (X.cell 2) (RI.nil_ _)) (X.cell 3) (RR.nil_ _) ⟨Nat.le_refl _, by omega⟩
    have hF : tB (CodeOk 0 0 [] []) = false := tB_no fun hh => by have := hh.1.1.1; omega
    have hcl := l18Ok_any _ 0 0 none 0 0 [] none 0 0 [] _ hC ⟨by omega, by omega⟩ ⟨by omega, by omega⟩ (by omega)
    rw [hF] at hcl
    refine hcl.mono ?_
    rintro e w3 ⟨rfl, hb3⟩
    dsimp only
    go_wp2
    go_ret
    exact ⟨rfl, hb4.trans (hb3.mono hb4.size)⟩
end Go.Proofs.YtemdjochphehjaaGreat
/- Objects of codes: the function of the reference. No condition beyond those stated. -/
namespace Go.Proofs.YtemdjochphehjaaGreat
open Go.RowKit

/-- a code's block, and behind it the block of the object to be -/
theorem CAt.new {w : World} {P D : Int} {A M : Option Addr} {n c r rc : Nat} {f : List Int} {rows : List (List Int)} (hf : RI w A n f) (hr : RR w M r rows) (h1 : r ≤ rc) (h2 : rc ≤ 9223372036854775807) :
    CAt (w.alloc (.cells #[.int .i64 P, .int .i64 D, .slice A n c, .slice M r rc] 35)) w.heap.size P D A n c f M r rc rows := by
  have b := below_alloc w (.cells #[.int .i64 P, .int .i64 D, .slice A n c, .slice M r rc] 35)
  have X := Blk.new w 35 #[.int .i64 P, .int .i64 D, .slice A n c, .slice M r rc]
  exact ⟨⟨X.cell 0, X.cell 1, X.cell 2, hf.keep b⟩, X.cell 3, hr.keep b, h1, h2⟩
/-- a field's three cells -/
def F3 (w : World) (g : Nat) (P D : Int) (A : Option Addr) (n c : Nat) : Prop := w.cell? ⟨g, 0, none⟩ = some (.int .i64 P) ∧ w.cell? ⟨g, 1, none⟩ = some (.int .i64 D) ∧ w.cell? ⟨g, 2, none⟩ = some (.slice A n c)
theorem F3.of {w w' : World} {g : Nat} {P D : Int} {A : Option Addr} {n c : Nat} {f : List Int} (h : FAt w g P D A n c f) (hb : Below w.heap.size w w') : F3 w' g P D A n c := ⟨below_cell hb h.c0, below_cell hb h.c1, below_cell hb h.c2⟩
end Go.Proofs.YtemdjochphehjaaGreat
