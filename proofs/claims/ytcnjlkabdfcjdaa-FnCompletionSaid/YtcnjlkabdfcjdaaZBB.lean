/- From the form's reading of an argument to this proof's words: a slice of numbers, of bytes, of slices of numbers. No condition beyond those stated. -/
import Derived.Test.YtcnjlkabdfcjdaaZAA
import Derived.ProofKit
import Derived.OpenShut
import Derived.Lib.SmallJoins
import Derived.Deep.Matrix
import Derived.Test.YtcnjlkabdfcjdaaZAR
import Derived.Test.YtcnjlkabdfcjdaaZAV
import Derived.Test.YtcnjlkabdfcjdaaZBA
set_option linter.unusedVariables false
set_option linter.unusedSimpArgs false
namespace Go.Proofs.Ytcnjlkabdfcjdaa
open Go.ChangeShapes Go.WideShapes Go.ChangeAt Go.RowKit Go.Deep

section
variable {H : Type} {enc : TypeId × Value → H} {P : Program} {w : World} {fuel : Nat}
theorem open_RI {t e : TypeId} {v : Value} {x : DataW H × List MemPlace} (ht : P.underlying t = some (.slice e)) (he : P.underlying e = some (.int .i64)) (hc : P.cellsOf e = 1)
    (h : DataW.trod enc P w 0 (fun _ => true) true fuel t [v] = some x) : ∃ A n c zs, v = .slice A n c ∧ n ≤ c ∧ c ≤ 9223372036854775807 ∧ RI w A n zs := by
  rcases open_ints ht he hc h with ⟨hcs, _⟩ | ⟨a, len, cap, zs, hcs, _, hl, hm, hz, _, hcell, hwz⟩
  · simp at hcs
    exact ⟨none, 0, 0, [], hcs, by omega, by omega, RS.nil_ _ _ _⟩
  · simp at hcs hz
    refine ⟨some a, len, cap, zs.take len, hcs, hl, by unfold maxLen at hm; exact hm, ?_, fun j y hy => ?_⟩
    · rw [List.length_take]; omega
    · rw [List.getElem?_take] at hy
      split at hy
      · rename_i hj
        have hj' : j < zs.length := by omega
        have e1 : zs.getD j 0 = y := by simp [List.getD, hy]
        refine ⟨a, _, rfl, hcell j hj', by rw [e1], ?_⟩
        exact I64.of_wf (hwz y (List.mem_of_getElem? hy))
      · cases hy
theorem open_RR {t e q : TypeId} {v : Value} {x : DataW H × List MemPlace} (ht : P.underlying t = some (.slice e)) (he : P.underlying e = some (.slice q)) (hq : P.underlying q = some (.int .i64))
    (ce : P.cellsOf e = 1) (cq : P.cellsOf q = 1) (h : DataW.trod enc P w 0 (fun _ => true) true fuel t [v] = some x) :
    ∃ A n c zss, v = .slice A n c ∧ n ≤ c ∧ c ≤ 9223372036854775807 ∧ RR w A n zss := by
  rcases open_int_rows ht he hq ce cq h with ⟨hcs, _⟩ | ⟨a, len, cap, A, L, C, Z, hcs, _, hl, hm, _, hr⟩
  · simp at hcs
    exact ⟨none, 0, 0, [], hcs, by omega, by omega, RS.nil_ _ _ _⟩
  · simp at hcs
    refine ⟨some a, len, cap, (List.range len).map fun r => (Z r).take (L r), hcs, hl, by unfold maxLen at hm; exact hm, by simp, fun j y hy => ?_⟩
    have hj : j < len := by
      have := (List.getElem?_eq_some_iff.1 hy).1
      simpa using this
    have ey : (Z j).take (L j) = y := by simpa [hj] using hy
    obtain ⟨h1, h2, h3, h4, h5, h6, h7⟩ := hr j (by omega)
    refine ⟨a, _, rfl, h1, A j, L j, C j, rfl, h2, by unfold maxLen at h3; exact h3, ?_, fun i z hz => ?_⟩
    · rw [← ey, List.length_take]; omega
    · rw [← ey, List.getElem?_take] at hz
      split at hz
      · rename_i hi
        have hi' : i < C j := by omega
        cases hA : A j with
        | none => have := h6 hA; omega
        | some a' =>
          have hcell := (h7 a' hA).2 i hi'
          have e1 : (Z j).getD i 0 = z := by simp [List.getD, hz]
          exact ⟨a', _, rfl, hcell, by rw [e1], I64.of_wf (h5 z (List.mem_of_getElem? hz))⟩
      · cases hz
theorem open_RB {t e : TypeId} {v : Value} {x : DataW H × List MemPlace} (ht : P.underlying t = some (.slice e)) (he : P.underlying e = some (.int .u8)) (hc : P.cellsOf e = 1)
    (h : DataW.trod enc P w 0 (fun _ => true) true fuel t [v] = some x) : ∃ A n c zs, v = .slice A n c ∧ n ≤ c ∧ c ≤ 9223372036854775807 ∧ RS EByte w A n zs := by
  rcases open_ints ht he hc h with ⟨hcs, _⟩ | ⟨a, len, cap, zs, hcs, _, hl, hm, hz, _, hcell, hwz⟩
  · simp at hcs
    exact ⟨none, 0, 0, [], hcs, by omega, by omega, RS.nil_ _ _ _⟩
  · simp at hcs hz
    refine ⟨some a, len, cap, zs.take len, hcs, hl, by unfold maxLen at hm; exact hm, ?_, fun j y hy => ?_⟩
    · rw [List.length_take]; omega
    · rw [List.getElem?_take] at hy
      split at hy
      · rename_i hj
        have hj' : j < zs.length := by omega
        have e1 : zs.getD j 0 = y := by simp [List.getD, hy]
        refine ⟨a, _, rfl, hcell j hj', by rw [e1], ?_⟩
        exact bounds_u8 (hwz y (List.mem_of_getElem? hy))
      · cases hy
end
end Go.Proofs.Ytcnjlkabdfcjdaa
/- The law FnCompletion: for every input it returns true. No condition beyond those stated. -/
namespace Go.Proofs.Ytcnjlkabdfcjdaa
open Go.RowKit

/-- what follows where a completion is found -/
structure CpOk (p : List (List Int)) (F : List (List Int)) : Prop where
  part : PartOk p
  psq : PSq p.length F
  full : Full p.length F
  keep : KeepS p.length p F
  sq : Square F
  least : ∀ q, PSq p.length q → Full p.length q → KeepS p.length p q → cmpL (flatP F) (flatP q) ≤ 0
theorem clK_zero {p : List (List Int)} {b : Int} (h : clK p b = 0) : CpOk p (clF p b) ∧ ctK p b = 0 ∧ ctN p b = 1 := by
  have hF : clF p b = (clR p 1 b.toNat).first := by rw [clF, if_pos h]
  rw [hF]
  unfold clK at h
  split at h
  · rename_i h1
    split at h
    · rename_i h2
      split at h
      · cases h
      · rename_i h3
        split at h
        · cases h
        · rename_i h4
          have hp := tB_true.1 h1
          have hsp : (clR p 1 b.toNat).spent = false := by simpa using h3
          obtain ⟨e1, e2, e3, e4, e5, e6⟩ := clR_first hp hsp h4
          have hk : ctK p b = 0 := by rw [ctK, if_pos h1, if_pos h2, hsp]; rfl
          refine ⟨⟨hp, e2, e3, e4, e5, e6⟩, hk, ?_⟩
          rw [ctN, if_pos hk, e1]
          rfl
    · cases h
  · cases h
theorem clK_ne {p : List (List Int)} {b : Int} (h : clK p b ≠ 0) : clF p b = [] ∧ ((clK p b = 3 ∧ ctK p b = 0 ∧ ctN p b = 0) ∨ (clK p b ≠ 3 ∧ ctK p b = clK p b ∧ ctN p b = 0)) := by
  refine ⟨by rw [clF, if_neg h], ?_⟩
  unfold clK at h ⊢
  unfold ctN ctK
  cases h1 : tB (PartOk p) with
  | false => right; simp
  | true =>
    cases h2 : inB b 1 20000 with
    | false => right; simp
    | true =>
      cases h3 : (clR p 1 b.toNat).spent with
      | true => right; simp
      | false =>
        by_cases h4 : (clR p 1 b.toNat).count = 0
        · left; simp [h4]
        · rw [h1, h2, h3] at h
          simp [h4] at h
theorem keep_le {n : Nat} {p a : List (List Int)} (h : KeepS n p a) : ∀ x y, x < n → y < n → 0 ≤ atS p x y → atS p x y = atS a x y := fun x y hx hy h0 => (h x y hx hy (by omega)).symm
set_option maxRecDepth 100000 in
set_option maxHeartbeats 4000000 in
theorem law_Completion_ok (A0 : Option Addr) (n0 c0 : Nat) (bs : List Int) (A1 : Option Addr) (n1 c1 : Nat) (ys : List Int) (w : World) (ha : RS EByte w A0 n0 bs) (hn0 : n0 ≤ 1048576) (hb : RS EByte w A1 n1 ys) (hn1 : n1 ≤ 1048576) :
    Calls Try.prog 4 #[.slice A0 n0 c0, .slice A1 n1 c1] w fun e w' => e = .returned (.bool true) ∧ Below w.heap.size w w' := by
  go_enter Try.func4, Try.ntmps4
  go_wp2_with fail
  refine (b10Long_no A0 n0 c0 _ hn0).mono ?_
  rintro e w' ⟨rfl, rfl⟩
  go_wp2_with fail
  refine (b10Long_no A1 n1 c1 _ hn1).mono ?_
  rintro e w' ⟨rfl, rfl⟩
  go_wp2_with fail
  refine (drawCompletePartial_any A0 n0 c0 bs w ha (by omega)).mono ?_
  rintro e w1 ⟨X, n, xc, p, b, rfl, hX, hxc, hn, hbi, hb1⟩
  have hpl := hX.len
  go_wp2_with fail
  refine (completePartial_any X n xc p b w1 hX hxc.1 hxc.2).mono ?_
  rintro e w2 ⟨FA, fn, fk, rfl, hof, hb2⟩
  have hw2 := hb1.trans (hb2.mono hb1.size)
  have hX2 := hX.keep hb2
  go_wp2_with fail
  refine (countCompletions_any X n xc p b w2 hX2 hxc.1 hxc.2).mono ?_
  rintro e w3 ⟨rfl, hb3⟩
  have hw3 := hw2.trans (hb3.mono hw2.size)
  have hX3 := hX2.keep hb3
  have hof := hof.below hb3
  have hfl := hof.len
  clear hb2 hb3 hX hX2 hb1 hw2
  by_cases h0 : clK p b = 0
  · obtain ⟨hok, hk1, hk2⟩ := clK_zero h0
    rw [h0, hk1, hk2]
    generalize clF p b = F at *
    obtain rfl : fn = n := by rw [← hfl, ← hpl]; exact hok.psq.len
    have hsqF := validSquare_any FA fn fk F w3 hof.reads (by omega) (psq_cells hok.psq (by omega))
    rw [tB_yes hok.sq] at hsqF
    have hkp := fun w4 (h1 : RR w4 X fn p) (h2 : RR w4 FA fn F) => b10Keeps_yes X fn xc p FA fk F w4 h1 h2 (by omega) (by have := hok.part.2.2.row; rw [hpl] at this; exact this) (by have := hok.psq.row; rw [hpl] at this; exact this) (by have := keep_le hok.keep; rw [hpl] at this; exact this)
    have hfc := fun w4 (h1 : RR w4 X fn p) (x y : Nat) (z : Int) (hx : x < fn) (hy : y < fn) => fillCell_any X fn xc x y z p w4 h1 hxc.1 hxc.2 hok.part hx hy
    have hflat := fun w4 (h2 : RR w4 FA fn F) => b10Flat_any FA fn fk F w4 h2 (by omega) (by have := hok.psq.row; rw [hpl] at this; exact this)
    have HOK := Lib.hid hok
    have hn1' : 1 ≤ fn := by have := hok.part.1; omega
    clear hok h0 hk1 hk2 hfl
    go_wp2_with fail
    refine hsqF.mono ?_
    rintro e w4 ⟨rfl, hb4⟩
    have hw4 := hw3.trans (hb4.mono hw3.size)
    have hX4 := hX3.keep hb4
    have hof := hof.below hb4
    clear hsqF hb4
    go_wp2_with fail
    refine (hkp w4 hX4 hof.reads).mono ?_
    rintro e w5 ⟨rfl, hd5⟩
    have hb5 := hd5.below
    have hw5 := hw4.trans (hb5.mono hw4.size)
    have hX5 := hX4.keep hb5
    have hof := hof.below hb5
    have hm5 := EBytes.keep hb hw5
    have hx0 := atP_bd (zs := ys) (i := ((0 : Nat) : Int)) (k := (fn : Int)) (by omega)
    have hx1 := atP_bd (zs := ys) (i := ((1 : Nat) : Int)) (k := (fn : Int)) (by omega)
    have hx2 := atP_bd (zs := ys) (i := ((2 : Nat) : Int)) (k := (fn : Int)) (by omega)
    have ha0 := b10At_any A1 n1 c1 ys 0 (fn : Int) w5 hm5 (by omega) (by omega) (by omega)
    have ha1 := b10At_any A1 n1 c1 ys 1 (fn : Int) w5 hm5 (by omega) (by omega) (by omega)
    have ha2 := b10At_any A1 n1 c1 ys 2 (fn : Int) w5 hm5 (by omega) (by omega) (by omega)
    generalize atP ys ((0 : Nat) : Int) (fn : Int) = x at *
    generalize atP ys ((1 : Nat) : Int) (fn : Int) = y at *
    generalize atP ys ((2 : Nat) : Int) (fn : Int) = z at *
    obtain ⟨x, rfl⟩ := Int.eq_ofNat_of_zero_le hx0.1
    obtain ⟨y, rfl⟩ := Int.eq_ofNat_of_zero_le hx1.1
    have hxn : x < fn := by omega
    have hyn : y < fn := by omega
    clear hkp hd5 hb5 hx0 hx1 hw4 hw3
    go_wp2_with fail
    refine ha0.mono ?_
    rintro e w6 ⟨rfl, rfl⟩
    go_wp2_with fail
    refine ha1.mono ?_
    rintro e w6 ⟨rfl, rfl⟩
    go_wp2_with fail
    refine ha2.mono ?_
    rintro e w6 ⟨rfl, rfl⟩
    clear ha0 ha1 ha2
    go_wp2_with fail
    refine (hfc w5 hX5 x y z hxn hyn).mono ?_
    rintro e w6 ⟨Q, m, d, k, rfl, hb6, hfill⟩
    have hw6 := hw5.trans (hb6.mono hw5.size)
    by_cases hk : k = 0
    · subst hk
      obtain ⟨he, hz, hoq⟩ := hfill rfl
      have hp2 := HOK.out.part
      have hpp := part_put hp2 (by rw [hpl]; exact hxn) (by rw [hpl]; exact hyn) hz
      have hql : (putS p x y z).length = fn := by unfold putS; rw [List.length_set, hpl]
      obtain rfl : m = fn := by rw [← hoq.len]; exact hql
      have hcap := hoq.os_cap
      have HKP := Lib.hid (fun q (h : KeepS m (putS p x y z) q) => keep_put (n := m) (by have := hp2.2.2; rw [hpl] at this; exact this) hxn hyn he hz h)
      have hof := hof.below hb6
      have hcp := completePartial_any Q m d (putS p x y z) 20000 w6 hoq.reads hcap.1 hcap.2
      clear hfill hfc hp2 hb6 hz he hX5
      generalize putS p x y z = q at *
      go_wp2_with fail
      refine hcp.mono ?_
      rintro e w7 ⟨GA, gn, gk, rfl, hog, hb7⟩
      have hw7 := hw6.trans (hb7.mono hw6.size)
      have hoq := hoq.below hb7
      have hof := hof.below hb7
      have hgl := hog.len
      clear hcp hb7
      by_cases h0 : clK q 20000 = 0
      · obtain ⟨hok, -, -⟩ := clK_zero h0
        rw [h0]
        generalize clF q 20000 = G at *
        obtain rfl : gn = m := by rw [← hgl, ← hql]; exact hok.psq.len
        have hsqG := validSquare_any GA gn gk G w7 hog.reads (by omega) (psq_cells hok.psq (by omega))
        rw [tB_yes hok.sq] at hsqG
        have hkq := fun w4 (h1 : RR w4 Q gn q) (h2 : RR w4 GA gn G) => b10Keeps_yes Q gn d q GA gk G w4 h1 h2 (by omega) (by have := hok.part.2.2.row; rw [hql] at this; exact this) (by have := hok.psq.row; rw [hql] at this; exact this) (by have := keep_le hok.keep; rw [hql] at this; exact this)
        have hflatG := fun w4 (h2 : RR w4 GA gn G) => b10Flat_any GA gn gk G w4 h2 (by omega) (by have := hok.psq.row; rw [hql] at this; exact this)
        have hcm : cmpL (flatP F) (flatP G) ≤ 0 := by
          have h1 := hok.psq
          have h2 := hok.full
          have h3 := hok.keep
          rw [hql] at h1 h2 h3
          have := HOK.out.least G
          rw [hpl] at this
          exact this h1 h2 (HKP.out G h3)
        clear hok h0 HKP hpp
        go_wp2_with fail
        refine hsqG.mono ?_
        rintro e w8 ⟨rfl, hb8⟩
        have hw8 := hw7.trans (hb8.mono hw7.size)
        have hoq := hoq.below hb8
        have hof := hof.below hb8
        have hog := hog.below hb8
        clear hsqG hb8
        go_wp2_with fail
        refine (hkq w8 hoq.reads hog.reads).mono ?_
        rintro e w9 ⟨rfl, hd9⟩
        have hb9 := hd9.below
        have hw9 := hw8.trans (hb9.mono hw8.size)
        have hof := hof.below hb9
        have hog := hog.below hb9
        clear hkq hd9 hb9
        go_wp2_with fail
        refine (hflat w9 hof.reads).mono ?_
        rintro e w10 ⟨LA, ln, lc, rfl, hol, hb10⟩
        have hw10 := hw9.trans (hb10.mono hw9.size)
        have hog := hog.below hb10
        clear hb10
        go_wp2_with fail
        refine (hflatG w10 hog.reads).mono ?_
        rintro e w11 ⟨MA, mn, mc, rfl, hom, hb11⟩
        have hw11 := hw10.trans (hb11.mono hw10.size)
        have hol := hol.below hb11
        have hlcap := hol.os.cap
        have hmcap := hom.os.cap
        clear hb11
        go_wp2_with fail
        refine (compareListsT_any LA MA ln mn lc mc _ _ w11 hol.reads hom.reads (by omega) (by omega)).mono ?_
        rintro e w12 ⟨rfl, rfl⟩
        generalize cmpL (flatP F) (flatP G) = cv at *
        clear hol hom hog hof hoq HOK hflat hflatG
        go_wp2
        go_ret
        exact ⟨rfl, hw11⟩
      · have h0b : (clK q 20000 != 0) = true := by simp [h0]
        generalize clK q 20000 = K at *
        clear h0 hog hgl hof hoq
        go_wp2
        go_ret
        exact ⟨rfl, hw7⟩
    · have hkb : (k != 0) = true := by simp [hk]
      clear hfill hk
      go_wp2
      go_ret
      exact ⟨rfl, hw6⟩
  · obtain ⟨hz, hcase⟩ := clK_ne h0
    rw [hz] at hfl
    obtain rfl : fn = 0 := by simpa using hfl.symm
    have t0 : (clK p b != 0) = true := by simp [h0]
    rcases hcase with ⟨e1, e2, e3⟩ | ⟨e1, e2, e3⟩
    · rw [e1, e2, e3]
      clear hof hz hfl t0 h0 e1 e2 e3
      go_wp2
      go_ret
      exact ⟨rfl, hw3⟩
    · rw [e2, e3]
      have t1 : (clK p b == 3) = false := by simp [e1]
      generalize clK p b = K at *
      clear hof hz hfl h0 e1 e2 e3
      go_wp2
      go_ret
      exact ⟨rfl, hw3⟩
set_option maxRecDepth 100000 in
theorem law_Completion (A : Option Addr) (n c : Nat) (zs : List Int) (B : Option Addr) (m d : Nat) (ys : List Int) (w : World) (ha : RS EByte w A n zs) (hn : n ≤ c) (hc : c ≤ 9223372036854775807) (hb : RS EByte w B m ys) (hm : m ≤ d) (hd : d ≤ 9223372036854775807) :
    Calls Try.prog 4 #[.slice A n c, .slice B m d] w fun e w' => e = .returned (.bool true) ∧ Below w.heap.size w w' := by
  by_cases h1 : n ≤ 1048576
  · by_cases h2 : m ≤ 1048576
    · exact law_Completion_ok A n c zs B m d ys w ha h1 hb h2
    · go_enter Try.func4, Try.ntmps4
      go_wp2_with fail
      refine (b10Long_no A n c _ h1).mono ?_
      rintro e w' ⟨rfl, rfl⟩
      go_wp2_with fail
      refine (b10Long_yes B m d _ (by omega)).mono ?_
      rintro e w' ⟨rfl, rfl⟩
      go_wp2
      go_ret
      exact ⟨rfl, Below.refl _ _⟩
  · go_enter Try.func4, Try.ntmps4
    go_wp2_with fail
    refine (b10Long_yes A n c _ (by omega)).mono ?_
    rintro e w' ⟨rfl, rfl⟩
    go_wp2
    go_ret
    exact ⟨rfl, Below.refl _ _⟩
end Go.Proofs.Ytcnjlkabdfcjdaa
