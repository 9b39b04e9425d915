/- What a code is: the program's own function. No condition beyond those stated. -/
import Derived.Shelf.RegionOpenPlain
import Derived.Test.YtdkbcjdimhgmnaaGreatSOA
set_option linter.unusedVariables false
set_option linter.unusedSimpArgs false
namespace Go.Proofs.YtdkbcjdimhgmnaaGreat
open Go.RowKit
set_option maxRecDepth 100000 in
set_option maxHeartbeats 1600000 in
theorem validCode_any (P D : Int) (A : Option Addr) (n c : Nat) (f : List Int) (M : Option Addr) (r rc : Nat) (rows : List (List Int)) (w : World) (hf : RI w A n f) (hP : I64 P) (hD : I64 D) (hn : n ≤ 9223372036854775807) (hr : RR w M r rows) (hrm : r ≤ 9223372036854775807) :
    Calls Tryz.prog 42 #[.agg #[.int .i64 P, .int .i64 D, .slice A n c, .slice M r rc]] w (RetB w (tB (CodeOk P D f rows))) := by
  have hb1 := below_alloc w (.cells #[.int .i64 P, .int .i64 D, .slice A n c, .slice M r rc] 33)
  have X := Blk.new w 33 #[.int .i64 P, .int .i64 D, .slice A n c, .slice M r rc]
  obtain ⟨W1, hW1⟩ : ∃ W1, W1 = w.alloc (.cells #[.int .i64 P, .int .i64 D, .slice A n c, .slice M r rc] 33) := ⟨_, rfl⟩
  rw [← hW1] at hb1 X
  have hf1 := hf.keep hb1
  have hr1 := hr.keep hb1
  have hmat : ∀ p : Bel W1, Calls Tryz.prog 94 #[.agg #[.int .i64 P, .int .i64 D, .slice A n c], .slice M r rc] p.w (RetB p.w (tB (MatOk P D f rows))) := fun p => validMatrix_any P D A n c f M r rc rows p.w (hf1.keep p.h) hP hD hn (hr1.keep p.h) hrm
  have x0 : W1.cell? ⟨w.heap.size, 0, none⟩ = some (.int .i64 P) := X.cell 0
  have x1 : W1.cell? ⟨w.heap.size, 1, none⟩ = some (.int .i64 D) := X.cell 1
  have x2 : W1.cell? ⟨w.heap.size, 2, none⟩ = some (.slice A n c) := X.cell 2
  have x3 : W1.cell? ⟨w.heap.size, 3, none⟩ = some (.slice M r rc) := X.cell 3
  have q0 := cell_bel x0
  have q1 := cell_bel x1
  have q2 := cell_bel x2
  have q3 := cell_bel x3
  have HL := Lib.hid hr.len
  cases hv : tB (MatOk P D f rows) with
  | false =>
    have H := Lib.hid (show tB (CodeOk P D f rows) = false from tB_no fun hh => by rw [tB_yes hh.1] at hv; cases hv)
    rw [hv] at hmat
    go_enter Tryz.func42, Tryz.ntmps42
    go_wp2
    rw [← hW1]
    clear hW1
    refine wp_region_bel (by kernel_rfl) (by kernel_rfl) ?_
    repeat (first | go_big_quiet_step ((go_at_call 94; exact Calls.bel (hmat _))) | quiet_step ((go_at_call 94; exact Calls.bel (hmat _))))
    refine wpQuiet_nil ?_
    rintro _ ⟨⟨w2, hb2⟩, rfl⟩
    clear q0 q1 q2 q3
    go_wp2
    go_ret
    exact ⟨by rw [H.out]; rfl, hb1.trans (hb2.mono hb1.size)⟩
  | true =>
    obtain ⟨⟨hD1, hfo⟩, ⟨r1, r32⟩, ⟨m1, m32⟩, hmq⟩ := tB_true.1 hv
    obtain ⟨K, rfl⟩ : ∃ K : Nat, D = (K : Int) := ⟨D.toNat, by omega⟩
    have hfo : FldOk P K f := hfo
    have hmq : MatQ (P ^ K) (row rows 0).length rows := hmq
    rw [HL.out] at r1 r32
    obtain ⟨ad, Z, m, cz, rfl, hc0, hz1, hz2, hrz⟩ := hr.get (k := 0) (by omega)
    have hm : (row rows 0).length = m := hrz.len
    rw [hm] at m1 m32 hmq
    have HM := Lib.hid hmq
    have HV := Lib.hid hv
    rw [hv] at hmat
    obtain ⟨p2, p61, k1, k6, hq64, hq2⟩ := hfo.nums
    by_cases h8 : r > 8
    · have b2 : (r : Int) > 8 := by omega
      have H := Lib.hid (show tB (CodeOk P K f rows) = false from tB_no fun hh => by have := hh.2.1; rw [HL.out] at this; omega)
      clear hmq hv hrz hc0 hm
      go_enter Tryz.func42, Tryz.ntmps42
      go_wp2
      rw [← hW1]
      clear hW1
      refine wp_region_bel (by kernel_rfl) (by kernel_rfl) ?_
      repeat (first | go_big_quiet_step ((go_at_call 94; exact Calls.bel (hmat _))) | quiet_step ((go_at_call 94; exact Calls.bel (hmat _))))
      refine wpQuiet_nil ?_
      rintro _ ⟨⟨w2, hb2⟩, rfl⟩
      clear q0 q1 q2 q3
      go_wp2
      go_ret
      exact ⟨by rw [H.out]; rfl, hb1.trans (hb2.mono hb1.size)⟩
    · have b2 : decide (8 < (r : Int)) = false := by simp; omega
      have bd : Below W1.heap.size W1 W1.drew := by have := below_drewn W1 1; simpa [← World.drew_is_drewN] using this
      have hmatd : Calls Tryz.prog 94 #[.agg #[.int .i64 P, .int .i64 K, .slice A n c], .slice (some ad) r rc] W1.drew (RetB W1.drew true) := hmat ⟨_, bd⟩
      have hS : ∀ {W : World}, Below W1.heap.size W1 W → (Below W1.heap.size W1 W ∧ W.cell? ⟨w.heap.size, 0, none⟩ = some (.int .i64 P) ∧ W.cell? ⟨w.heap.size, 1, none⟩ = some (.int .i64 K) ∧ W.cell? ⟨w.heap.size, 2, none⟩ = some (.slice A n c) ∧ W.cell? ⟨w.heap.size, 3, none⟩ = some (.slice (some ad) r rc)) := fun hb => ⟨hb, below_cell hb x0, below_cell hb x1, below_cell hb x2, below_cell hb x3⟩
      have HFO := Lib.hid hfo
      clear hmq hv hrz hc0 hmat q0 q1 q2 q3 hfo
      by_cases hc : (P ^ K) ^ r ≤ 4096
      · have HC := Lib.hid hc
        go_enter Tryz.func42, Tryz.ntmps42
        go_wp2
        rw [← hW1]
        clear hW1
        go_region_held_law (fun w' => Below W1.heap.size W1 w' ∧ w'.cell? ⟨w.heap.size, 0, none⟩ = some (.int .i64 P) ∧ w'.cell? ⟨w.heap.size, 1, none⟩ = some (.int .i64 K) ∧ w'.cell? ⟨w.heap.size, 2, none⟩ = some (.slice A n c) ∧ w'.cell? ⟨w.heap.size, 3, none⟩ = some (.slice (some ad) r rc))
          (first | with_reducible exact hS bd | with_reducible exact hS B2 | with_reducible exact hS B3)
          ((first
            | (go_at_call 94; (with_reducible refine hmatd.mono ?_); rintro e w2 ⟨rfl, hb2⟩; have B2 := bd.trans (hb2.mono bd.size))
            | (go_at_call 53; (with_reducible refine (fieldSize_any P K A n c w2 p2 (by omega) hq64 k6).mono ?_); rintro e w3 ⟨rfl, hb3⟩; have B3 := B2.trans (hb3.mono B2.size))
            | (go_at_call 96; (with_reducible refine (sizeR_any (some ad) r rc w3 (by omega)).mono ?_); rintro e w' ⟨rfl, rfl⟩)
            | (go_at_call 95; (with_reducible refine (powerUpTo_any (P ^ K) r 4096 w3 hq2 (by omega) (by omega) (by omega) (by omega) (by omega)).mono ?_); rintro e w' ⟨rv, rfl, hcap, rfl⟩; have hrv := (show ¬ rv > 4096 by rw [Int.toNat_natCast] at hcap; have := hcap.eq HC.out; omega))))
        clear hmatd
        obtain ⟨q, hq⟩ : ∃ q : Nat, P ^ K = (q : Int) := ⟨(P ^ K).toNat, by omega⟩
        have HQ := Lib.hid hq
        have bd3 : Below W1.heap.size W1 w3.drew := B3.trans (by have := (below_drewn w3 1).mono B3.size; simpa [← World.drew_is_drewN] using this)
        have htab := tablesOf_any P K f q A n c w3.drew hq HFO.out (hf1.keep bd3)
        have HF := Lib.hid (show (decide (formR P K f rows = rows) : Bool) = tB (CodeOk P K f rows) by
          by_cases hd : formR P K f rows = rows
          · rw [tB_yes ⟨HV.out |> tB_true.1, by rw [HL.out]; omega, by rw [HL.out]; exact HC.out, hd⟩]; simpa using hd
          · rw [tB_no fun hh => hd hh.2.2.2]; simpa using hd)
        have HFL := Lib.hid (fun (A' : Option Addr) (np : Nat) (w4 : World) (hh : RR w4 A' np (formR P K f rows)) => show np ≤ 9223372036854775807 by
          have h1 := hh.len
          have h2 := redTo_len P K f rows (row rows 0).length
          have h3 := HL.out
          unfold formR at h1
          rw [List.length_take, h2] at h1
          omega)
        obtain ⟨y0, y1, y2, y3⟩ := (hS B3).2
        clear hq hc hb2 hb3 B2 X hf hr
        go_wp2
        go_region_held_law (fun w' => Below W1.heap.size W1 w' ∧ w'.cell? ⟨w.heap.size, 0, none⟩ = some (.int .i64 P) ∧ w'.cell? ⟨w.heap.size, 1, none⟩ = some (.int .i64 K) ∧ w'.cell? ⟨w.heap.size, 2, none⟩ = some (.slice A n c) ∧ w'.cell? ⟨w.heap.size, 3, none⟩ = some (.slice (some ad) r rc))
          (first | with_reducible exact hS bd3 | with_reducible exact hS B4 | with_reducible exact hS B5)
          ((first
            | (go_at_call 97; (with_reducible refine htab.mono ?_); rintro e w4 ⟨A1, A2, A3, A4, d1, d2, d3, d4, rfl, hT, hb4⟩; have B4 := bd3.trans (hb4.mono bd3.size))
            | (go_at_call 98; (with_reducible refine (reduce_any P K f q A1 A2 A3 A4 d1 d2 d3 d4 (some ad) r rc m rows w4 HQ.out HFO.out hT (hr1.keep B4) HM.out r1 (by omega) (by omega)).mono ?_); rintro e w5 ⟨A', n', c', P', np, pc, dd, rfl, hrr, hb5⟩; have B5 := B4.trans (hb5.mono B4.size))))
        obtain ⟨z0, z1, z2, z3⟩ := (hS B5).2
        have hsm := areSame_any A' (some ad) n' r c' rc _ rows w5 hrr (hr1.keep B5) (HFL.out _ _ _ hrr) hrm
        clear hT htab hb4 hb5 y0 y1 y2 y3
        go_wp2_with (go_at_call 99; refine hsm.mono ?_; rintro e w6 ⟨rfl, hd6⟩; have B6 := B5.trans (hd6.below.mono B5.size))
        go_ret
        exact ⟨by rw [← HF.out]; rfl, hb1.trans (B6.mono hb1.size)⟩
      · have HC := Lib.hid hc
        have H := Lib.hid (show tB (CodeOk P K f rows) = false from tB_no fun hh => by have := hh.2.2.1; rw [HL.out] at this; exact HC.out this)
        clear hc
        go_enter Tryz.func42, Tryz.ntmps42
        go_wp2
        rw [← hW1]
        clear hW1
        go_region_held_law (fun w' => Below W1.heap.size W1 w' ∧ w'.cell? ⟨w.heap.size, 0, none⟩ = some (.int .i64 P) ∧ w'.cell? ⟨w.heap.size, 1, none⟩ = some (.int .i64 K) ∧ w'.cell? ⟨w.heap.size, 2, none⟩ = some (.slice A n c) ∧ w'.cell? ⟨w.heap.size, 3, none⟩ = some (.slice (some ad) r rc))
          (first | with_reducible exact hS bd | with_reducible exact hS B2 | with_reducible exact hS B3)
          ((first
            | (go_at_call 94; (with_reducible refine hmatd.mono ?_); rintro e w2 ⟨rfl, hb2⟩; have B2 := bd.trans (hb2.mono bd.size))
            | (go_at_call 53; (with_reducible refine (fieldSize_any P K A n c w2 p2 (by omega) hq64 k6).mono ?_); rintro e w3 ⟨rfl, hb3⟩; have B3 := B2.trans (hb3.mono B2.size))
            | (go_at_call 96; (with_reducible refine (sizeR_any (some ad) r rc w3 (by omega)).mono ?_); rintro e w' ⟨rfl, rfl⟩)
            | (go_at_call 95; (with_reducible refine (powerUpTo_any (P ^ K) r 4096 w3 hq2 (by omega) (by omega) (by omega) (by omega) (by omega)).mono ?_); rintro e w' ⟨rv, rfl, hcap, rfl⟩; have hrv := (show rv > 4096 by rw [Int.toNat_natCast] at hcap; have := hcap.iff; have := HC.out; omega))))
        go_wp2
        go_ret
        exact ⟨by rw [H.out]; rfl, hb1.trans (B3.mono hb1.size)⟩
def revT (z : List Int) (k : Nat) : List Int := (List.range z.length).map fun i => nth z (if i < k ∨ z.length - k ≤ i then z.length - 1 - i else i)
def revL (z : List Int) : List Int := (List.range z.length).map fun i => nth z (z.length - 1 - i)
theorem revT_len (z : List Int) (k : Nat) : (revT z k).length = z.length := by simp [revT]
theorem revL_len (z : List Int) : (revL z).length = z.length := by simp [revL]
theorem revT_nth (z : List Int) (k : Nat) {i : Nat} (h : i < z.length) : nth (revT z k) i = nth z (if i < k ∨ z.length - k ≤ i then z.length - 1 - i else i) := by
  unfold revT
  rw [nth_map_range, if_pos h]
theorem revL_nth (z : List Int) {i : Nat} (h : i < z.length) : nth (revL z) i = nth z (z.length - 1 - i) := by
  unfold revL
  rw [nth_map_range, if_pos h]
theorem revT_zero (z : List Int) : revT z 0 = z := by
  refine List.ext_getElem (revT_len _ _) fun i h1 h2 => ?_
  rw [← nth_get, ← nth_get, revT_nth z 0 h2, if_neg (by omega)]
theorem revT_step {z : List Int} {k j : Nat} (h : k < j) (hj : k + j + 1 = z.length) : ((revT z k).set k (nth z j)).set j (nth z k) = revT z (k + 1) := by
  refine List.ext_getElem (by simp [revT_len]) fun i h1 h2 => ?_
  rw [revT_len] at h2
  rw [← nth_get (zs := revT z (k + 1)), revT_nth z _ h2, List.getElem_set, List.getElem_set]
  by_cases e1 : j = i
  · rw [if_pos e1, if_pos (by omega)]
    congr 1
    omega
  · rw [if_neg e1]
    by_cases e2 : k = i
    · rw [if_pos e2, if_pos (by omega)]
      congr 1
      omega
    · rw [if_neg e2, ← nth_get (zs := revT z k), revT_nth z _ h2]
      congr 1
      by_cases e3 : i < k ∨ z.length - k ≤ i
      · rw [if_pos e3, if_pos (by omega)]
      · rw [if_neg e3, if_neg (by omega)]
theorem revT_all {z : List Int} {k : Nat} (h : z.length ≤ 2 * k + 1) : revT z k = revL z := by
  refine List.ext_getElem (by rw [revT_len, revL_len]) fun i h1 h2 => ?_
  rw [revL_len] at h2
  rw [← nth_get, ← nth_get, revT_nth z _ h2, revL_nth z h2]
  congr 1
  split <;> omega
set_option maxRecDepth 100000 in
set_option maxHeartbeats 1000000 in
theorem reverse_any (B : Nat) (A : Option Addr) (n c : Nat) (z : List Int) (w : World) (ho : OI w B 2 A n c z) (hn : n ≤ 1048576) :
    Calls Tryz.prog 173 #[.slice A n c] w (fun e w' => e = .returned (.tuple #[]) ∧ OI w' B 2 A n c (revL z) ∧ w.grownBy w' (blk A)) := by
  have HL := Lib.hid ho.len
  have ho0 := ho
  rw [← revT_zero z] at ho0
  clear ho
  go_enter Tryz.func173, Tryz.ntmps173
  go_wp2
  go_loopw [2, 3] (fun i j wr => ∃ (k : Nat) (jz : Int), 2 * k ≤ n + 1 ∧ jz = (n : Int) - 1 - k ∧ i = .int .i64 k ∧ j = .int .i64 jz ∧ OI wr B 2 A n c (revT z k) ∧ w.grownBy wr (blk A)) (fun i _ _ => n - (intOf i).toNat)
  case atStart => exact ⟨0, _, by omega, rfl, rfl, by go_num, ho0, World.grownBy.refl _ _⟩
  case round =>
    clear ho0
    obtain ⟨k, jz, hk, hjz, rfl, rfl, ho, hg⟩ := hrel
    by_cases hlt : (k : Int) < jz
    · obtain ⟨j, rfl⟩ : ∃ j : Nat, jz = (j : Int) := ⟨jz.toNat, by omega⟩
      have hkj : k < j := by omega
      have hkn : k < n := by omega
      have hjn : j < n := by omega
      have hst := Lib.hid (revT_step (z := z) hkj (by rw [HL.out]; omega))
      obtain ⟨ga, hA, ck, fk, ik⟩ := ho.cell hkn
      obtain ⟨ga', hA', cj, fj, ij⟩ := ho.cell hjn
      rw [hA] at hA'
      obtain rfl : ga = ga' := by injection hA' with e; injection e
      subst hA
      rw [revT_nth z k (by rw [HL.out]; exact hkn), if_neg (by rw [HL.out]; omega)] at ck ik
      rw [revT_nth z k (by rw [HL.out]; exact hjn), if_neg (by rw [HL.out]; omega)] at cj ij
      have hgd := hg.trans (grownBy_of_below (below_drewn wr 1) (blk (some ⟨ga, 0, none⟩)))
      have hod := ho.below (below_drewn wr 1)
      simp only [← World.drew_is_drewN] at hod hgd
      have h2 := (hod.set k (u := nth z j) ij).set j (u := nth z k) ik
      have hg2 := (hgd.trans (grown_set (w := wr.drew) (g := ga) (p := k) (u := .int .i64 (nth z j)))).trans (grown_set (g := ga) (p := j) (u := .int .i64 (nth z k)))
      rw [hst.out] at h2
      have HH := Lib.hid h2
      have HG := Lib.hid hg2
      generalize nth z j = u at *
      generalize nth z k = v at *
      have HJ := Lib.hid hjz
      have mixed : Tryz.prog.follows Departure.mixedOrders = true := by rfl
      clear h2 hg2 hod hgd ho hg ik ij hjz hA'
      go_wp2_with fail
      go_region_o
      go_wp2
      go_roundw
      case rel => exact ⟨k + 1, (j : Int) - 1, by have := HJ.out; omega, by have := HJ.out; omega, by go_num, rfl, HH.out, HG.out⟩
      case measure => simp [intOf]; omega
    · have hall := Lib.hid (revT_all (z := z) (k := k) (by rw [HL.out]; omega))
      rw [hall.out] at ho
      go_wp2
      go_end0
      exact ⟨rfl, ho, hg⟩
set_option maxHeartbeats 400000 in
theorem highFirst_any (a p : Int) (n : Nat) (w : World) (ha : 0 ≤ a) (ha2 : a ≤ 1000000) (hp : 2 ≤ p) (hp2 : p ≤ 1000000) (hn : n ≤ 1000) :
    Calls Tryz.prog 113 #[.int .i64 a, .int .i64 p, .int .i64 n] w (RetI w 2 (revL (digsP a p n))) := by
  have HD := Lib.hid (digs_len a p n)
  go_enter Tryz.func113, Tryz.ntmps113
  go_wp2_with fail
  refine (digitsOf_any a p n w ha ha2 hp hp2 hn).mono ?_
  rintro e w1 ⟨A, m, c, rfl, ho, hb⟩
  have hm : m ≤ 1048576 := by rw [← ho.len, HD.out]; omega
  go_wp2_with fail
  refine (reverse_any w.heap.size A m c _ w1 ho hm).mono ?_
  rintro e w2 ⟨rfl, ho2, hg⟩
  have hb2 := below_own hb hg hb.size (fun b hb => (ho.os.lt hb).1)
  go_wp2
  go_ret
  exact ⟨_, _, _, rfl, ho2, hb2⟩
set_option maxRecDepth 100000 in
set_option maxHeartbeats 1600000 in
theorem addTimes_gen (p : Int) (k : Nat) (f : List Int) (q : Nat) (A1 A2 A3 A4 : Option Addr) (c1 c2 c3 c4 : Nat) (wt w : World) (hq : p ^ k = (q : Int)) (hp : 0 < p) (hq64 : q ≤ 64) (ht : TabA wt p k f q A1 A2 A3 A4) (hwt : Below wt.heap.size wt w)
    (T U : Option Addr) (m ct cu : Nat) (v u : List Int) (x : Int) (hv : OI w wt.heap.size 2 T m ct v) (hul : u.length = m) (hu : ∀ wr, w.grownBy wr (blk T) → RI wr U m u) (hvq : VecQ q v) (huq : VecQ q u) (hx : 0 ≤ x ∧ x < q) (hm : m ≤ 1048576) :
    Calls Tryz.prog 158 #[.agg #[.int .i64 q, .slice A1 q c1, .slice A2 q c2, .slice A3 q c3, .slice A4 q c4], .slice T m ct, .slice U m cu, .int .i64 x] w (fun e w' => e = .returned (.tuple #[]) ∧ OI w' wt.heap.size 2 T m ct (mixP v (addF p k f v u x) m) ∧ w.grownBy w' (blk T)) := by
  have HL := Lib.hid hv.len
  have HLu := Lib.hid hul
  have HV := Lib.hid hvq
  have HU := Lib.hid huq
  have HT := Lib.hid ht
  have HB := Lib.hid (fun a b => mulP_bd (p := p) hp k f a b)
  have HBS := Lib.hid (fun c a b => sumP_bd (p := p) hp k c a b)
  have HQ := Lib.hid hq
  obtain ⟨xn, rfl, hxn⟩ := nat_of hx.1 hx.2
  have hb1 := below_alloc w (.cells #[.int .i64 q, .slice A1 q c1, .slice A2 q c2, .slice A3 q c3, .slice A4 q c4] 146)
  have X1 := Blk.new w 146 #[.int .i64 q, .slice A1 q c1, .slice A2 q c2, .slice A3 q c3, .slice A4 q c4]
  have ho0 : OI (w.alloc (.cells #[.int .i64 q, .slice A1 q c1, .slice A2 q c2, .slice A3 q c3, .slice A4 q c4] 146)) wt.heap.size 2 T m ct (mixP v (addF p k f v u xn) 0) := by rw [mixP_zero]; exact hv.below hb1
  have hg0 := grownBy_of_below hb1 (blk T)
  clear hvq huq ht hq
  go_enter Tryz.func158, Tryz.ntmps158
  go_wp2
  go_loopw [12] (fun i wr => ∃ j : Nat, j ≤ m ∧ i = .int .i64 j ∧ OI wr wt.heap.size 2 T m ct (mixP v (addF p k f v u xn) j) ∧ w.grownBy wr (blk T) ∧ Blk wr w.heap.size 146 #[.int .i64 q, .slice A1 q c1, .slice A2 q c2, .slice A3 q c3, .slice A4 q c4]) (fun i _ => m - (intOf i).toNat)
  case atStart => exact ⟨0, Nat.zero_le _, rfl, ho0, hg0, X1⟩
  case round =>
    clear ho0 hg0 X1 hb1
    obtain ⟨j, hj, rfl, ho, hg, hX⟩ := hrel
    by_cases hlt : j < m
    · have hw := below_own hwt hg hwt.size (fun b hb => (hv.os.lt hb).1)
      have htw := HT.out.keep hw
      obtain ⟨ad, rfl, cu0, -⟩ := (hu wr hg).get hlt
      obtain ⟨gT, rfl, ct0, ft0, -⟩ := ho.cell hlt
      rw [mixP_nth _ _ _ (by rw [HL.out]; exact hlt), if_neg (by omega)] at ct0
      obtain ⟨z0, z1⟩ := HV.out j (by rw [HL.out]; exact hlt)
      obtain ⟨y0, y1⟩ := HU.out j (by rw [HLu.out]; exact hlt)
      have hNew := Lib.hid (mixP_set v (addF p k f v u xn) (j := j) (by rw [HL.out]; exact hlt))
      have hFj : addF p k f v u xn j = sumP p k 1 (nth v j) (mulP p k f xn (nth u j)) := rfl
      obtain ⟨a1, a2⟩ := HB.out xn (nth u j)
      obtain ⟨s1, s2⟩ := HBS.out 1 (nth v j) (mulP p k f xn (nth u j))
      rw [HQ.out] at a2 s2
      obtain ⟨vn, hvn, hvn2⟩ := nat_of z0 z1
      obtain ⟨un, hun, hun2⟩ := nat_of y0 y1
      rw [hun] at a1 a2 s1 s2 cu0
      rw [hvn] at s1 s2 ct0
      obtain ⟨mn, hmn, hmn2⟩ := nat_of a1 a2
      obtain ⟨ma, mb, mm, mc, rfl, cm1, rfl, cm2⟩ := tab_get htw.mul hxn hun2
      rw [hmn] at cm2
      obtain ⟨aa, ab, am, ac, rfl, ca1, rfl, ca2⟩ := tab_get htw.add hvn2 hmn2
      rw [← hmn, ← hvn, ← hun, ← hFj] at ca2
      rw [hvn, hun] at hFj
      have hi64 : I64 (addF p k f v u xn j) := ⟨by rw [hFj]; omega, by rw [hFj]; omega⟩
      generalize addF p k f v u xn j = nw at *
      clear hFj hvn hun hmn a1 a2 s1 s2 z0 z1 y0 y1
      have x1 : wr.cell? ⟨w.heap.size, 1, none⟩ = some (.slice (some aa) am c1) := hX.cell 1
      have x3 : wr.cell? ⟨w.heap.size, 3, none⟩ = some (.slice (some ma) am c3) := hX.cell 3
      have x1d := below_cell (below_drewn wr 1) x1
      have x3d := below_cell (below_drewn wr 1) x3
      have d1 := below_cell (below_drewn wr 1) ct0
      have d2 := below_cell (below_drewn wr 1) cu0
      have d3 := below_cell (below_drewn wr 1) cm1
      have d4 := below_cell (below_drewn wr 1) cm2
      have d5 := below_cell (below_drewn wr 1) ca1
      have d6 := below_cell (below_drewn wr 1) ca2
      simp only [← World.drew_is_drewN] at x1d x3d d1 d2 d3 d4 d5 d6
      have hod := ho.below (below_drewn wr 1)
      have hgd := hg.trans (grownBy_of_below (below_drewn wr 1) (blk (some ⟨gT, 0, none⟩)))
      have hXd := hX.after (below_drewn wr 1)
      simp only [← World.drew_is_drewN] at hod hgd hXd
      have ft1 : wr.drew.frozen? ⟨gT, j, none⟩ = false := ft0
      clear hX htw hw ho hg ca1 ca2 cm1 cm2 ct0 x1 x3
      go_wp2
      clear cu0
      refine region_last (P := Tryz.prog) (S := fun w' => w'.cell? ⟨w.heap.size, 1, none⟩ = some (.slice (some aa) am c1) ∧ w'.cell? ⟨w.heap.size, 3, none⟩ = some (.slice (some ma) am c3) ∧ w'.cell? ⟨gT, j, none⟩ = some (.int .i64 vn) ∧ w'.cell? (ma.add xn) = some (.slice (some mb) am mc) ∧ w'.cell? (mb.add un) = some (.int .i64 mn) ∧ w'.cell? (aa.add vn) = some (.slice (some ab) am ac) ∧ w'.cell? (ab.add mn) = some (.int .i64 nw)) (by kernel_rfl) (by simp only [List.getLast?_cons_cons, List.getLast?_singleton]; rfl) (by dsimp only [List.dropLast]) (by kernel_rfl) ⟨x1d, x3d, d1, d3, d4, d5, d6⟩ ?_
      intro hS
      refine wpAnyH_take (i := 0) (v := ?_) rfl (by kernel_rfl) (by kernel_rfl) (by kernel_rfl) (fun _ _ _ h => h) (Or.inl ⟨by rfl, ?_⟩) (by assumption) ?_
      rotate_left
      · (intro w hSw; (try dsimp only at hSw); go_simp; (try with_reducible rfl))
      simp only [Act.put, List.setIfInBounds_toArray, List.set_cons_zero, List.set_cons_succ]
      refine wpAnyH_take (i := 1) (v := ?_) rfl (by kernel_rfl) (by kernel_rfl) (by kernel_rfl) (fun _ _ _ h => h) (Or.inl ⟨by rfl, ?_⟩) (by assumption) ?_
      rotate_left
      · (intro w hSw; (try dsimp only at hSw); go_simp; (try with_reducible rfl))
      simp only [Act.put, List.setIfInBounds_toArray, List.set_cons_zero, List.set_cons_succ]
      refine wpAnyH_take (i := 2) (v := ?_) rfl (by kernel_rfl) (by kernel_rfl) (by kernel_rfl) (fun _ _ _ h => h) (Or.inl ⟨by rfl, ?_⟩) (by assumption) ?_
      rotate_left
      · (intro w hSw; (try dsimp only at hSw); go_simp; (try with_reducible rfl))
      simp only [Act.put, List.setIfInBounds_toArray, List.set_cons_zero, List.set_cons_succ]
      refine wpAnyH_take (i := 3) (v := ?_) rfl (by kernel_rfl) (by kernel_rfl) (by kernel_rfl) (fun _ _ _ h => h) (Or.inl ⟨by rfl, ?_⟩) (by assumption) ?_
      rotate_left
      · (intro w hSw; (try dsimp only at hSw); go_simp; (try with_reducible rfl))
      simp only [Act.put, List.setIfInBounds_toArray, List.set_cons_zero, List.set_cons_succ]
      refine wpAnyH_take (i := 4) (v := ?_) rfl (by kernel_rfl) (by kernel_rfl) (by kernel_rfl) (fun _ _ _ h => h) (Or.inl ⟨by rfl, ?_⟩) (by assumption) ?_
      rotate_left
      · (intro w hSw; (try dsimp only at hSw); go_simp; (try with_reducible rfl))
      simp only [Act.put, List.setIfInBounds_toArray, List.set_cons_zero, List.set_cons_succ]
      refine wpAnyH_take (i := 5) (v := ?_) rfl (by kernel_rfl) (by kernel_rfl) (by kernel_rfl) (fun _ _ _ h => h) (Or.inl ⟨by rfl, ?_⟩) (by assumption) ?_
      rotate_left
      · (intro w hSw; (try dsimp only at hSw); go_simp; (try with_reducible rfl))
      simp only [Act.put, List.setIfInBounds_toArray, List.set_cons_zero, List.set_cons_succ]
      refine wpAnyH_take (i := 6) (v := ?_) rfl (by kernel_rfl) (by kernel_rfl) (by kernel_rfl) (fun _ _ _ h => h) (Or.inl ⟨by rfl, ?_⟩) (by assumption) ?_
      rotate_left
      · (intro w hSw; (try dsimp only at hSw); go_simp; (try with_reducible rfl))
      simp only [Act.put, List.setIfInBounds_toArray, List.set_cons_zero, List.set_cons_succ]
      refine wpAnyH_take (i := 7) (v := ?_) rfl (by kernel_rfl) (by kernel_rfl) (by kernel_rfl) (fun _ _ _ h => h) (Or.inl ⟨by rfl, ?_⟩) (by assumption) ?_
      rotate_left
      · (intro w hSw; (try dsimp only at hSw); go_simp; (try with_reducible rfl))
      simp only [Act.put, List.setIfInBounds_toArray, List.set_cons_zero, List.set_cons_succ]
      refine wpAnyH_take (i := 8) (v := ?_) rfl (by kernel_rfl) (by kernel_rfl) (by kernel_rfl) (fun _ _ _ h => h) (Or.inl ⟨by rfl, ?_⟩) (by assumption) ?_
      rotate_left
      · (intro w hSw; (try dsimp only at hSw); go_simp; (try with_reducible rfl))
      simp only [Act.put, List.setIfInBounds_toArray, List.set_cons_zero, List.set_cons_succ]
      refine wpAnyH_take (i := 9) (v := ?_) rfl (by kernel_rfl) (by kernel_rfl) (by kernel_rfl) (fun _ _ _ h => h) (Or.inl ⟨by rfl, ?_⟩) (by assumption) ?_
      rotate_left
      · (intro w hSw; (try dsimp only at hSw); go_simp; (try with_reducible rfl))
      simp only [Act.put, List.setIfInBounds_toArray, List.set_cons_zero, List.set_cons_succ]
      refine wpAnyH_take (i := 10) (v := ?_) rfl (by kernel_rfl) (by kernel_rfl) (by kernel_rfl) (fun _ _ _ h => h) (Or.inl ⟨by rfl, ?_⟩) (by assumption) ?_
      rotate_left
      · (intro w hSw; (try dsimp only at hSw); go_simp; (try with_reducible rfl))
      simp only [Act.put, List.setIfInBounds_toArray, List.set_cons_zero, List.set_cons_succ]
      refine wpAnyH_take (i := 11) (v := ?_) rfl (by kernel_rfl) (by kernel_rfl) (by kernel_rfl) (fun _ _ _ h => h) (Or.inl ⟨by rfl, ?_⟩) (by assumption) ?_
      rotate_left
      · (intro w hSw; (try dsimp only at hSw); go_simp; (try with_reducible rfl))
      simp only [Act.put, List.setIfInBounds_toArray, List.set_cons_zero, List.set_cons_succ]
      refine wpAnyH_take (i := 12) (v := ?_) rfl (by kernel_rfl) (by kernel_rfl) (by kernel_rfl) (fun _ _ _ h => h) (Or.inl ⟨by rfl, ?_⟩) (by assumption) ?_
      rotate_left
      · (intro w hSw; (try dsimp only at hSw); go_simp; (try with_reducible rfl))
      simp only [Act.put, List.setIfInBounds_toArray, List.set_cons_zero, List.set_cons_succ]
      refine wpAnyH_take (i := 13) (v := ?_) rfl (by kernel_rfl) (by kernel_rfl) (by kernel_rfl) (fun _ _ _ h => h) (Or.inl ⟨by rfl, ?_⟩) (by assumption) ?_
      rotate_left
      · (intro w hSw; (try dsimp only at hSw); go_simp; (try with_reducible rfl))
      simp only [Act.put, List.setIfInBounds_toArray, List.set_cons_zero, List.set_cons_succ]
      refine wpAnyH_take (i := 14) (v := ?_) rfl (by kernel_rfl) (by kernel_rfl) (by kernel_rfl) (fun _ _ _ h => h) (Or.inl ⟨by rfl, ?_⟩) (by assumption) ?_
      rotate_left
      · (intro w hSw; (try dsimp only at hSw); go_simp; (try with_reducible rfl))
      simp only [Act.put, List.setIfInBounds_toArray, List.set_cons_zero, List.set_cons_succ]
      refine wpAnyH_take (i := 15) (v := ?_) rfl (by kernel_rfl) (by kernel_rfl) (by kernel_rfl) (fun _ _ _ h => h) (Or.inl ⟨by rfl, ?_⟩) (by assumption) ?_
      rotate_left
      · (intro w hSw; (try dsimp only at hSw); go_simp; (try with_reducible rfl))
      simp only [Act.put, List.setIfInBounds_toArray, List.set_cons_zero, List.set_cons_succ]
      refine wpAnyH_take (i := 16) (v := ?_) rfl (by kernel_rfl) (by kernel_rfl) (by kernel_rfl) (fun _ _ _ h => h) (Or.inl ⟨by rfl, ?_⟩) (by assumption) ?_
      rotate_left
      · (intro w hSw; (try dsimp only at hSw); go_simp; (try with_reducible rfl))
      simp only [Act.put, List.setIfInBounds_toArray, List.set_cons_zero, List.set_cons_succ]
      refine wpAnyH_take (i := 17) (v := ?_) rfl (by kernel_rfl) (by kernel_rfl) (by kernel_rfl) (fun _ _ _ h => h) (Or.inl ⟨by rfl, ?_⟩) (by assumption) ?_
      rotate_left
      · (intro w hSw; (try dsimp only at hSw); go_simp; (try with_reducible rfl))
      simp only [Act.put, List.setIfInBounds_toArray, List.set_cons_zero, List.set_cons_succ]
      refine wpAnyH_take (i := 18) (v := ?_) rfl (by kernel_rfl) (by kernel_rfl) (by kernel_rfl) (fun _ _ _ h => h) (Or.inl ⟨by rfl, ?_⟩) (by assumption) ?_
      rotate_left
      · (intro w hSw; (try dsimp only at hSw); go_simp; (try with_reducible rfl))
      simp only [Act.put, List.setIfInBounds_toArray, List.set_cons_zero, List.set_cons_succ]
      refine wpAnyH_take (i := 19) (v := ?_) rfl (by kernel_rfl) (by kernel_rfl) (by kernel_rfl) (fun _ _ _ h => h) (Or.inl ⟨by rfl, ?_⟩) (by assumption) ?_
      rotate_left
      · (intro w hSw; (try dsimp only at hSw); go_simp; (try with_reducible rfl))
      simp only [Act.put, List.setIfInBounds_toArray, List.set_cons_zero, List.set_cons_succ]
      refine wpAnyH_take (i := 20) (v := ?_) rfl (by kernel_rfl) (by kernel_rfl) (by kernel_rfl) (fun _ _ _ h => h) (Or.inl ⟨by rfl, ?_⟩) (by assumption) ?_
      rotate_left
      · (intro w hSw; (try dsimp only at hSw); go_simp; (try with_reducible rfl))
      simp only [Act.put, List.setIfInBounds_toArray, List.set_cons_zero, List.set_cons_succ]
      simp only [List.getElem_toArray, List.getElem_cons_succ, List.getElem_cons_zero]
      refine wpAnyH_done (by kernel_rfl) ?_ _
      dsimp only [atEnd]
      clear hS d2 d3 d4 d5 d6 x1d x3d
      generalize wr.drew = W at *
      have hset := hod.set j hi64
      rw [hNew.out] at hset
      have hge := hgd.trans (grown_set (w := W) (g := gT) (p := j) (u := .int .i64 nw))
      have hXe := hXd.grown (grown_set (w := W) (g := gT) (p := j) (u := .int .i64 nw)) (fun e => by injection e with e; have := (hv.os.lt (k := gT) rfl).2; omega)
      go_wp2
      go_roundw
      case rel => exact ⟨j + 1, by omega, by go_num, hset, hge, hXe⟩
      case measure => simp [intOf]; omega
    · obtain rfl : m = j := by omega
      go_wp2
      go_end0
      exact ⟨rfl, ho, hg⟩
def encW (p : Int) (k : Nat) (f : List Int) (m : Nat) (rows : List (List Int)) (z : List Int) : Nat → List Int
  | 0 => List.replicate m 0
  | j + 1 => plusR p k (encW p k f m rows z j) (scaleR p k f (nth z j) (row rows j))
theorem encW_len (p : Int) (k : Nat) (f : List Int) (m : Nat) (rows : List (List Int)) (z : List Int) (j : Nat) : (encW p k f m rows z j).length = m := by
  induction j with
  | zero => simp [encW]
  | succ j ih => rw [encW, plusR_len, ih]
theorem VecQ.enc {p : Int} (h0 : 0 < p) (k : Nat) (f : List Int) (m : Nat) (rows : List (List Int)) (z : List Int) (j : Nat) : VecQ (p ^ k) (encW p k f m rows z j) := by
  cases j with
  | zero =>
    intro i hi
    unfold encW at hi ⊢
    rw [nth_get hi, List.getElem_replicate]
    exact ⟨Int.le_refl _, Int.pow_pos h0⟩
  | succ j => exact VecQ.plus h0 k _ _
theorem mix_plus {p : Int} {k : Nat} {f v u : List Int} {x : Int} {m : Nat} (hv : v.length = m) (hu : u.length = m) : mixP v (addF p k f v u x) m = plusR p k v (scaleR p k f x u) := by
  refine nth_ext (by rw [mixP_len, plusR_len]) fun i hi => ?_
  rw [mixP_len] at hi
  rw [mixP_nth _ _ _ hi, if_pos (by omega), plusR_nth _ _ _ _ hi]
  unfold addF scaleR
  rw [nth_get (zs := u.map _) (by simpa using (by omega : i < u.length)), List.getElem_map, ← nth_get, mulP_comm]
theorem divN_next (a p : Int) (j : Nat) : divN a p (j + 1) = divN (a / p) p j := by
  induction j with
  | zero => rfl
  | succ j ih => rw [divN, ih]; rfl
theorem encW_same {p : Int} {k : Nat} {f : List Int} {m : Nat} {rows : List (List Int)} {z y : List Int} {j : Nat} (h : ∀ i, i < j → nth z i = nth y i) : encW p k f m rows z j = encW p k f m rows y j := by
  induction j with
  | zero => rfl
  | succ j ih => rw [encW, encW, ih (fun i hi => h i (by omega)), h j (by omega)]
theorem enc_word {p : Int} {k : Nat} {f : List Int} {q : Nat} {m : Nat} {rows : List (List Int)} (hq : 0 < q) : ∀ j i, i < q ^ j → encW p k f m rows (revL (digsP i q j)) j = row (wordsTo p k f q m rows j) i := by
  intro j
  induction j with
  | zero =>
    intro i hi
    obtain rfl : i = 0 := by simpa using hi
    rfl
  | succ j ih =>
    intro i hi
    have hd : i / q < q ^ j := by
      rw [Nat.div_lt_iff_lt_mul hq]
      rwa [Nat.pow_succ] at hi
    have hmod := Nat.mod_lt i hq
    have hrow := flatMap_row (L := wordsTo p k f q m rows j) (F := fun w => sumsR p k f q (row rows j) w) (q := q) (fun w => sumsR_len p k f q _ w) (i := i / q) (x := i % q) (by rw [wordsTo_len]; exact hd) hmod
    rw [show i / q * q + i % q = i from by rw [Nat.mul_comm]; exact Nat.div_add_mod i q] at hrow
    rw [show wordsTo p k f q m rows (j + 1) = (wordsTo p k f q m rows j).flatMap fun w => sumsR p k f q (row rows j) w from rfl, hrow, sumsR_row _ _ _ _ _ hmod, ← ih _ hd, encW]
    have hl : ∀ (a : Int) (t : Nat), (digsP a q t).length = t := fun a t => digs_len a q t
    have e1 : nth (revL (digsP i q (j + 1))) j = ((i % q : Nat) : Int) := by
      rw [revL_nth _ (by rw [hl]; omega), hl, digs_nth, if_pos (by omega), show j + 1 - 1 - j = 0 by omega]
      rfl
    rw [e1]
    congr 1
    refine encW_same fun t ht => ?_
    rw [revL_nth _ (by rw [hl]; omega), revL_nth _ (by rw [hl]; omega), hl, hl, digs_nth, digs_nth, if_pos (by omega), if_pos (by omega), show j + 1 - 1 - t = (j - 1 - t) + 1 by omega, divN_next]
    rfl
set_option maxRecDepth 100000 in
set_option maxHeartbeats 2000000 in
theorem encode_any (p : Int) (k : Nat) (f : List Int) (q : Nat) (A1 A2 A3 A4 : Option Addr) (c1 c2 c3 c4 : Nat) (wt w : World) (hq : p ^ k = (q : Int)) (hp : 0 < p) (hq64 : q ≤ 64) (ht : TabA wt p k f q A1 A2 A3 A4) (hwt : Below wt.heap.size wt w)
    (M : Option Addr) (r rc m : Nat) (rows : List (List Int)) (hr : RR wt M r rows) (hm : MatQ (p ^ k) m rows) (hr1 : 1 ≤ r) (hr8 : r ≤ 8) (hm32 : m ≤ 32) (Z : Option Addr) (cz : Nat) (z : List Int) (hz : RI w Z r z) (hzq : ∀ i, i < r → 0 ≤ nth z i ∧ nth z i < q) :
    Calls Tryz.prog 112 #[.agg #[.int .i64 q, .slice A1 q c1, .slice A2 q c2, .slice A3 q c3, .slice A4 q c4], .slice M r rc, .slice Z r cz] w (RetI w 2 (encW p k f m rows z r)) := by
  have HL := Lib.hid hr.len
  have HM := Lib.hid hm
  have HQ := Lib.hid hq
  have HZ := Lib.hid hzq
  have HV := Lib.hid (fun j => VecQ.enc (p := p) hp k f m rows z j)
  have HE := Lib.hid (fun j => encW_len p k f m rows z j)
  have hb1 := below_alloc w (.cells #[.int .i64 q, .slice A1 q c1, .slice A2 q c2, .slice A3 q c3, .slice A4 q c4] 146)
  have X1 := Blk.new w 146 #[.int .i64 q, .slice A1 q c1, .slice A2 q c2, .slice A3 q c3, .slice A4 q c4]
  obtain ⟨ad, Z0, mz, c0, rfl, hc0, hz1, hz2, hrz⟩ := (hr.keep (hwt.trans (hb1.mono hwt.size))).get (k := 0) (by omega)
  obtain rfl : mz = m := by rw [← hrz.len]; exact (hm 0 (by rw [HL.out]; omega)).1
  have hmk := run_make_row' (P := Tryz.prog) 22 2 (.int .i64 0) 8 Tryz.underlying22 int_info rfl .i64 .i64 mz (by omega) (by omega)
  have hc0' : (w.alloc (.cells #[.int .i64 q, .slice A1 q c1, .slice A2 q c2, .slice A3 q c3, .slice A4 q c4] 146)).cell? ad = some (.slice Z0 mz c0) := hc0
  have ho0 := OI.made (w.alloc (.cells #[.int .i64 q, .slice A1 q c1, .slice A2 q c2, .slice A3 q c3, .slice A4 q c4] 146)) w.heap.size 2 mz (by simp) (by omega)
  have hb2 := hb1.alloc (by simp) (.cells (madeCells #[.int .i64 0] mz) 2)
  have X2 := X1.alloc (.cells (madeCells #[.int .i64 0] mz) 2)
  clear hrz hc0 hm hzq
  have HT := Lib.hid (ht.keep hwt)
  have HR := Lib.hid (hr.keep hwt)
  have h00 : OI ((w.alloc (.cells #[.int .i64 q, .slice A1 q c1, .slice A2 q c2, .slice A3 q c3, .slice A4 q c4] 146)).alloc (.cells (madeCells #[.int .i64 0] mz) 2)) w.heap.size 2 (some ⟨w.heap.size + 1, 0, none⟩) mz mz (encW p k f mz rows z 0) := by
    have := ho0
    rw [show (w.alloc (.cells #[.int .i64 q, .slice A1 q c1, .slice A2 q c2, .slice A3 q c3, .slice A4 q c4] 146)).heap.size = w.heap.size + 1 by simp] at this
    exact this
  go_enter Tryz.func112, Tryz.ntmps112
  go_wp2
  clear hmk hc0' ho0 hb1 X1 ht hr
  generalize hW2 : (w.alloc (.cells #[.int .i64 q, .slice A1 q c1, .slice A2 q c2, .slice A3 q c3, .slice A4 q c4] 146)).alloc (.cells (madeCells #[.int .i64 0] mz) 2) = W2 at *
  clear hW2
  generalize hgT : w.heap.size + 1 = gT at *
  have HGT := Lib.hid (show w.heap.size < gT by omega)
  clear hgT
  go_loopw [8, 9, 17] (fun _ _ i wr => ∃ j : Nat, j ≤ r ∧ i = .int .i64 j ∧ OI wr w.heap.size 2 (some ⟨gT, 0, none⟩) mz mz (encW p k f mz rows z j) ∧ Below w.heap.size w wr ∧ Blk wr w.heap.size 146 #[.int .i64 q, .slice A1 q c1, .slice A2 q c2, .slice A3 q c3, .slice A4 q c4]) (fun _ _ i _ => r - (intOf i).toNat)
  case atStart => exact ⟨0, Nat.zero_le _, rfl, h00, hb2, X2⟩
  case round =>
    clear h00 hb2 X2
    obtain ⟨j, hj, rfl, ho, hb, X⟩ := hrel
    by_cases hlt : j < r
    · obtain ⟨az, hZ, hcz, hiz⟩ := (hz.keep hb).get hlt
      obtain rfl := hZ
      obtain ⟨ad', U, mj, cj, had, hcj, hj1, hj2, hrj⟩ := HR.out.get hlt
      cases had
      obtain ⟨hjl, hjq⟩ := HM.out j (by rw [HL.out]; exact hlt)
      obtain rfl : mj = mz := by rw [← hrj.len]; exact hjl
      have hst := Lib.hid (show encW p k f mj rows z (j + 1) = mixP (encW p k f mj rows z j) (addF p k f (encW p k f mj rows z j) (row rows j) (nth z j)) mj from by rw [mix_plus (HE.out j) hjl]; rfl)
      have hbd := hb.trans (below_drewn' _ wr 1)
      have hod := ho.below (below_drewn wr 1)
      have hXd := X.after (below_drewn wr 1)
      simp only [← World.drew_is_drewN] at hbd hod hXd
      rw [HQ.out] at hjq
      have hvq := HV.out j
      rw [HQ.out] at hvq
      have hadd := addTimes_gen p k f q A1 A2 A3 A4 c1 c2 c3 c4 w wr.drew HQ.out hp hq64 HT.out hbd (some ⟨gT, 0, none⟩) U mj mj cj (encW p k f mj rows z j) (row rows j) (nth z j) hod hjl (fun wr' hg => hrj.keep (below_own hbd hg hbd.size (fun b hb => (hod.os.lt hb).1))) hvq hjq (HZ.out j hlt) (by omega)
      rw [← hst.out] at hadd
      have y0 : wr.drew.cell? ⟨w.heap.size, 0, none⟩ = some (.int .i64 q) := hXd.cell 0
      have y1 : wr.drew.cell? ⟨w.heap.size, 1, none⟩ = some (.slice A1 q c1) := hXd.cell 1
      have y2 : wr.drew.cell? ⟨w.heap.size, 2, none⟩ = some (.slice A2 q c2) := hXd.cell 2
      have y3 : wr.drew.cell? ⟨w.heap.size, 3, none⟩ = some (.slice A3 q c3) := hXd.cell 3
      have y4 : wr.drew.cell? ⟨w.heap.size, 4, none⟩ = some (.slice A4 q c4) := hXd.cell 4
      have yj : wr.drew.cell? (ad.add j) = some (.slice U mj cj) := below_cell hbd hcj
      generalize nth z j = x at *
      clear hjq hvq hjl hrj ho hod X
      go_wp2
      clear hcz
      refine region_lastD (P := Tryz.prog) (S := fun w' => w'.cell? ⟨w.heap.size, 0, none⟩ = some (.int .i64 q) ∧ w'.cell? ⟨w.heap.size, 1, none⟩ = some (.slice A1 q c1) ∧ w'.cell? ⟨w.heap.size, 2, none⟩ = some (.slice A2 q c2) ∧ w'.cell? ⟨w.heap.size, 3, none⟩ = some (.slice A3 q c3) ∧ w'.cell? ⟨w.heap.size, 4, none⟩ = some (.slice A4 q c4) ∧ w'.cell? (ad.add j) = some (.slice U mj cj)) (by kernel_rfl) (by simp only [List.getLast?_cons_cons, List.getLast?_singleton]; rfl) (by dsimp only [List.dropLast]) (by kernel_rfl) ⟨y0, y1, y2, y3, y4, yj⟩ ?_
      intro hS
      refine wpAnyH_take (i := 0) (v := ?_) rfl (by kernel_rfl) (by kernel_rfl) (by kernel_rfl) (fun _ _ _ h => h) (Or.inl ⟨by rfl, ?_⟩) (by assumption) ?_
      rotate_left
      · (intro w hSw; (try dsimp only at hSw); go_simp; (try with_reducible rfl))
      simp only [Act.put, List.setIfInBounds_toArray, List.set_cons_zero, List.set_cons_succ]
      refine wpAnyH_take (i := 1) (v := ?_) rfl (by kernel_rfl) (by kernel_rfl) (by kernel_rfl) (fun _ _ _ h => h) (Or.inl ⟨by rfl, ?_⟩) (by assumption) ?_
      rotate_left
      · (intro w hSw; (try dsimp only at hSw); go_simp; (try with_reducible rfl))
      simp only [Act.put, List.setIfInBounds_toArray, List.set_cons_zero, List.set_cons_succ]
      refine wpAnyH_take (i := 2) (v := ?_) rfl (by kernel_rfl) (by kernel_rfl) (by kernel_rfl) (fun _ _ _ h => h) (Or.inl ⟨by rfl, ?_⟩) (by assumption) ?_
      rotate_left
      · (intro w hSw; (try dsimp only at hSw); go_simp; (try with_reducible rfl))
      simp only [Act.put, List.setIfInBounds_toArray, List.set_cons_zero, List.set_cons_succ]
      refine wpAnyH_take (i := 3) (v := ?_) rfl (by kernel_rfl) (by kernel_rfl) (by kernel_rfl) (fun _ _ _ h => h) (Or.inl ⟨by rfl, ?_⟩) (by assumption) ?_
      rotate_left
      · (intro w hSw; (try dsimp only at hSw); go_simp; (try with_reducible rfl))
      simp only [Act.put, List.setIfInBounds_toArray, List.set_cons_zero, List.set_cons_succ]
      refine wpAnyH_take (i := 4) (v := ?_) rfl (by kernel_rfl) (by kernel_rfl) (by kernel_rfl) (fun _ _ _ h => h) (Or.inl ⟨by rfl, ?_⟩) (by assumption) ?_
      rotate_left
      · (intro w hSw; (try dsimp only at hSw); go_simp; (try with_reducible rfl))
      simp only [Act.put, List.setIfInBounds_toArray, List.set_cons_zero, List.set_cons_succ]
      refine wpAnyH_take (i := 5) (v := ?_) rfl (by kernel_rfl) (by kernel_rfl) (by kernel_rfl) (fun _ _ _ h => h) (Or.inl ⟨by rfl, ?_⟩) (by assumption) ?_
      rotate_left
      · (intro w hSw; (try dsimp only at hSw); go_simp; (try with_reducible rfl))
      simp only [Act.put, List.setIfInBounds_toArray, List.set_cons_zero, List.set_cons_succ]
      refine wpAnyH_take (i := 6) (v := ?_) rfl (by kernel_rfl) (by kernel_rfl) (by kernel_rfl) (fun _ _ _ h => h) (Or.inl ⟨by rfl, ?_⟩) (by assumption) ?_
      rotate_left
      · (intro w hSw; (try dsimp only at hSw); go_simp; (try with_reducible rfl))
      simp only [Act.put, List.setIfInBounds_toArray, List.set_cons_zero, List.set_cons_succ]
      simp only [List.getElem_toArray, List.getElem_cons_succ, List.getElem_cons_zero]
      refine wpAnyH_done (by kernel_rfl) ?_ _
      dsimp only [atEnd]
      clear hS y0 y1 y2 y3 y4 yj
      go_wp2_with (go_at_call 158; refine hadd.mono ?_; rintro e w8 ⟨rfl, ho8, hg8⟩)
      have hne : some w.heap.size ≠ blk (some (⟨gT, 0, none⟩ : Addr)) := fun e => by
        have e' : w.heap.size = gT := by simpa [blk] using e
        have := HGT.out
        omega
      have hX8 := hXd.grown hg8 hne
      clear hne
      have hb8 := below_own hbd hg8 hbd.size (fun b hb => (ho8.os.lt hb).1)
      clear hadd hg8 hXd hbd
      go_wp2
      go_roundw
      case rel => exact ⟨j + 1, by omega, by go_num, ho8, hb8, hX8⟩
      case measure => simp [intOf]; omega
    · obtain rfl : j = r := by omega
      go_wp2
      go_ret
      exact ⟨_, _, _, rfl, ho, hb⟩
set_option maxRecDepth 100000 in
set_option maxHeartbeats 4000000 in
theorem wordsOf_any (p : Int) (k : Nat) (A : Option Addr) (n c : Nat) (f : List Int) (M : Option Addr) (r rc m : Nat) (rows : List (List Int)) (q : Nat) (w : World) (hA : RI w A n f) (hr : RR w M r rows) (hf : FldOk p k f) (hq : p ^ k = (q : Int)) (hm : MatQ (p ^ k) m rows) (hr1 : 1 ≤ r) (hr8 : r ≤ 8) (hm32 : m ≤ 32) (hw : q ^ r ≤ 4096) :
    Calls Tryz.prog 54 #[.agg #[.int .i64 p, .int .i64 k, .slice A n c, .slice M r rc]] w (fun e w' => ∃ A' n' c', e = .returned (.slice A' n' c') ∧ (n' = 0 ∨ ∃ g, A' = some ⟨g, 0, none⟩) ∧ n' ≤ c' ∧ c' ≤ 9223372036854775807 ∧ RR w' A' n' (wordsTo p k f q m rows r) ∧ Below w.heap.size w w') := by
  obtain ⟨p2, p61, k1, k6, hq64, hq2⟩ := hf.nums
  rw [hq] at hq64 hq2
  have HL := Lib.hid hr.len
  have HM := Lib.hid hm
  have HQ := Lib.hid hq
  have HP := Lib.hid (show p ^ k = (q : Int) from hq)
  have HWL := Lib.hid (wordsTo_len p k f q m rows r)
  have HEN := Lib.hid (fun i hi => enc_word (p := p) (k := k) (f := f) (q := q) (m := m) (rows := rows) (by omega) r i hi)
  have hb1 := below_alloc w (.cells #[.int .i64 p, .int .i64 k, .slice A n c, .slice M r rc] 33)
  have X := Blk.new w 33 #[.int .i64 p, .int .i64 k, .slice A n c, .slice M r rc]
  have htab := tablesOf_any p k f q A n c _ hq hf (hA.keep hb1)
  clear hm hq hf
  go_enter Tryz.func54, Tryz.ntmps54
  go_wp2_with fail
  refine htab.mono ?_
  rintro e w2 ⟨A1, A2, A3, A4, d1, d2, d3, d4, rfl, hT, hb2⟩
  have hw2 := hb1.trans (hb2.mono hb1.size)
  have hal := below_alloc w2 (.cells #[.int .i64 q, .slice A1 q d1, .slice A2 q d2, .slice A3 q d3, .slice A4 q d4] 146)
  have X3 := (X.after hb2).after hal
  have T3 := Blk.new w2 146 #[.int .i64 q, .slice A1 q d1, .slice A2 q d2, .slice A3 q d3, .slice A4 q d4]
  have hT3 := hT.keep hal
  have hw3 := hw2.trans (hal.mono hw2.size)
  have x3 := X3.cell 3
  have t0 := T3.cell 0
  clear htab hT hb2 hal hb1 X hw2
  go_wp2_with fail
  refine (sizeR_any M r rc _ (by omega)).mono ?_
  rintro e w' ⟨rfl, rfl⟩
  go_wp2_with fail
  refine (powerUpTo_any q r 4096 _ (by omega) (by omega) (by omega) (by omega) (by omega) (by omega)).mono ?_
  rintro e w' ⟨rv, rfl, hcap, rfl⟩
  have hrv : rv = ((q ^ r : Nat) : Int) := by
    rw [Int.toNat_natCast] at hcap
    rw [Int.natCast_pow]
    refine hcap.eq ?_
    rw [← Int.natCast_pow]
    exact Int.ofNat_le.2 hw
  subst hrv
  clear hcap
  obtain ⟨wn, hwn⟩ : ∃ wn, wn = q ^ r := ⟨_, rfl⟩
  rw [← hwn] at hw HWL HEN ⊢
  clear hwn
  generalize hW0 : w2.alloc (.cells #[.int .i64 q, .slice A1 q d1, .slice A2 q d2, .slice A3 q d3, .slice A4 q d4] 146) = W0 at *
  generalize hgt : w2.heap.size = gt at *
  clear hW0 hgt
  have HR := Lib.hid (hr.keep hw3)
  obtain ⟨vs0, hov0⟩ := OR.nil_ W0 W0.heap.size (e2 := 22) (e1 := 2) (by decide)
  go_wp2
  clear x3 t0
  go_loopw [5, 6, 17] (fun ws _ i wr => ∃ (t : Nat) (A5 : Option Addr) (c5 : Nat) (vs : List Sl), t ≤ wn ∧ i = .int .i64 t ∧ ws = .slice A5 t c5 ∧ ORv wr W0.heap.size 22 2 A5 t c5 vs ((wordsTo p k f q m rows r).take t) ∧ Below W0.heap.size W0 wr) (fun _ _ i _ => wn - (intOf i).toNat)
  case atStart => exact ⟨0, none, 0, vs0, Nat.zero_le _, rfl, rfl, hov0, Below.refl _ _⟩
  case round =>
    clear hov0 vs0
    obtain ⟨t, A5, c5, vs, ht, rfl, rfl, hov, hwi⟩ := hrel
    by_cases htq : t < wn
    · have hwd := hwi.trans (below_drewn' _ wr 1)
      have hod := hov.below (below_drewn wr 1)
      simp only [← World.drew_is_drewN] at hwd hod
      have Xd := X3.after hwd
      have Td := T3.after hwd
      have x3 : wr.drew.cell? ⟨w.heap.size, 3, none⟩ = some (.slice M r rc) := Xd.cell 3
      have t0 : wr.drew.cell? ⟨gt, 0, none⟩ = some (.int .i64 q) := Td.cell 0
      have t1 : wr.drew.cell? ⟨gt, 1, none⟩ = some (.slice A1 q d1) := Td.cell 1
      have t2 : wr.drew.cell? ⟨gt, 2, none⟩ = some (.slice A2 q d2) := Td.cell 2
      have t3 : wr.drew.cell? ⟨gt, 3, none⟩ = some (.slice A3 q d3) := Td.cell 3
      have t4 : wr.drew.cell? ⟨gt, 4, none⟩ = some (.slice A4 q d4) := Td.cell 4
      have HS : ∀ {V : World}, Below W0.heap.size W0 V → V.cell? ⟨w.heap.size, 3, none⟩ = some (.slice M r rc) ∧ V.cell? ⟨gt, 0, none⟩ = some (.int .i64 q) ∧ V.cell? ⟨gt, 1, none⟩ = some (.slice A1 q d1) ∧ V.cell? ⟨gt, 2, none⟩ = some (.slice A2 q d2) ∧ V.cell? ⟨gt, 3, none⟩ = some (.slice A3 q d3) ∧ V.cell? ⟨gt, 4, none⟩ = some (.slice A4 q d4) := fun hb => ⟨(X3.after hb).cell 3, (T3.after hb).cell 0, (T3.after hb).cell 1, (T3.after hb).cell 2, (T3.after hb).cell 3, (T3.after hb).cell 4⟩
      have hsz0 := hwi.size
      have htk := Lib.hid (take_rowW (L := wordsTo p k f q m rows r) (x := t) (by rw [HWL.out]; exact htq))
      rw [← HEN.out t htq] at htk
      have hhf := highFirst_any t q r wr.drew (by omega) (by omega) (by omega) (by omega) (by omega)
      have HDL := Lib.hid (show (revL (digsP t q r)).length = r by rw [revL_len, digs_len])
      have HDN := Lib.hid (show ∀ i, i < r → 0 ≤ nth (revL (digsP t q r)) i ∧ nth (revL (digsP t q r)) i < (q : Int) from fun i hi => by
        rw [revL_nth _ (by rw [digs_len]; exact hi), digs_nth, digs_len, if_pos (by omega)]
        exact ⟨Int.emod_nonneg _ (by omega), Int.emod_lt_of_pos _ (by omega)⟩)
      clear hov Xd Td
      have HWD := Lib.hid hwd
      have hsd : wr.heap.size = wr.drew.heap.size := rfl
      go_wp2
      refine region_last (P := Tryz.prog) (S := fun V => V.cell? ⟨w.heap.size, 3, none⟩ = some (.slice M r rc) ∧ V.cell? ⟨gt, 0, none⟩ = some (.int .i64 q) ∧ V.cell? ⟨gt, 1, none⟩ = some (.slice A1 q d1) ∧ V.cell? ⟨gt, 2, none⟩ = some (.slice A2 q d2) ∧ V.cell? ⟨gt, 3, none⟩ = some (.slice A3 q d3) ∧ V.cell? ⟨gt, 4, none⟩ = some (.slice A4 q d4)) (by kernel_rfl) (by simp only [List.getLast?_cons_cons, List.getLast?_singleton]; rfl) (by dsimp only [List.dropLast]) (by kernel_rfl) ⟨x3, t0, t1, t2, t3, t4⟩ ?_
      intro hS
      refine wpAnyH_take (i := 0) (v := ?_) rfl (by kernel_rfl) (by kernel_rfl) (by kernel_rfl) (fun _ _ _ h => h) (Or.inl ⟨by rfl, ?_⟩) (by assumption) ?_
      rotate_left
      · (intro w hSw; (try dsimp only at hSw); go_simp; (try with_reducible rfl))
      simp only [Act.put, List.setIfInBounds_toArray, List.set_cons_zero, List.set_cons_succ]
      refine wpAnyH_take (i := 1) (v := ?_) rfl (by kernel_rfl) (by kernel_rfl) (by kernel_rfl) (fun _ _ _ h => h) (Or.inl ⟨by rfl, ?_⟩) (by assumption) ?_
      rotate_left
      · (intro w hSw; (try dsimp only at hSw); go_simp; (try with_reducible rfl))
      simp only [Act.put, List.setIfInBounds_toArray, List.set_cons_zero, List.set_cons_succ]
      refine wpAnyH_take (i := 2) (v := ?_) rfl (by kernel_rfl) (by kernel_rfl) (by kernel_rfl) (fun _ _ _ h => h) (Or.inl ⟨by rfl, ?_⟩) (by assumption) ?_
      rotate_left
      · (intro w hSw; (try dsimp only at hSw); go_simp; (try with_reducible rfl))
      simp only [Act.put, List.setIfInBounds_toArray, List.set_cons_zero, List.set_cons_succ]
      refine wpAnyH_take (i := 3) (v := ?_) rfl (by kernel_rfl) (by kernel_rfl) (by kernel_rfl) (fun _ _ _ h => h) (Or.inl ⟨by rfl, ?_⟩) (by assumption) ?_
      rotate_left
      · (intro w hSw; (try dsimp only at hSw); go_simp; (try with_reducible rfl))
      simp only [Act.put, List.setIfInBounds_toArray, List.set_cons_zero, List.set_cons_succ]
      refine wpAnyH_take (i := 4) (v := ?_) rfl (by kernel_rfl) (by kernel_rfl) (by kernel_rfl) (fun _ _ _ h => h) (Or.inl ⟨by rfl, ?_⟩) (by assumption) ?_
      rotate_left
      · (intro w hSw; (try dsimp only at hSw); go_simp; (try with_reducible rfl))
      simp only [Act.put, List.setIfInBounds_toArray, List.set_cons_zero, List.set_cons_succ]
      refine wpAnyH_take (i := 5) (v := ?_) rfl (by kernel_rfl) (by kernel_rfl) (by kernel_rfl) (fun _ _ _ h => h) (Or.inl ⟨by rfl, ?_⟩) (by assumption) ?_
      rotate_left
      · (intro w hSw; (try dsimp only at hSw); go_simp; (try with_reducible rfl))
      simp only [Act.put, List.setIfInBounds_toArray, List.set_cons_zero, List.set_cons_succ]
      refine wpAnyH_take (i := 6) (v := ?_) rfl (by kernel_rfl) (by kernel_rfl) (by kernel_rfl) (fun _ _ _ h => h) (Or.inl ⟨by rfl, ?_⟩) (by assumption) ?_
      rotate_left
      · (intro w hSw; (try dsimp only at hSw); go_simp; (try with_reducible rfl))
      simp only [Act.put, List.setIfInBounds_toArray, List.set_cons_zero, List.set_cons_succ]
      refine wpAnyH_take (i := 7) (v := ?_) rfl (by kernel_rfl) (by kernel_rfl) (by kernel_rfl) (fun _ _ _ h => h) (Or.inl ⟨by rfl, ?_⟩) (by assumption) ?_
      rotate_left
      · (intro w hSw; (try dsimp only at hSw); go_simp; (try with_reducible rfl))
      simp only [Act.put, List.setIfInBounds_toArray, List.set_cons_zero, List.set_cons_succ]
      simp only [List.getElem_toArray, List.getElem_cons_succ, List.getElem_cons_zero]
      generalize wr.drew = V at *
      clear x3 t0 t1 t2 t3 t4 hwd hwi
      refine wpAnyH_ready (rs := [8]) (by kernel_rfl) (by simp) ?_
      refine AllReadyH.cons rfl (fun K hK => ?_) AllReadyH.nil
      go_simp
      refine hhf.mono ?_
      rintro e w4 ⟨A7, n7, c7, rfl, ho7, hb4⟩
      dsimp only
      have hw4 := HWD.out.trans (hb4.mono HWD.out.size)
      have ho4 := hod.below hb4
      have h7n : n7 = r := by rw [← ho7.len, HDL.out]
      refine hK.out _ _ (HS hw4) (fun hS2 => ?_)
      clear hK K hS
      refine wpAnyH_ready (rs := [9]) (by kernel_rfl) (by simp) ?_
      refine AllReadyH.cons rfl (fun K hK => ?_) AllReadyH.nil
      go_simp
      subst h7n
      have hen := encode_any p k f q A1 A2 A3 A4 d1 d2 d3 d4 W0 w4 HQ.out (by omega) (by omega) hT3 hw4 M n7 rc m rows HR.out HM.out hr1 hr8 hm32 A7 c7 _ ho7.reads HDN.out
      refine hen.mono ?_
      rintro e w5 ⟨A8, n8, c8, rfl, ho8, hb5⟩
      dsimp only
      have hw5 := hw4.trans (hb5.mono hw4.size)
      have ho5 := ho4.below hb5
      have hap := ho4.apart_new (v := (A8, n8, c8)) (fun b hb => (ho8.os.lt hb).1)
      refine hK.out _ _ (HS hw5) (fun hS3 => ?_)
      clear hK K hS2
      refine wpAnyH_ready (rs := [10]) (by kernel_rfl) (by simp) ?_
      refine AllReadyH.cons rfl (fun K hK => ?_) AllReadyH.nil
      go_simp
      have hba := below_alloc w5 (.cells #[.slice A8 n8 c8] 22)
      have hL6 := Blk.new w5 22 #[.slice A8 n8 c8]
      have ho6 := ho5.below hba
      have ho86 := (ho8.below hba).more hw4.size
      have hw6 := hw5.trans (hba.mono hw5.size)
      refine hK.out _ _ (HS hw6) (fun hS4 => ?_)
      clear hK K hS3
      generalize w5.alloc _ = w6 at *
      generalize w5.heap.size = g6 at *
      refine wpAnyH_ready (rs := [11]) (by kernel_rfl) (by simp) ?_
      refine AllReadyH.cons rfl (fun K hK => ?_) AllReadyH.nil
      refine step_of_list (by rfl) ?_
      refine app_rowR _ (by rfl) (.tmp 20) (.tmp 30) (by rfl) W0.heap.size A5 t c5 vs _ (by rfl) ho6 (A8, n8, c8) _ ho86 hap g6 (by rfl) (hL6.cell 0) (by omega) hw6.size ?_
      intro A9 c9 w9 ho9 hg9 hf9
      refine list_onlyK ?_
      have hw9 := below_own hw6 hg9 hw6.size (fun b hb => (ho6.os.lt hb).1)
      rw [htk.out] at ho9
      refine hK.out _ _ (HS hw9) (fun hS5 => ?_)
      clear hK K hS4
      refine wpAnyH_done (by kernel_rfl) ?_ _
      dsimp only [atEnd]
      clear hS5 hg9 hf9 ho6 ho86 hap ho5 hL6 hba ho8 hen
      go_wp2
      go_roundw
      case rel => exact ⟨t + 1, A9, c9, _, by omega, by go_num, rfl, ho9, hw9⟩
      case measure => simp [intOf]; omega
    · obtain rfl : t = wn := by omega
      have hRM : RR wr A5 t (wordsTo p k f q m rows r) := by
        have := OR.reads ⟨_, hov⟩
        rwa [List.take_of_length_le (by rw [HWL.out]; exact Nat.le_refl _)] at this
      have hcap := hov.os.cap
      have hcs : t = 0 ∨ ∃ g, A5 = some ⟨g, 0, none⟩ := by
        rcases hov.os.cases with ⟨_, hn, _⟩ | ⟨g, cur, h, _⟩
        · exact .inl hn
        · exact .inr ⟨g, h⟩
      have hwe := hw3.trans (hwi.mono hw3.size)
      clear hov
      go_wp2
      go_ret
      exact ⟨A5, t, c5, rfl, hcs, hcap.1, hcap.2, hRM, hwe⟩
def supTo (z : List Int) (k : Nat) : List Int := ((List.range k).filter fun i => nth z i != 0).map fun (i : Nat) => (i : Int)
theorem supTo_all (z : List Int) : supTo z z.length = supW z := rfl
theorem supTo_step (z : List Int) (k : Nat) : supTo z (k + 1) = supTo z k ++ (if nth z k = 0 then [] else [(k : Int)]) := by
  unfold supTo
  rw [List.range_succ, List.filter_append, List.map_append]
  by_cases h : nth z k = 0 <;> simp [h]
theorem row_drop1 {L : List (List Int)} {j : Nat} (h : j + 1 < L.length) : row (L.drop 1) j = row L (j + 1) := by
  rw [row_get (by simpa using (by omega : j < L.length - 1)), row_get h, List.getElem_drop]
  congr 1
  exact Nat.add_comm 1 j
set_option maxRecDepth 100000 in
set_option maxHeartbeats 1000000 in
theorem supportOf_any (A : Option Addr) (n c : Nat) (z : List Int) (w : World) (ha : RI w A n z) (hn : n ≤ 1048576) :
    Calls Tryz.prog 55 #[.slice A n c] w (RetI w 2 (supW z)) := by
  have HL := Lib.hid ha.len
  go_enter Tryz.func55, Tryz.ntmps55
  go_wp2
  go_loopw [3, 4, 5, 8] (fun s _ _ i wr => ∃ (k : Nat) (A2 : Option Addr) (m c2 : Nat), k ≤ n ∧ m ≤ k ∧ i = .int .i64 k ∧ s = .slice A2 m c2 ∧ OI wr w.heap.size 2 A2 m c2 (supTo z k) ∧ Below w.heap.size w wr) (fun _ _ _ i _ => n - (intOf i).toNat)
  case atStart => exact ⟨0, none, 0, 0, Nat.zero_le _, Nat.le_refl _, rfl, rfl, OI.nil_ _ _ _, Below.refl _ _⟩
  case round =>
    obtain ⟨k, A2, m, c2, hk, hm, rfl, rfl, ho, hb⟩ := hrel
    by_cases hlt : k < n
    · obtain ⟨ad, hA, hck, hik⟩ := (ha.keep hb).get hlt
      obtain rfl := hA
      have hst := Lib.hid (supTo_step z k)
      by_cases h0 : nth z k = 0
      · have HS := Lib.hid (show supTo z (k + 1) = supTo z k by rw [hst.out, if_pos h0, List.append_nil])
        rw [h0] at hck
        clear h0
        go_wp2
        go_roundw
        case rel => exact ⟨k + 1, A2, m, c2, by omega, by omega, by go_num, rfl, by rw [HS.out]; exact ho, hb⟩
        case measure => simp [intOf]; omega
      · have HS := Lib.hid (show supTo z (k + 1) = supTo z k ++ [(k : Int)] by rw [hst.out, if_neg h0])
        generalize nth z k = x at *
        have hkw : IntKind.i64.wrap (k : Int) = (k : Int) := by unfold IntKind.wrap IntKind.bits IntKind.signed; simp; omega
        go_wp2_with (at_builtin; refine app_int _ rfl _ _ rfl w.heap.size A2 m c2 _ rfl ho k _ rfl (by simp) ⟨by omega, by omega⟩ (by omega) hb.size ?_; intro A' c' w3 ho3 hg3 hn3)
        have hb3 := below_own hb hg3 hb.size (fun b hb => (ho.os.lt hb).1)
        rw [← HS.out] at ho3
        go_roundw
        case rel => exact ⟨k + 1, A', m + 1, c', by omega, by omega, by go_num, rfl, ho3, hb3⟩
        case measure => simp [intOf]; omega
    · obtain rfl : k = n := by omega
      rw [← HL.out, supTo_all] at ho
      go_wp2
      go_ret
      exact ⟨_, _, _, rfl, ho, hb⟩
theorem lengthOf_any (P D : Int) (A : Option Addr) (n c : Nat) (M : Option Addr) (r rc : Nat) (rows : List (List Int)) (w : World) (hr : RR w M r rows) (hr1 : 1 ≤ r) :
    Calls Tryz.prog 57 #[.agg #[.int .i64 P, .int .i64 D, .slice A n c, .slice M r rc]] w (fun e w' => e = .returned (.int .i64 (row rows 0).length) ∧ Below w.heap.size w w') := by
  have hb1 := below_alloc w (.cells #[.int .i64 P, .int .i64 D, .slice A n c, .slice M r rc] 33)
  have X := Blk.new w 33 #[.int .i64 P, .int .i64 D, .slice A n c, .slice M r rc]
  have x3 := X.cell 3
  obtain ⟨ad, Z, m, cz, rfl, hc0, hz1, hz2, hrz⟩ := (hr.keep hb1).get (k := 0) (by omega)
  have hc0 : (w.alloc (.cells #[.int .i64 P, .int .i64 D, .slice A n c, .slice (some ad) r rc] 33)).cell? ad = some (.slice Z m cz) := hc0
  rw [hrz.len]
  go_enter Tryz.func57, Tryz.ntmps57
  go_wp2_with (go_at_call 70; refine (sizeI_any Z m cz _ (by omega)).mono ?_; rintro e w' ⟨rfl, rfl⟩)
  go_ret
  exact ⟨rfl, hb1⟩
set_option maxRecDepth 100000 in
set_option maxHeartbeats 4000000 in
theorem codeGraph_any (P D : Int) (A : Option Addr) (n c : Nat) (f : List Int) (M : Option Addr) (r rc : Nat) (rows : List (List Int)) (w : World) (hA : RI w A n f) (hr : RR w M r rows) (hn : n ≤ 1099511627776) (hC : CodeOk P D f rows) :
    Calls Tryz.prog 17 #[.agg #[.int .i64 P, .int .i64 D, .slice A n c, .slice M r rc]] w (RetCg w (cgK P D f rows) (cgC P D f rows) (cgE P D f rows)) := by
  have hCC := hC
  obtain ⟨k, q, rfl, hf, hq, hm, r1, r8, m1, m32, hw⟩ := hCC.nums
  obtain ⟨p2, p61, k1, k6, hq64, hq2⟩ := hf.nums
  have HL := Lib.hid hr.len
  rw [HL.out] at r1 r8 hw
  have hb1 := below_then (below_alloc w (.cells #[.int .i64 P, .int .i64 k, .slice A n c, .slice M r rc] 33)) (below_alloc _ (.cells #[.slice none 0 0, .slice none 0 0] 46))
  have X := (Blk.new w 33 #[.int .i64 P, .int .i64 k, .slice A n c, .slice M r rc]).alloc (.cells #[.slice none 0 0, .slice none 0 0] 46)
  have Y : Blk ((w.alloc (.cells #[.int .i64 P, .int .i64 k, .slice A n c, .slice M r rc] 33)).alloc (.cells #[.slice none 0 0, .slice none 0 0] 46)) (w.heap.size + 1) 46 #[.slice none 0 0, .slice none 0 0] := by
    have := Blk.new (w.alloc (.cells #[.int .i64 P, .int .i64 k, .slice A n c, .slice M r rc] 33)) 46 #[.slice none 0 0, .slice none 0 0]
    simpa using this
  have hv := validCode_any P k A n c f M r rc rows _ (hA.keep hb1) ⟨by omega, by omega⟩ ⟨by omega, by omega⟩ (by omega) (hr.keep hb1) (by omega)
  rw [tB_yes hC] at hv
  have HA := Lib.hid hA
  have HR := Lib.hid hr
  have HF := Lib.hid hf
  have HM := Lib.hid hm
  have HQ := Lib.hid hq
  have HFS := Lib.hid (fun (w' : World) => fieldSize_any P k A n c w' p2 (by omega) hq64 k6)
  have HLen := Lib.hid (fun (w' : World) (h : RR w' M r rows) => lengthOf_any P k A n c M r rc rows w' h r1)
  generalize hW1 : (w.alloc (.cells #[.int .i64 P, .int .i64 k, .slice A n c, .slice M r rc] 33)).alloc (.cells #[.slice none 0 0, .slice none 0 0] 46) = W1 at *
  have x0 := X.cell 0
  have x1 := X.cell 1
  have x2 := X.cell 2
  have x3 := X.cell 3
  by_cases hq0 : q = 2
  · obtain rfl := hq0
    have hq' : P ^ k = 2 := by rw [hq]; rfl
    have HE := Lib.hid (cd_yes (f := f) (m := (row rows 0).length) (rows := rows) hq')
    have HQ2 := Lib.hid hq'
    have HWO := Lib.hid (fun (w' : World) (h1 : RI w' A n f) (h2 : RR w' M r rows) => wordsOf_any P k A n c f M r rc (row rows 0).length rows 2 w' h1 h2 hf hq hm r1 r8 m32 hw)
    have HWR := Lib.hid (fun i hi => wordsTo_row (p := P) (by omega) k f 2 (row rows 0).length rows r i hi)
    have HWL := Lib.hid (wordsTo_len P k f 2 (row rows 0).length rows r)
    have HB := Lib.hid (show cdB P k f (row rows 0).length rows = supsW (wordsTo P k f 2 (row rows 0).length rows r) by unfold cdB; rw [HL.out])
    have hr2 : 2 ^ r ≤ 256 := Nat.le_trans (Nat.pow_le_pow_right (by omega) r8) (by decide)
    have hr3 : 2 ≤ 2 ^ r := Nat.le_trans (by decide) (Nat.pow_le_pow_right (by omega) r1 : 2 ^ 1 ≤ 2 ^ r)
    have HSet := Lib.hid (supsW_sets (L := wordsTo P k f 2 (row rows 0).length rows r) (n := (row rows 0).length) (fun i hi => (HWR.out i (by rw [← HWL.out]; exact hi)).1) m32 (by rw [HWL.out]; omega))
    rw [HB.out] at HE
    clear hf hq hm hq' hC hCC hw hq64 hq2
    go_enter Tryz.func17, Tryz.ntmps17
    go_wp2_with fail
    clear x0 x1 x2 x3
    refine hv.mono ?_
    rintro e w2 ⟨rfl, hb2⟩
    have hw2 := hb1.trans (hb2.mono hb1.size)
    have X2 := X.after hb2
    have Y2 := Y.after hb2
    have x0 := X2.cell 0
    have x1 := X2.cell 1
    have x2 := X2.cell 2
    clear hv hb1 hb2 X Y
    go_wp2_with fail
    clear x0 x1 x2
    refine (HFS.out w2).mono ?_
    rintro e w3 ⟨rfl, hb3⟩
    rw [HQ2.out]
    have hw3 := hw2.trans (hb3.mono hw2.size)
    have X3 := X2.after hb3
    have Y3 := Y2.after hb3
    have x0 := X3.cell 0
    have x1 := X3.cell 1
    have x2 := X3.cell 2
    have x3 := X3.cell 3
    clear hw2 hb3 X2 Y2
    go_wp2_with fail
    clear x0 x1 x2 x3
    refine (HWO.out w3 (HA.out.keep hw3) (HR.out.keep hw3)).mono ?_
    rintro e w4 ⟨A4, n4, c4, rfl, hA4, hnc, hcx, hRW, hb4⟩
    have hw4 := hw3.trans (hb4.mono hw3.size)
    have X4 := X3.after hb4
    have Y4 := Y3.after hb4
    clear hw3 hb4 X3 Y3
    have HN4 := Lib.hid (show n4 = 2 ^ r by rw [← hRW.len]; exact HWL.out)
    have h41 : n4 ≤ 256 := by rw [HN4.out]; exact hr2
    have h42 : 2 ≤ n4 := by rw [HN4.out]; exact hr3
    have hc41 : ¬ c4 = 1 := by omega
    obtain ⟨g4, hA4⟩ : ∃ g, A4 = some ⟨g, 0, none⟩ := by
      rcases hA4 with h | h
      · omega
      · exact h
    obtain rfl := hA4
    have hd := hRW.drop_ (k := 1) (by omega)
    rw [Addr.add_lit, Nat.zero_add] at hd
    clear hr2 hr3
    go_wp2
    obtain ⟨nb, hnb⟩ : ∃ nb, nb = n4 - 1 := ⟨_, rfl⟩
    have hn1 : nb + 1 ≤ n4 := by omega
    have hn2 : n4 ≤ nb + 1 := by omega
    rw [← hnb] at hd
    try rw [← hnb]
    clear hnb
    have HD := Lib.hid hd
    have HSL := Lib.hid (show (supsW (wordsTo P k f 2 (row rows 0).length rows r)).length = nb by rw [supsW_len, HWL.out, ← HN4.out]; omega)
    obtain ⟨vs0, hov0⟩ := OR.nil_ w4 w4.heap.size (e2 := 22) (e1 := 2) (by decide)
    go_loopw [4, 6, 20] (fun ws _ i wr => ∃ (t : Nat) (A5 : Option Addr) (c5 : Nat) (vs : List Sl), t ≤ nb ∧ i = .int .i64 t ∧ ws = .slice A5 t c5 ∧ ORv wr w4.heap.size 22 2 A5 t c5 vs ((supsW (wordsTo P k f 2 (row rows 0).length rows r)).take t) ∧ Below w4.heap.size w4 wr) (fun _ _ i _ => nb - (intOf i).toNat)
    case atStart => exact ⟨0, none, 0, vs0, Nat.zero_le _, rfl, rfl, hov0, Below.refl _ _⟩
    case round =>
      clear hov0 vs0 hd
      obtain ⟨t, A5, c5, vs, ht, rfl, rfl, hov, hwi⟩ := hrel
      by_cases htq : t < nb
      · obtain ⟨a1, A6, n6, c6, hA6, hca, hn6, hc6, ha6⟩ := (HD.out.keep hwi).get htq
        injection hA6 with hA6
        subst hA6
        rw [Addr.add_lit] at hca
        have hlt2 : t + 1 < (wordsTo P k f 2 (row rows 0).length rows r).length := by rw [HWL.out, ← HN4.out]; omega
        obtain ⟨hl6, -⟩ := HWR.out (t + 1) (by rw [← HN4.out]; omega)
        rw [row_drop1 hlt2] at ha6
        have h6n : n6 ≤ 32 := by rw [← ha6.len, hl6]; exact m32
        have hst := take_rowW (L := supsW (wordsTo P k f 2 (row rows 0).length rows r)) (x := t) (by rw [HSL.out]; exact htq)
        rw [supsW_row hlt2] at hst
        have hst := Lib.hid hst
        clear hl6 hlt2
        generalize row (wordsTo P k f 2 (row rows 0).length rows r) (t + 1) = z at *
        go_wp2_with fail
        refine (supportOf_any A6 n6 c6 z wr ha6 (by omega)).mono ?_
        rintro e w5 ⟨A7, n7, c7, rfl, ho7, hb5⟩
        have ho5 := hov.below hb5
        have hw5 := hwi.trans (hb5.mono hwi.size)
        have hap := hov.apart_new (v := (A7, n7, c7)) (fun b hb => (ho7.os.lt hb).1)
        have ho7' := ho7.more hwi.size
        clear hca ha6 hov ho7
        go_wp2_with (at_builtin; refine app_row _ rfl (.tmp 24) (.tmp 27) rfl w4.heap.size A5 t c5 vs _ rfl ho5 (A7, n7, c7) (supW z) ho7' hap _ rfl (by simp) (by omega) hw5.size ?_; intro A' c' w8 ho8 hg8 hn8)
        have hw8 := below_own hw5 hg8 hw5.size (fun b hb => (ho5.os.lt hb).1)
        rw [hst.out] at ho8
        go_roundw
        case rel => exact ⟨t + 1, A', c', _, by omega, by go_num, rfl, ho8, hw8⟩
        case measure => simp [intOf]; omega
      · obtain rfl : t = nb := by omega
        have hRS : RR wr A5 t (supsW (wordsTo P k f 2 (row rows 0).length rows r)) := by
          have := OR.reads ⟨_, hov⟩
          rwa [List.take_of_length_le (by rw [HSL.out]; exact Nat.le_refl _)] at this
        have hwe := hw4.trans (hwi.mono hw4.size)
        have X5 := X4.after hwi
        have Y5 := Y4.after hwi
        have x0 := X5.cell 0
        have x1 := X5.cell 1
        have x2 := X5.cell 2
        have x3 := X5.cell 3
        have hlen := HLen.out wr (HR.out.keep hwe)
        clear hov X4 Y4
        go_wp2_with fail
        clear x0 x1 x2 x3
        refine hlen.mono ?_
        rintro e w6 ⟨rfl, hb6⟩
        have hw6 := hwe.trans (hb6.mono hwe.size)
        have Y6 := Y5.after hb6
        have hset := setGraph_any (row rows 0).length A5 t c5 _ w6 (hRS.keep hb6) HSet.out
        clear hlen X5 Y5
        go_wp2_with fail
        refine hset.mono ?_
        rintro e w7 ⟨A7, n7, c7, F7, m7, d7, rfl, o1, o2, q1, q2, hb7⟩
        have hw7 := hw6.trans (hb7.mono hw6.size)
        have o1 := o1.more hw6.size
        have o2 := o2.more hw6.size
        have Y7 := Y6.after hb7
        obtain ⟨y0, y1⟩ := Y7.cells2
        have f0 := Y7.frozen 0
        have f1 := Y7.frozen 1
        have YF := (Y7.set_ 0 (.slice A7 n7 c7)).set_ 1 (.slice F7 m7 d7)
        obtain ⟨z0, z1⟩ : (((w7.setCell ⟨w.heap.size + 1, 0, none⟩ (.slice A7 n7 c7)).setCell ⟨w.heap.size + 1, 1, none⟩ (.slice F7 m7 d7)).cell? ⟨w.heap.size + 1, 0, none⟩ = some (.slice A7 n7 c7)) ∧ (((w7.setCell ⟨w.heap.size + 1, 0, none⟩ (.slice A7 n7 c7)).setCell ⟨w.heap.size + 1, 1, none⟩ (.slice F7 m7 d7)).cell? ⟨w.heap.size + 1, 1, none⟩ = some (.slice F7 m7 d7)) := ⟨YF.cell 0, YF.cell 1⟩
        rw [← HE.out.2.2]
        generalize hqq : cdK P k f (row rows 0).length rows = qq at *
        have e1 : some (w.heap.size + 1) ≠ blk A7 := OS.typed' o1.os Y7 (by decide)
        have e2 : some (w.heap.size + 1) ≠ blk F7 := OS.typed' o2.os Y7 (by decide)
        clear hset Y6
        go_wp2
        have o1 := (o1.kept (grown_set (g := w.heap.size + 1) (p := 0) (u := .slice A7 n7 c7)) (.inr fun e => e1 e.symm)).kept (grown_set (g := w.heap.size + 1) (p := 1) (u := .slice F7 m7 d7)) (.inr fun e => e1 e.symm)
        have o2 := (o2.kept (grown_set (g := w.heap.size + 1) (p := 0) (u := .slice A7 n7 c7)) (.inr fun e => e2 e.symm)).kept (grown_set (g := w.heap.size + 1) (p := 1) (u := .slice F7 m7 d7)) (.inr fun e => e2 e.symm)
        subst hqq
        refine bodyPost_ret (v := .tuple #[.agg #[.slice A7 n7 c7, .slice F7 m7 d7], .int .i64 (cdK P k f (row rows 0).length rows)]) (by simp [results, Tryz.results17, go_sem, z0, z1]) rfl ?_
        simp only [RetCg, cgK, cgC, cgE, Int.toNat_natCast]
        rw [HE.out.1, HE.out.2.1]
        exact ⟨A7, n7, c7, F7, m7, d7, rfl, o1, o2, q1, q2, (hw7.setCell (p := ⟨w.heap.size + 1, 0, none⟩) (by simp) _).setCell (p := ⟨w.heap.size + 1, 1, none⟩) (by simp) _⟩
  · have HE := Lib.hid (cd_no (f := f) (m := (row rows 0).length) (rows := rows) (show ¬ P ^ k = 2 by rw [hq]; omega))
    have hqn : ¬ ((q : Int) = 2) := by omega
    clear hf hm hC hCC hw
    rw [hq] at hq64 hq2
    clear hq
    go_enter Tryz.func17, Tryz.ntmps17
    go_wp2_with fail
    clear x0 x1 x2 x3
    refine hv.mono ?_
    rintro e w2 ⟨rfl, hb2⟩
    have hw2 := hb1.trans (hb2.mono hb1.size)
    have X2 := X.after hb2
    have Y2 := Y.after hb2
    have x0 := X2.cell 0
    have x1 := X2.cell 1
    have x2 := X2.cell 2
    clear hv hb1 hb2 X Y
    go_wp2_with fail
    clear x0 x1 x2
    refine (HFS.out w2).mono ?_
    rintro e w3 ⟨rfl, hb3⟩
    rw [HQ.out]
    have hb0 := hw2.trans (hb3.mono hw2.size)
    have Y3 := Y2.after hb3
    clear hw2 hb3 X2 Y2
    have hD0 := (Y3.set_ 0 (.slice none 0 0)).set_ 1 (.slice none 0 0)
    obtain ⟨y0, y1⟩ := Y3.cells2
    have f0 := Y3.frozen 0
    have f1 := Y3.frozen 1
    go_wp2
    clear y0 y1 f0 f1
    obtain ⟨x0, x1⟩ : ((w3.setCell ⟨w.heap.size + 1, 0, none⟩ (.slice none 0 0)).setCell ⟨w.heap.size + 1, 1, none⟩ (.slice none 0 0)).cell? ⟨w.heap.size + 1, 0, none⟩ = some (.slice none 0 0) ∧ ((w3.setCell ⟨w.heap.size + 1, 0, none⟩ (.slice none 0 0)).setCell ⟨w.heap.size + 1, 1, none⟩ (.slice none 0 0)).cell? ⟨w.heap.size + 1, 1, none⟩ = some (.slice none 0 0) := ⟨hD0.cell 0, hD0.cell 1⟩
    refine bodyPost_ret (v := .tuple #[.agg #[.slice none 0 0, .slice none 0 0], .int .i64 6]) (by simp [results, Tryz.results17, go_sem, x0, x1]) rfl ?_
    simp only [RetCg, cgK, cgC, cgE, Int.toNat_natCast]
    rw [HE.out.1, HE.out.2.1, HE.out.2.2]
    exact ⟨none, 0, 0, none, 0, 0, rfl, OI.nil_ _ _ _, OE.nil_ _ _ _, by omega, by omega, (hb0.setCell (p := ⟨w.heap.size + 1, 0, none⟩) (by simp) _).setCell (p := ⟨w.heap.size + 1, 1, none⟩) (by simp) _⟩
theorem blk4 {w : World} {g : Nat} {t : TypeId} {a b c d : Value} (h : Blk w g t #[a, b, c, d]) : w.cell? ⟨g, 0, none⟩ = some a ∧ w.cell? ⟨g, 1, none⟩ = some b ∧ w.cell? ⟨g, 2, none⟩ = some c ∧ w.cell? ⟨g, 3, none⟩ = some d := ⟨h.cell 0, h.cell 1, h.cell 2, h.cell 3⟩
set_option maxRecDepth 100000 in
set_option maxHeartbeats 4000000 in
theorem impl_EquivalentCodes (P D : Int) (A : Option Addr) (n c : Nat) (f : List Int) (M : Option Addr) (r rc : Nat) (xs : List (List Int)) (P' D' : Int) (A' : Option Addr) (n' c' : Nat) (f' : List Int) (M' : Option Addr) (r' rc' : Nat) (ys : List (List Int)) (b : Int) (w : World)
    (hP : I64 P) (hD : I64 D) (hn : n ≤ 1099511627776) (hf : RI w A n f) (hr : RR w M r xs) (h1 : r ≤ 1099511627776)
    (hP' : I64 P') (hD' : I64 D') (hn' : n' ≤ 1099511627776) (hf' : RI w A' n' f') (hr' : RR w M' r' ys) (h1' : r' ≤ 1099511627776) :
    Calls Tryz.prog 10 #[.agg #[.int .i64 P, .int .i64 D, .slice A n c, .slice M r rc], .agg #[.int .i64 P', .int .i64 D', .slice A' n' c', .slice M' r' rc'], .int .i64 b] w (fun e w' => e = .returned (.tuple #[.bool (eqcR P D f xs P' D' f' ys b), .int .i64 (eqcK P D f xs P' D' f' ys b)]) ∧ Below w.heap.size w w') := by
  have hb1 := below_then (below_alloc w (.cells #[.int .i64 P, .int .i64 D, .slice A n c, .slice M r rc] 33)) (below_alloc _ (.cells #[.int .i64 P', .int .i64 D', .slice A' n' c', .slice M' r' rc'] 33))
  have X := (Blk.new w 33 #[.int .i64 P, .int .i64 D, .slice A n c, .slice M r rc]).alloc (.cells #[.int .i64 P', .int .i64 D', .slice A' n' c', .slice M' r' rc'] 33)
  have Y : Blk ((w.alloc (.cells #[.int .i64 P, .int .i64 D, .slice A n c, .slice M r rc] 33)).alloc (.cells #[.int .i64 P', .int .i64 D', .slice A' n' c', .slice M' r' rc'] 33)) (w.heap.size + 1) 33 #[.int .i64 P', .int .i64 D', .slice A' n' c', .slice M' r' rc'] := by
    have := Blk.new (w.alloc (.cells #[.int .i64 P, .int .i64 D, .slice A n c, .slice M r rc] 33)) 33 #[.int .i64 P', .int .i64 D', .slice A' n' c', .slice M' r' rc']
    simpa using this
  have hv1 := validCode_any P D A n c f M r rc xs _ (hf.keep hb1) hP hD (by omega) (hr.keep hb1) (by omega)
  have HV2 := Lib.hid (fun (w' : World) (h : Below w.heap.size w w') => validCode_any P' D' A' n' c' f' M' r' rc' ys w' (hf'.keep h) hP' hD' (by omega) (hr'.keep h) (by omega))
  generalize hW1 : (w.alloc (.cells #[.int .i64 P, .int .i64 D, .slice A n c, .slice M r rc] 33)).alloc (.cells #[.int .i64 P', .int .i64 D', .slice A' n' c', .slice M' r' rc'] 33) = W1 at *
  obtain ⟨x0, x1, x2, x3⟩ := blk4 X
  by_cases c1 : CodeOk P D f xs
  · rw [tB_yes c1] at hv1
    by_cases c2 : CodeOk P' D' f' ys
    · have HY := Lib.hid (tB_yes c2)
      have HK := Lib.hid (show eqcK P D f xs P' D' f' ys b = samC (inB b 1 20000) (cgK P D f xs) (cgK P' D' f' ys) (code2P (cgC P D f xs) (cgE P D f xs) (cgC P' D' f' ys) (cgE P' D' f' ys) b) by rw [eqcK, tB_yes c1, tB_yes c2]; rfl)
      have HR := Lib.hid (show eqcR P D f xs P' D' f' ys b = samB (inB b 1 20000) (cgK P D f xs) (cgK P' D' f' ys) (isoP (cgC P D f xs) (cgE P D f xs) (cgC P' D' f' ys) (cgE P' D' f' ys) b) by rw [eqcR, tB_yes c1, tB_yes c2]; rfl)
      have HG1 := Lib.hid (fun (w' : World) (h : Below w.heap.size w w') => codeGraph_any P D A n c f M r rc xs w' (hf.keep h) (hr.keep h) hn c1)
      have HG2 := Lib.hid (fun (w' : World) (h : Below w.heap.size w w') => codeGraph_any P' D' A' n' c' f' M' r' rc' ys w' (hf'.keep h) (hr'.keep h) hn' c2)
      clear c1 c2
      go_enter Tryz.func10, Tryz.ntmps10
      go_wp2_with fail
      clear x0 x1 x2 x3
      refine hv1.mono ?_
      rintro e w1 ⟨rfl, hb2⟩
      have hw1 := hb1.trans (hb2.mono hb1.size)
      have X1 := X.after hb2
      have Y1 := Y.after hb2
      obtain ⟨y0, y1, y2, y3⟩ := blk4 Y1
      clear hv1 hb1 hb2 X Y
      go_wp2_with fail
      clear y0 y1 y2 y3
      refine (HV2.out w1 hw1).mono ?_
      rintro e w2 ⟨rfl, hb2⟩
      rw [HY.out]
      have hw2 := hw1.trans (hb2.mono hw1.size)
      have X2 := X1.after hb2
      have Y2 := Y1.after hb2
      obtain ⟨x0, x1, x2, x3⟩ := blk4 X2
      clear hw1 hb2 X1 Y1
      go_wp2_with fail
      clear x0 x1 x2 x3
      refine (HG1.out w2 hw2).mono ?_
      rintro e w3 ⟨A1, n1, c1, F1, m1, d1, rfl, o1, o2, q1, q2, hb3⟩
      have hG1 := RG.mk o1.reads o2.reads
      have hw3 := hw2.trans (hb3.mono hw2.size)
      have Y3 := Y2.after hb3
      have hal := below_alloc w3 (.cells #[.slice A1 n1 c1, .slice F1 m1 d1] 46)
      have hX := Blk.new w3 46 #[.slice A1 n1 c1, .slice F1 m1 d1]
      obtain ⟨y0, y1, y2, y3⟩ := blk4 (Y3.after hal)
      clear hw2 hb3 X2 Y2 o1 o2
      go_wp2_with fail
      clear y0 y1 y2 y3
      refine (HG2.out _ (hw3.trans (hal.mono hw3.size))).mono ?_
      rintro e w4 ⟨A2, n2, c2, F2, m2, d2, rfl, o1, o2, q3, q4, hb4⟩
      have hG2 := RG.mk o1.reads o2.reads
      have hX4 := hX.after hb4
      have hb34 := hal.trans (hb4.mono (by simp))
      have hG1' := hG1.keep hb34
      have hw4 := hw3.trans (hb34.mono hw3.size)
      have hal4 := below_alloc w4 (.cells #[.slice A2 n2 c2, .slice F2 m2 d2] 46)
      have hY := Blk.new w4 46 #[.slice A2 n2 c2, .slice F2 m2 d2]
      have hX5 := hX4.after hal4
      obtain ⟨x0, x1⟩ := hX5.cells2
      obtain ⟨y0, y1⟩ := hY.cells2
      have hsf := sameForms_any (w4.alloc (.cells #[.slice A2 n2 c2, .slice F2 m2 d2] 46)) A1 n1 c1 F1 m1 d1 (cgC P D f xs) (cgE P D f xs) A2 n2 c2 F2 m2 d2 (cgC P' D' f' ys) (cgE P' D' f' ys) (cgK P D f xs) (cgK P' D' f' ys) b (hG1'.keep hal4) (hG2.keep hal4) (by omega) (by omega) (by omega) (by omega)
      rw [← HK.out, ← HR.out] at hsf
      have hw5 := hw4.trans (hal4.mono hw4.size)
      clear hX hX4 hX5 hY hG1 hG1' hG2 hal hal4 hb34 hb4 hw3 hw4 o1 o2
      go_wp2_with fail
      refine hsf.mono ?_
      rintro e w6 ⟨rfl, hb6⟩
      go_wp2
      go_ret2
      exact ⟨rfl, hw5.trans (hb6.mono hw5.size)⟩
    · have HY := Lib.hid (tB_no c2)
      have HK := Lib.hid (show eqcK P D f xs P' D' f' ys b = 1 by rw [eqcK, tB_no c2]; simp)
      have HR := Lib.hid (show eqcR P D f xs P' D' f' ys b = false by rw [eqcR, tB_no c2]; simp)
      clear c1 c2
      go_enter Tryz.func10, Tryz.ntmps10
      go_wp2_with fail
      clear x0 x1 x2 x3
      refine hv1.mono ?_
      rintro e w1 ⟨rfl, hb2⟩
      have hw1 := hb1.trans (hb2.mono hb1.size)
      have Y1 := Y.after hb2
      obtain ⟨y0, y1, y2, y3⟩ := blk4 Y1
      clear hv1
      go_wp2_with fail
      clear y0 y1 y2 y3
      refine (HV2.out w1 hw1).mono ?_
      rintro e w2 ⟨rfl, hb2⟩
      rw [HY.out]
      go_wp2
      go_ret2
      exact ⟨by rw [HK.out, HR.out]; rfl, hw1.trans (hb2.mono hw1.size)⟩
  · rw [tB_no c1] at hv1
    have HK := Lib.hid (show eqcK P D f xs P' D' f' ys b = 1 by rw [eqcK, tB_no c1]; simp)
    have HR := Lib.hid (show eqcR P D f xs P' D' f' ys b = false by rw [eqcR, tB_no c1]; simp)
    clear c1
    go_enter Tryz.func10, Tryz.ntmps10
    go_wp2_with fail
    clear x0 x1 x2 x3
    refine hv1.mono ?_
    rintro e w1 ⟨rfl, hb2⟩
    go_wp2
    go_ret2
    exact ⟨by rw [HK.out, HR.out]; rfl, hb1.trans (hb2.mono hb1.size)⟩
end Go.Proofs.YtdkbcjdimhgmnaaGreat
