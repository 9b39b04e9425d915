/- Two fields compared: the program's own function. No condition beyond those stated. -/
import Derived.Test.YtdkbcjdimhgmnaaGreatSJF
set_option linter.unusedVariables false
set_option linter.unusedSimpArgs false
namespace Go.Proofs.YtdkbcjdimhgmnaaGreat
open Go.RowKit
def outQ (q x : Int) : Bool := !(inB x 0 (q - 1))
theorem outQ_any {q : Int} {v : List Int} : (!(v.any (outQ q))) = tB (VecQ q v) := by
  cases h : v.any (outQ q) with
  | true =>
    rw [List.any_eq_true] at h
    obtain ⟨x, hx, ho⟩ := h
    obtain ⟨i, hi, rfl⟩ := List.getElem_of_mem hx
    refine (tB_no fun hv => ?_).symm
    have := hv i hi
    rw [nth_get hi] at this
    unfold outQ at ho
    rw [inB_mk ⟨this.1, by omega⟩] at ho
    cases ho
  | false =>
    refine (tB_yes fun i hi => ?_).symm
    have := List.any_eq_false.1 h v[i] (List.getElem_mem _)
    unfold outQ at this
    rw [nth_get hi]
    cases hb : inB v[i] 0 (q - 1) with
    | false => rw [hb] at this; exact absurd rfl this
    | true => have := inB_true hb; omega
theorem areIn1_any (q x : Int) (g : Nat) (w : World) (h : w.cell? ⟨g, 0, none⟩ = some (.int .i64 q)) (h1 : 0 ≤ q) (h2 : q ≤ 1048576) :
    Calls Tryz.prog 212 #[.int .i64 x, .pointer (some ⟨g, 0, none⟩)] w fun e w' => e = .returned (.bool (outQ q x)) ∧ w = w' := by
  have H := Lib.hid (show (!inB x 0 (q - 1)) = outQ q x from rfl)
  go_enter Tryz.func212, Tryz.ntmps212
  go_wp2_with (go_at_call 73; refine (within_any _ _ _ _).mono ?_; rintro e w' ⟨rfl, rfl⟩)
  go_ret
  exact ⟨by rw [← H.out]; rfl, rfl⟩
theorem areIn_any (q : Int) (A : Option Addr) (n c : Nat) (v : List Int) (w : World) (ha : RI w A n v) (hn : n ≤ 9223372036854775807) (h1 : 0 ≤ q) (h2 : q ≤ 1048576) :
    Calls Tryz.prog 154 #[.int .i64 q, .slice A n c] w (RetB w (tB (VecQ q v))) := by
  have eg : ∀ (args : Array Value) (w : World), (callFunc 212 args).run Tryz.prog w = .ok (.enter 212 args) w := fun _ _ => by kernel_rfl
  have hb1 := below_alloc w (.cells #[.int .i64 q] 2)
  have X := Blk.new w 2 #[.int .i64 q]
  have hask : AskIq 212 #[.pointer (some ⟨w.heap.size, 0, none⟩)] (outQ q) (w.alloc (.cells #[.int .i64 q] 2)) := fun x _ => areIn1_any q x w.heap.size _ (X.cell 0) h1 h2
  have hcf := containsFuncIq _ _ eg (outQ q) A n c v _ (ha.keep hb1) hn hask
  have H := Lib.hid (outQ_any (q := q) (v := v))
  go_enter Tryz.func154, Tryz.ntmps154
  go_wp2_with (go_at_call 187; refine hcf.mono ?_; rintro e w1 ⟨rfl, rfl⟩)
  go_ret
  exact ⟨by rw [← H.out]; rfl, hb1⟩
noncomputable def badR (q : Int) (m : Nat) (z : List Int) : Bool := !(decide (z.length = m) && tB (VecQ q z))
theorem validMatrix1_any (q : Int) (m : Nat) (b3 b5 : Nat) (A : Option Addr) (n c : Nat) (z : List Int) (a : Addr) (r rc : Nat) (Z : Option Addr) (cz : Nat) (w : World) (ha : RI w A n z) (hn : n ≤ 9223372036854775807)
    (h3 : w.cell? ⟨b3, 0, none⟩ = some (.slice (some a) r rc)) (h5 : w.cell? ⟨b5, 0, none⟩ = some (.int .i64 q)) (hc : w.cell? a = some (.slice Z m cz)) (hr : 1 ≤ r) (h1 : 0 ≤ q) (h2 : q ≤ 1048576) :
    Calls Tryz.prog 153 #[.slice A n c, .pointer (some ⟨b3, 0, none⟩), .pointer (some ⟨b5, 0, none⟩)] w (RetB w (badR q m z)) := by
  have HL := Lib.hid ha.len
  by_cases hm : n = m
  · subst hm
    have hcl := areIn_any q A n c z w ha hn h1 h2
    have H := Lib.hid (show (!(tB (VecQ q z))) = badR q n z by unfold badR; rw [HL.out]; simp)
    have e0 : ((n : Int) != (n : Int)) = false := by simp
    go_enter Tryz.func153, Tryz.ntmps153
    go_wp2_with (go_at_call 154; refine hcl.mono ?_; rintro e w1 ⟨rfl, hb⟩)
    go_ret
    exact ⟨by rw [← H.out]; rfl, hb⟩
  · have e0 : ((n : Int) != (m : Int)) = true := by simp; omega
    have H := Lib.hid (show true = badR q m z by unfold badR; rw [HL.out]; simp [hm])
    go_enter Tryz.func153, Tryz.ntmps153
    go_wp2
    go_ret
    exact ⟨by rw [← H.out]; rfl, Below.refl _ _⟩
set_option maxHeartbeats 800000 in
theorem validMatrix_any (P D : Int) (A : Option Addr) (n c : Nat) (f : List Int) (M : Option Addr) (r rc : Nat) (rows : List (List Int)) (w : World) (hf : RI w A n f) (hP : I64 P) (hD : I64 D) (hn : n ≤ 9223372036854775807) (hr : RR w M r rows) (hrm : r ≤ 9223372036854775807) :
    Calls Tryz.prog 94 #[.agg #[.int .i64 P, .int .i64 D, .slice A n c], .slice M r rc] w (RetB w (tB (MatOk P D f rows))) := by
  have hb1 := below_alloc w (.cells #[.int .i64 P, .int .i64 D, .slice A n c] 31)
  have hb := hb1.trans ((below_alloc (w.alloc (.cells #[.int .i64 P, .int .i64 D, .slice A n c] 31)) (.cells #[.slice M r rc] 25)).mono (by simp))
  have hvf := validField_any P D A n c f _ (hf.keep hb) hP hD hn
  have HL := Lib.hid hr.len
  have X3 : Blk ((w.alloc (.cells #[.int .i64 P, .int .i64 D, .slice A n c] 31)).alloc (.cells #[.slice M r rc] 25)) (w.heap.size + 1) 25 #[.slice M r rc] := by
    have := Blk.new (w.alloc (.cells #[.int .i64 P, .int .i64 D, .slice A n c] 31)) 25 #[.slice M r rc]
    simpa using this
  cases hv : tB (FldZ P D f) with
  | false =>
    have H := Lib.hid (show tB (MatOk P D f rows) = false from tB_no fun hh => by rw [tB_yes hh.1] at hv; cases hv)
    rw [hv] at hvf
    go_enter Tryz.func94, Tryz.ntmps94
    go_wp2_with (go_at_call 152; refine hvf.mono ?_; rintro e w1 ⟨rfl, hb2⟩)
    go_ret
    exact ⟨by rw [H.out]; rfl, hb.trans (hb2.mono hb.size)⟩
  | true =>
    obtain ⟨hD1, hfo⟩ := tB_true.1 hv
    obtain ⟨K, rfl⟩ : ∃ K : Nat, D = (K : Int) := ⟨D.toNat, by omega⟩
    have hfo : FldOk P K f := hfo
    rw [hv] at hvf
    obtain ⟨p2, p61, k1, k6, hq64, hq2⟩ := hfo.nums
    cases hi : inB (r : Int) 1 32 with
    | false =>
      have H := Lib.hid (show tB (MatOk P K f rows) = false from tB_no fun hh => by have := hh.2.1; rw [HL.out] at this; rw [inB_mk ⟨by omega, by omega⟩] at hi; cases hi)
      go_enter Tryz.func94, Tryz.ntmps94
      go_wp2_with (first | (go_at_call 152; refine hvf.mono ?_; rintro e w1 ⟨rfl, hb2⟩; have x3 : w1.cell? ⟨w.heap.size + 1, 0, none⟩ = some (.slice M r rc) := (X3.after hb2).cell 0) | (go_at_call 96; refine (sizeR_any _ _ _ _ (by omega)).mono ?_; rintro e w' ⟨rfl, rfl⟩) | (go_at_call 73; refine (within_any _ _ _ _).mono ?_; rintro e w' ⟨rfl, rfl⟩; rw [hi]))
      go_ret
      exact ⟨by rw [H.out]; rfl, hb.trans (hb2.mono hb.size)⟩
    | true =>
      obtain ⟨r1, r2⟩ := inB_true hi
      obtain ⟨ad, Z, m, cz, rfl, hc0, hz1, hz2, hrz⟩ := hr.get (k := 0) (by omega)
      have hc0 : w.cell? ad = some (.slice Z m cz) := hc0
      have HM := Lib.hid hrz.len
      cases hj : inB (m : Int) 1 32 with
      | false =>
        have H := Lib.hid (show tB (MatOk P K f rows) = false from tB_no fun hh => by have := hh.2.2.1; rw [HM.out] at this; rw [inB_mk ⟨by omega, by omega⟩] at hj; cases hj)
        go_enter Tryz.func94, Tryz.ntmps94
        go_wp2_with (first | (go_at_call 152; refine hvf.mono ?_; rintro e w1 ⟨rfl, hb2⟩; have x3 : w1.cell? ⟨w.heap.size + 1, 0, none⟩ = some (.slice (some ad) r rc) := (X3.after hb2).cell 0; have x4 := below_cell (hb.trans (hb2.mono hb.size)) hc0) | (go_at_call 96; refine (sizeR_any _ _ _ _ (by omega)).mono ?_; rintro e w' ⟨rfl, rfl⟩) | (go_at_call 70; refine (sizeI_any _ _ _ _ (by omega)).mono ?_; rintro e w' ⟨rfl, rfl⟩) | (go_at_call 73; (first | (go_at_call_of 73 (Value.int .i64 (r : Int)); refine (within_any _ _ _ _).mono ?_; rintro e w' ⟨rfl, rfl⟩; rw [hi]) | (refine (within_any _ _ _ _).mono ?_; rintro e w' ⟨rfl, rfl⟩; first | rw [hi] | rw [hj]))))
        go_ret
        exact ⟨by rw [H.out]; rfl, hb.trans (hb2.mono hb.size)⟩
      | true =>
        have H := Lib.hid (show (!(rows.any (badR (P ^ K) m))) = tB (MatOk P K f rows) by
          cases h : rows.any (badR (P ^ K) m) with
          | true =>
            rw [List.any_eq_true] at h
            obtain ⟨x, hx, ho⟩ := h
            obtain ⟨i, hi', rfl⟩ := List.getElem_of_mem hx
            refine (tB_no fun hh => ?_).symm
            have := hh.2.2.2 i hi'
            rw [row_get hi', HM.out] at this
            have hq : VecQ (P ^ K) rows[i] := this.2
            unfold badR at ho
            rw [tB_yes hq] at ho
            simp [this.1] at ho
          | false =>
            have q1 := inB_true hi
            have q2 := inB_true hj
            refine (tB_yes ⟨⟨hD1, hfo⟩, by rw [HL.out]; omega, by rw [HM.out]; omega, fun i hi' => ?_⟩).symm
            have := List.any_eq_false.1 h rows[i] (List.getElem_mem _)
            unfold badR at this
            rw [row_get hi', HM.out]
            have e : decide (rows[i].length = m) = true ∧ tB (VecQ (P ^ K) rows[i]) = true := by simpa using this
            exact ⟨by simpa using e.1, tB_true.1 e.2⟩)
        have eg : ∀ (args : Array Value) (w : World), (callFunc 153 args).run Tryz.prog w = .ok (.enter 153 args) w := fun _ _ => by kernel_rfl
        have X1 := (Blk.new w 31 #[.int .i64 P, .int .i64 K, .slice A n c]).alloc (.cells #[.slice (some ad) r rc] 25)
        obtain ⟨m1, m2⟩ := inB_true hj
        go_enter Tryz.func94, Tryz.ntmps94
        go_wp2_with (first | (go_at_call 152; refine hvf.mono ?_; rintro e w1 ⟨rfl, hb2⟩; have x3 : w1.cell? ⟨w.heap.size + 1, 0, none⟩ = some (.slice (some ad) r rc) := (X3.after hb2).cell 0; have y0 : w1.cell? ⟨w.heap.size, 0, none⟩ = some (.int .i64 P) := (X1.after hb2).cell 0; have y1 : w1.cell? ⟨w.heap.size, 1, none⟩ = some (.int .i64 K) := (X1.after hb2).cell 1; have y2 : w1.cell? ⟨w.heap.size, 2, none⟩ = some (.slice A n c) := (X1.after hb2).cell 2; have x4 := below_cell (hb.trans (hb2.mono hb.size)) hc0) | (go_at_call 96; refine (sizeR_any _ _ _ _ (by omega)).mono ?_; rintro e w' ⟨rfl, rfl⟩) | (go_at_call 70; refine (sizeI_any _ _ _ _ (by omega)).mono ?_; rintro e w' ⟨rfl, rfl⟩) | (go_at_call 73; (first | (go_at_call_of 73 (Value.int .i64 (r : Int)); refine (within_any _ _ _ _).mono ?_; rintro e w' ⟨rfl, rfl⟩; rw [hi]) | (refine (within_any _ _ _ _).mono ?_; rintro e w' ⟨rfl, rfl⟩; first | rw [hi] | rw [hj]))) | (go_at_call 53; refine (fieldSize_any P K A n c _ p2 (by omega) hq64 k6).mono ?_; rintro e w2 ⟨rfl, hb3⟩; have x5 := below_cell hb3 x3; have x6 := below_cell (below_alloc w2 (.cells #[.int .i64 (P ^ K)] 2)) x5; have hb4 := (hb.trans (hb2.mono hb.size)).trans (hb3.mono (hb.trans (hb2.mono hb.size)).size)))
        have b5 := below_alloc w2 (.cells #[.int .i64 (P ^ K)] 2)
        have hb5 := hb4.trans (b5.mono hb4.size)
        have x7 := below_cell hb5 hc0
        have hask : AskR 153 #[.pointer (some ⟨w.heap.size + 1, 0, none⟩), .pointer (some ⟨w2.heap.size, 0, none⟩)] (badR (P ^ K) m) (w2.alloc (.cells #[.int .i64 (P ^ K)] 2)) := fun A' n' c' z W hbw hz hn' hc' =>
          validMatrix1_any (P ^ K) m (w.heap.size + 1) w2.heap.size A' n' c' z ad r rc Z cz W hz (by omega) (below_cell hbw x6) (below_cell hbw ((Blk.new w2 2 #[.int .i64 (P ^ K)]).cell 0)) (below_cell hbw x7) (by omega) (by omega) (by omega)
        refine (containsFuncR _ _ eg (badR (P ^ K) m) (some ad) r rc rows _ (hr.keep hb5) hrm hask).mono ?_
        rintro e w3 ⟨rfl, hb6⟩
        dsimp only
        go_wp2
        go_ret
        exact ⟨by rw [← H.out]; rfl, hb5.trans (hb6.mono hb5.size)⟩
def mixP (v : List Int) (F : Nat → Int) (j : Nat) : List Int := (List.range v.length).map fun i => if i < j then F i else nth v i
theorem mixP_len (v : List Int) (F : Nat → Int) (j : Nat) : (mixP v F j).length = v.length := by simp [mixP]
theorem mixP_nth (v : List Int) (F : Nat → Int) (j : Nat) {i : Nat} (h : i < v.length) : nth (mixP v F j) i = if i < j then F i else nth v i := by
  unfold mixP
  rw [nth_map_range, if_pos h]
theorem mixP_zero (v : List Int) (F : Nat → Int) : mixP v F 0 = v := by
  refine nth_ext (mixP_len v F 0) fun i hi => ?_
  rw [mixP_len] at hi
  rw [mixP_nth v F 0 hi, if_neg (by omega)]
theorem mixP_set (v : List Int) (F : Nat → Int) {j : Nat} (hj : j < v.length) : (mixP v F j).set j (F j) = mixP v F (j + 1) := by
  refine nth_ext (by rw [List.length_set, mixP_len, mixP_len]) fun i hi => ?_
  rw [List.length_set, mixP_len] at hi
  rw [nth_setI (by rw [mixP_len]; exact hj), mixP_nth v F j hi, mixP_nth v F (j + 1) hi]
  by_cases e : i = j
  · subst e; rw [if_pos rfl, if_pos (by omega)]
  · rw [if_neg e]
    by_cases e2 : i < j
    · rw [if_pos e2, if_pos (by omega)]
    · rw [if_neg e2, if_neg (by omega)]
theorem mixP_full (v : List Int) (F : Nat → Int) : mixP v F v.length = (List.range v.length).map F := by
  refine nth_ext (by rw [mixP_len]; simp) fun i hi => ?_
  rw [mixP_len] at hi
  rw [mixP_nth v F _ hi, if_pos hi, nth_map_range, if_pos hi]
theorem mixP_scale (p : Int) (k : Nat) (f : List Int) (x : Int) (v : List Int) : mixP v (fun i => mulP p k f x (nth v i)) v.length = scaleR p k f x v := by
  rw [mixP_full]
  refine nth_ext (by simp [scaleR]) fun i hi => ?_
  rw [List.length_map, List.length_range] at hi
  rw [nth_map_range, if_pos hi, scaleR_nth p k f x hi, mulP_comm]
theorem mixP_less {p : Int} (h0 : 0 < p) (k : Nat) (f : List Int) (c : Int) (v w : List Int) : mixP v (fun i => sumP p k 1 (nth v i) (mulP p k f (sumP p k (p - 1) 0 c) (nth w i))) v.length = lessR p k f v w c := by
  rw [mixP_full]
  unfold lessR
  refine List.map_congr_left fun i _ => ?_
  rw [sub_mul_two h0 k f]
def tblQ (q : Nat) (F : Int → Int → Int) : List (List Int) := (List.range q).map fun (a : Nat) => (List.range q).map fun (b : Nat) => F a b
theorem tblQ_len (q : Nat) (F : Int → Int → Int) : (tblQ q F).length = q := by simp [tblQ]
theorem tblQ_row {q : Nat} {F : Int → Int → Int} {a : Nat} (h : a < q) : row (tblQ q F) a = (List.range q).map fun (b : Nat) => F a b := by
  rw [row_get (by rw [tblQ_len]; exact h)]
  simp [tblQ]
theorem tblQ_nth {q : Nat} {F : Int → Int → Int} {a b : Nat} (h : a < q) (h2 : b < q) : nth (row (tblQ q F) a) b = F a b := by
  rw [tblQ_row h, nth_map_range, if_pos h2]
theorem tblQ_take {q : Nat} {F : Int → Int → Int} {a : Nat} (h : a < q) : (tblQ q F).take a ++ [row (tblQ q F) a] = (tblQ q F).take (a + 1) := by
  rw [List.take_succ_eq_append_getElem (by rw [tblQ_len]; exact h), row_get (by rw [tblQ_len]; exact h)]
noncomputable def invQ (p : Int) (k : Nat) (f : List Int) (q : Nat) : List Int := (List.range q).map fun (a : Nat) => if a = 0 then 0 else finv p k f a
theorem invQ_len (p : Int) (k : Nat) (f : List Int) (q : Nat) : (invQ p k f q).length = q := by simp [invQ]
theorem invQ_nth (p : Int) (k : Nat) (f : List Int) {q a : Nat} (h : a < q) (h0 : a ≠ 0) : nth (invQ p k f q) a = finv p k f a := by
  unfold invQ
  rw [nth_map_range, if_pos h, if_neg h0]
structure TabA (w : World) (p : Int) (k : Nat) (f : List Int) (q : Nat) (A1 A2 A3 A4 : Option Addr) : Prop where
  add : RR w A1 q (tblQ q (sumP p k 1))
  sub : RR w A2 q (tblQ q (sumP p k (p - 1)))
  mul : RR w A3 q (tblQ q (mulP p k f))
  inv : RI w A4 q (invQ p k f q)
theorem TabA.keep {w w' : World} {p : Int} {k : Nat} {f : List Int} {q : Nat} {A1 A2 A3 A4 : Option Addr} (h : TabA w p k f q A1 A2 A3 A4) (hb : Below w.heap.size w w') : TabA w' p k f q A1 A2 A3 A4 :=
  ⟨h.add.keep hb, h.sub.keep hb, h.mul.keep hb, h.inv.keep hb⟩
theorem tab_get {w : World} {q : Nat} {F : Int → Int → Int} {A : Option Addr} (h : RR w A q (tblQ q F)) {a b : Nat} (ha : a < q) (hb : b < q) :
    ∃ ad bd m c, A = some ad ∧ w.cell? (ad.add a) = some (.slice (some bd) m c) ∧ m = q ∧ w.cell? (bd.add b) = some (.int .i64 (F a b)) := by
  obtain ⟨ad, B, m, c, rfl, hc, -, -, hr⟩ := h.get ha
  obtain rfl : m = q := by rw [← hr.len, tblQ_row ha]; simp
  obtain ⟨bd, rfl, hc2, -⟩ := hr.get hb
  rw [tblQ_nth ha hb] at hc2
  exact ⟨ad, bd, m, c, rfl, hc, rfl, hc2⟩
theorem tab_at {w : World} {q : Nat} {F : Int → Int → Int} {ad : Addr} (h : RR w (some ad) q (tblQ q F)) {a b : Nat} (ha : a < q) (hb : b < q) :
    ∃ bd c, w.cell? (ad.add a) = some (.slice (some bd) q c) ∧ w.cell? (bd.add b) = some (.int .i64 (F a b)) := by
  obtain ⟨ad', bd, m, c, e, hc, rfl, hc2⟩ := tab_get h ha hb
  injection e with e
  subst e
  exact ⟨bd, c, hc, hc2⟩
theorem tab_some {w : World} {q : Nat} {F : Int → Int → Int} {A : Option Addr} (h : RR w A q (tblQ q F)) (hq : 0 < q) : ∃ ad, A = some ad := by
  obtain ⟨ad, _, _, _, e, _⟩ := tab_get h hq hq
  exact ⟨ad, e⟩
theorem set_row_self (R : List (List Int)) (i : Nat) : R.set i (row R i) = R := by
  by_cases h : i < R.length
  · rw [row_get h]; exact List.set_getElem_self h
  · exact List.set_eq_of_length_le (by omega)
theorem row_set_same {R : List (List Int)} {i : Nat} (h : i < R.length) (z : List Int) : row (R.set i z) i = z := by rw [row_setR h, if_pos rfl]
theorem nat_of {q : Nat} {z : Int} (h0 : 0 ≤ z) (h : z < q) : ∃ a : Nat, z = a ∧ a < q := ⟨z.toNat, by omega, by omega⟩
def addF (p : Int) (k : Nat) (f v u : List Int) (x : Int) (i : Nat) : Int := sumP p k 1 (nth v i) (mulP p k f x (nth u i))
set_option maxRecDepth 100000 in
set_option maxHeartbeats 1600000 in
theorem addTimes_any (p : Int) (k : Nat) (f : List Int) (q : Nat) (A1 A2 A3 A4 : Option Addr) (c1 c2 c3 c4 : Nat) (wt w : World) (hq : p ^ k = (q : Int)) (hp : 0 < p) (hq64 : q ≤ 64) (ht : TabA wt p k f q A1 A2 A3 A4) (hwt : Below wt.heap.size wt w)
    (T U : Option Addr) (m ct cu : Nat) (v u : List Int) (x : Int) (hv : OI w wt.heap.size 2 T m ct v) (hu : OI w wt.heap.size 2 U m cu u) (hap : blk U = none ∨ blk U ≠ blk T) (hvq : VecQ q v) (huq : VecQ q u) (hx : 0 ≤ x ∧ x < q) (hm : m ≤ 1048576) :
    Calls Tryz.prog 158 #[.agg #[.int .i64 q, .slice A1 q c1, .slice A2 q c2, .slice A3 q c3, .slice A4 q c4], .slice T m ct, .slice U m cu, .int .i64 x] w (fun e w' => e = .returned (.tuple #[]) ∧ OI w' wt.heap.size 2 T m ct (mixP v (addF p k f v u x) m) ∧ w.grownBy w' (blk T)) := by
  have HL := Lib.hid hv.len
  have HLu := Lib.hid hu.len
  have HV := Lib.hid hvq
  have HU := Lib.hid huq
  have HT := Lib.hid ht
  have HB := Lib.hid (fun a b => mulP_bd (p := p) hp k f a b)
  have HBS := Lib.hid (fun c a b => sumP_bd (p := p) hp k c a b)
  have HQ := Lib.hid hq
  obtain ⟨xn, rfl, hxn⟩ := nat_of hx.1 hx.2
  have hb1 := below_alloc w (.cells #[.int .i64 q, .slice A1 q c1, .slice A2 q c2, .slice A3 q c3, .slice A4 q c4] 146)
  have X1 := Blk.new w 146 #[.int .i64 q, .slice A1 q c1, .slice A2 q c2, .slice A3 q c3, .slice A4 q c4]
  have ho0 : OI (w.alloc (.cells #[.int .i64 q, .slice A1 q c1, .slice A2 q c2, .slice A3 q c3, .slice A4 q c4] 146)) wt.heap.size 2 T m ct (mixP v (addF p k f v u xn) 0) := by rw [mixP_zero]; exact hv.below hb1
  have hg0 := grownBy_of_below hb1 (blk T)
  clear hvq huq ht hq
  go_enter Tryz.func158, Tryz.ntmps158
  go_wp2
  go_loopw [12] (fun i wr => ∃ j : Nat, j ≤ m ∧ i = .int .i64 j ∧ OI wr wt.heap.size 2 T m ct (mixP v (addF p k f v u xn) j) ∧ w.grownBy wr (blk T) ∧ Blk wr w.heap.size 146 #[.int .i64 q, .slice A1 q c1, .slice A2 q c2, .slice A3 q c3, .slice A4 q c4]) (fun i _ => m - (intOf i).toNat)
  case atStart => exact ⟨0, Nat.zero_le _, rfl, ho0, hg0, X1⟩
  case round =>
    clear ho0 hg0 X1 hb1
    obtain ⟨j, hj, rfl, ho, hg, hX⟩ := hrel
    by_cases hlt : j < m
    · have hw := below_own hwt hg hwt.size (fun b hb => (hv.os.lt hb).1)
      have htw := HT.out.keep hw
      obtain ⟨ad, rfl, cu0, -⟩ := (hu.kept hg hap).reads.get hlt
      obtain ⟨gT, rfl, ct0, ft0, -⟩ := ho.cell hlt
      rw [mixP_nth _ _ _ (by rw [HL.out]; exact hlt), if_neg (by omega)] at ct0
      obtain ⟨z0, z1⟩ := HV.out j (by rw [HL.out]; exact hlt)
      obtain ⟨y0, y1⟩ := HU.out j (by rw [HLu.out]; exact hlt)
      have hNew := Lib.hid (mixP_set v (addF p k f v u xn) (j := j) (by rw [HL.out]; exact hlt))
      have hFj : addF p k f v u xn j = sumP p k 1 (nth v j) (mulP p k f xn (nth u j)) := rfl
      obtain ⟨a1, a2⟩ := HB.out xn (nth u j)
      obtain ⟨s1, s2⟩ := HBS.out 1 (nth v j) (mulP p k f xn (nth u j))
      rw [HQ.out] at a2 s2
      obtain ⟨vn, hvn, hvn2⟩ := nat_of z0 z1
      obtain ⟨un, hun, hun2⟩ := nat_of y0 y1
      rw [hun] at a1 a2 s1 s2 cu0
      rw [hvn] at s1 s2 ct0
      obtain ⟨mn, hmn, hmn2⟩ := nat_of a1 a2
      obtain ⟨ma, mb, mm, mc, rfl, cm1, rfl, cm2⟩ := tab_get htw.mul hxn hun2
      rw [hmn] at cm2
      obtain ⟨aa, ab, am, ac, rfl, ca1, rfl, ca2⟩ := tab_get htw.add hvn2 hmn2
      rw [← hmn, ← hvn, ← hun, ← hFj] at ca2
      rw [hvn, hun] at hFj
      have hi64 : I64 (addF p k f v u xn j) := ⟨by rw [hFj]; omega, by rw [hFj]; omega⟩
      generalize addF p k f v u xn j = nw at *
      clear hFj hvn hun hmn a1 a2 s1 s2 z0 z1 y0 y1
      have x1 : wr.cell? ⟨w.heap.size, 1, none⟩ = some (.slice (some aa) am c1) := hX.cell 1
      have x3 : wr.cell? ⟨w.heap.size, 3, none⟩ = some (.slice (some ma) am c3) := hX.cell 3
      have x1d := below_cell (below_drewn wr 1) x1
      have x3d := below_cell (below_drewn wr 1) x3
      have d1 := below_cell (below_drewn wr 1) ct0
      have d2 := below_cell (below_drewn wr 1) cu0
      have d3 := below_cell (below_drewn wr 1) cm1
      have d4 := below_cell (below_drewn wr 1) cm2
      have d5 := below_cell (below_drewn wr 1) ca1
      have d6 := below_cell (below_drewn wr 1) ca2
      simp only [← World.drew_is_drewN] at x1d x3d d1 d2 d3 d4 d5 d6
      have hod := ho.below (below_drewn wr 1)
      have hgd := hg.trans (grownBy_of_below (below_drewn wr 1) (blk (some ⟨gT, 0, none⟩)))
      have hXd := hX.after (below_drewn wr 1)
      simp only [← World.drew_is_drewN] at hod hgd hXd
      have ft1 : wr.drew.frozen? ⟨gT, j, none⟩ = false := ft0
      clear hX htw hw ho hg ca1 ca2 cm1 cm2 ct0 x1 x3
      go_wp2
      clear cu0
      refine region_last (P := Tryz.prog) (S := fun w' => w'.cell? ⟨w.heap.size, 1, none⟩ = some (.slice (some aa) am c1) ∧ w'.cell? ⟨w.heap.size, 3, none⟩ = some (.slice (some ma) am c3) ∧ w'.cell? ⟨gT, j, none⟩ = some (.int .i64 vn) ∧ w'.cell? (ma.add xn) = some (.slice (some mb) am mc) ∧ w'.cell? (mb.add un) = some (.int .i64 mn) ∧ w'.cell? (aa.add vn) = some (.slice (some ab) am ac) ∧ w'.cell? (ab.add mn) = some (.int .i64 nw)) (by kernel_rfl) (by simp only [List.getLast?_cons_cons, List.getLast?_singleton]; rfl) (by dsimp only [List.dropLast]) (by kernel_rfl) ⟨x1d, x3d, d1, d3, d4, d5, d6⟩ ?_
      intro hS
      refine wpAnyH_take (i := 0) (v := ?_) rfl (by kernel_rfl) (by kernel_rfl) (by kernel_rfl) (fun _ _ _ h => h) (Or.inl ⟨by rfl, ?_⟩) (by assumption) ?_
      rotate_left
      · (intro w hSw; (try dsimp only at hSw); go_simp; (try with_reducible rfl))
      simp only [Act.put, List.setIfInBounds_toArray, List.set_cons_zero, List.set_cons_succ]
      refine wpAnyH_take (i := 1) (v := ?_) rfl (by kernel_rfl) (by kernel_rfl) (by kernel_rfl) (fun _ _ _ h => h) (Or.inl ⟨by rfl, ?_⟩) (by assumption) ?_
      rotate_left
      · (intro w hSw; (try dsimp only at hSw); go_simp; (try with_reducible rfl))
      simp only [Act.put, List.setIfInBounds_toArray, List.set_cons_zero, List.set_cons_succ]
      refine wpAnyH_take (i := 2) (v := ?_) rfl (by kernel_rfl) (by kernel_rfl) (by kernel_rfl) (fun _ _ _ h => h) (Or.inl ⟨by rfl, ?_⟩) (by assumption) ?_
      rotate_left
      · (intro w hSw; (try dsimp only at hSw); go_simp; (try with_reducible rfl))
      simp only [Act.put, List.setIfInBounds_toArray, List.set_cons_zero, List.set_cons_succ]
      refine wpAnyH_take (i := 3) (v := ?_) rfl (by kernel_rfl) (by kernel_rfl) (by kernel_rfl) (fun _ _ _ h => h) (Or.inl ⟨by rfl, ?_⟩) (by assumption) ?_
      rotate_left
      · (intro w hSw; (try dsimp only at hSw); go_simp; (try with_reducible rfl))
      simp only [Act.put, List.setIfInBounds_toArray, List.set_cons_zero, List.set_cons_succ]
      refine wpAnyH_take (i := 4) (v := ?_) rfl (by kernel_rfl) (by kernel_rfl) (by kernel_rfl) (fun _ _ _ h => h) (Or.inl ⟨by rfl, ?_⟩) (by assumption) ?_
      rotate_left
      · (intro w hSw; (try dsimp only at hSw); go_simp; (try with_reducible rfl))
      simp only [Act.put, List.setIfInBounds_toArray, List.set_cons_zero, List.set_cons_succ]
      refine wpAnyH_take (i := 5) (v := ?_) rfl (by kernel_rfl) (by kernel_rfl) (by kernel_rfl) (fun _ _ _ h => h) (Or.inl ⟨by rfl, ?_⟩) (by assumption) ?_
      rotate_left
      · (intro w hSw; (try dsimp only at hSw); go_simp; (try with_reducible rfl))
      simp only [Act.put, List.setIfInBounds_toArray, List.set_cons_zero, List.set_cons_succ]
      refine wpAnyH_take (i := 6) (v := ?_) rfl (by kernel_rfl) (by kernel_rfl) (by kernel_rfl) (fun _ _ _ h => h) (Or.inl ⟨by rfl, ?_⟩) (by assumption) ?_
      rotate_left
      · (intro w hSw; (try dsimp only at hSw); go_simp; (try with_reducible rfl))
      simp only [Act.put, List.setIfInBounds_toArray, List.set_cons_zero, List.set_cons_succ]
      refine wpAnyH_take (i := 7) (v := ?_) rfl (by kernel_rfl) (by kernel_rfl) (by kernel_rfl) (fun _ _ _ h => h) (Or.inl ⟨by rfl, ?_⟩) (by assumption) ?_
      rotate_left
      · (intro w hSw; (try dsimp only at hSw); go_simp; (try with_reducible rfl))
      simp only [Act.put, List.setIfInBounds_toArray, List.set_cons_zero, List.set_cons_succ]
      refine wpAnyH_take (i := 8) (v := ?_) rfl (by kernel_rfl) (by kernel_rfl) (by kernel_rfl) (fun _ _ _ h => h) (Or.inl ⟨by rfl, ?_⟩) (by assumption) ?_
      rotate_left
      · (intro w hSw; (try dsimp only at hSw); go_simp; (try with_reducible rfl))
      simp only [Act.put, List.setIfInBounds_toArray, List.set_cons_zero, List.set_cons_succ]
      refine wpAnyH_take (i := 9) (v := ?_) rfl (by kernel_rfl) (by kernel_rfl) (by kernel_rfl) (fun _ _ _ h => h) (Or.inl ⟨by rfl, ?_⟩) (by assumption) ?_
      rotate_left
      · (intro w hSw; (try dsimp only at hSw); go_simp; (try with_reducible rfl))
      simp only [Act.put, List.setIfInBounds_toArray, List.set_cons_zero, List.set_cons_succ]
      refine wpAnyH_take (i := 10) (v := ?_) rfl (by kernel_rfl) (by kernel_rfl) (by kernel_rfl) (fun _ _ _ h => h) (Or.inl ⟨by rfl, ?_⟩) (by assumption) ?_
      rotate_left
      · (intro w hSw; (try dsimp only at hSw); go_simp; (try with_reducible rfl))
      simp only [Act.put, List.setIfInBounds_toArray, List.set_cons_zero, List.set_cons_succ]
      refine wpAnyH_take (i := 11) (v := ?_) rfl (by kernel_rfl) (by kernel_rfl) (by kernel_rfl) (fun _ _ _ h => h) (Or.inl ⟨by rfl, ?_⟩) (by assumption) ?_
      rotate_left
      · (intro w hSw; (try dsimp only at hSw); go_simp; (try with_reducible rfl))
      simp only [Act.put, List.setIfInBounds_toArray, List.set_cons_zero, List.set_cons_succ]
      refine wpAnyH_take (i := 12) (v := ?_) rfl (by kernel_rfl) (by kernel_rfl) (by kernel_rfl) (fun _ _ _ h => h) (Or.inl ⟨by rfl, ?_⟩) (by assumption) ?_
      rotate_left
      · (intro w hSw; (try dsimp only at hSw); go_simp; (try with_reducible rfl))
      simp only [Act.put, List.setIfInBounds_toArray, List.set_cons_zero, List.set_cons_succ]
      refine wpAnyH_take (i := 13) (v := ?_) rfl (by kernel_rfl) (by kernel_rfl) (by kernel_rfl) (fun _ _ _ h => h) (Or.inl ⟨by rfl, ?_⟩) (by assumption) ?_
      rotate_left
      · (intro w hSw; (try dsimp only at hSw); go_simp; (try with_reducible rfl))
      simp only [Act.put, List.setIfInBounds_toArray, List.set_cons_zero, List.set_cons_succ]
      refine wpAnyH_take (i := 14) (v := ?_) rfl (by kernel_rfl) (by kernel_rfl) (by kernel_rfl) (fun _ _ _ h => h) (Or.inl ⟨by rfl, ?_⟩) (by assumption) ?_
      rotate_left
      · (intro w hSw; (try dsimp only at hSw); go_simp; (try with_reducible rfl))
      simp only [Act.put, List.setIfInBounds_toArray, List.set_cons_zero, List.set_cons_succ]
      refine wpAnyH_take (i := 15) (v := ?_) rfl (by kernel_rfl) (by kernel_rfl) (by kernel_rfl) (fun _ _ _ h => h) (Or.inl ⟨by rfl, ?_⟩) (by assumption) ?_
      rotate_left
      · (intro w hSw; (try dsimp only at hSw); go_simp; (try with_reducible rfl))
      simp only [Act.put, List.setIfInBounds_toArray, List.set_cons_zero, List.set_cons_succ]
      refine wpAnyH_take (i := 16) (v := ?_) rfl (by kernel_rfl) (by kernel_rfl) (by kernel_rfl) (fun _ _ _ h => h) (Or.inl ⟨by rfl, ?_⟩) (by assumption) ?_
      rotate_left
      · (intro w hSw; (try dsimp only at hSw); go_simp; (try with_reducible rfl))
      simp only [Act.put, List.setIfInBounds_toArray, List.set_cons_zero, List.set_cons_succ]
      refine wpAnyH_take (i := 17) (v := ?_) rfl (by kernel_rfl) (by kernel_rfl) (by kernel_rfl) (fun _ _ _ h => h) (Or.inl ⟨by rfl, ?_⟩) (by assumption) ?_
      rotate_left
      · (intro w hSw; (try dsimp only at hSw); go_simp; (try with_reducible rfl))
      simp only [Act.put, List.setIfInBounds_toArray, List.set_cons_zero, List.set_cons_succ]
      refine wpAnyH_take (i := 18) (v := ?_) rfl (by kernel_rfl) (by kernel_rfl) (by kernel_rfl) (fun _ _ _ h => h) (Or.inl ⟨by rfl, ?_⟩) (by assumption) ?_
      rotate_left
      · (intro w hSw; (try dsimp only at hSw); go_simp; (try with_reducible rfl))
      simp only [Act.put, List.setIfInBounds_toArray, List.set_cons_zero, List.set_cons_succ]
      refine wpAnyH_take (i := 19) (v := ?_) rfl (by kernel_rfl) (by kernel_rfl) (by kernel_rfl) (fun _ _ _ h => h) (Or.inl ⟨by rfl, ?_⟩) (by assumption) ?_
      rotate_left
      · (intro w hSw; (try dsimp only at hSw); go_simp; (try with_reducible rfl))
      simp only [Act.put, List.setIfInBounds_toArray, List.set_cons_zero, List.set_cons_succ]
      refine wpAnyH_take (i := 20) (v := ?_) rfl (by kernel_rfl) (by kernel_rfl) (by kernel_rfl) (fun _ _ _ h => h) (Or.inl ⟨by rfl, ?_⟩) (by assumption) ?_
      rotate_left
      · (intro w hSw; (try dsimp only at hSw); go_simp; (try with_reducible rfl))
      simp only [Act.put, List.setIfInBounds_toArray, List.set_cons_zero, List.set_cons_succ]
      simp only [List.getElem_toArray, List.getElem_cons_succ, List.getElem_cons_zero]
      refine wpAnyH_done (by kernel_rfl) ?_ _
      dsimp only [atEnd]
      clear hS d2 d3 d4 d5 d6 x1d x3d
      generalize wr.drew = W at *
      have hset := hod.set j hi64
      rw [hNew.out] at hset
      have hge := hgd.trans (grown_set (w := W) (g := gT) (p := j) (u := .int .i64 nw))
      have hXe := hXd.grown (grown_set (w := W) (g := gT) (p := j) (u := .int .i64 nw)) (fun e => by injection e with e; have := (hv.os.lt (k := gT) rfl).2; omega)
      go_wp2
      go_roundw
      case rel => exact ⟨j + 1, by omega, by go_num, hset, hge, hXe⟩
      case measure => simp [intOf]; omega
    · obtain rfl : m = j := by omega
      go_wp2
      go_end0
      exact ⟨rfl, ho, hg⟩
end Go.Proofs.YtdkbcjdimhgmnaaGreat
