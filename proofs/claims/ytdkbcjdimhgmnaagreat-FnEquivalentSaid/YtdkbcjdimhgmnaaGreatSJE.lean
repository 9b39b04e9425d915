/- Plain row reduction over a field whose elements are numbers. No condition beyond those stated. -/
import Derived.Test.YtdkbcjdimhgmnaaGreatSJD
set_option linter.unusedVariables false
set_option linter.unusedSimpArgs false
namespace Go.Proofs.YtdkbcjdimhgmnaaGreat
open Go.RowKit
noncomputable def finv (p : Int) (k : Nat) (f : List Int) (a : Int) : Int := open Classical in if h : ∃ b, 0 < b ∧ b < p ^ k ∧ mulP p k f a b = 1 then h.choose else 0
theorem finv_ok {p : Int} {k : Nat} {f : List Int} (h : FldOk p k f) {a : Int} (ha : 0 < a) (ha2 : a < p ^ k) : 0 < finv p k f a ∧ finv p k f a < p ^ k ∧ mulP p k f a (finv p k f a) = 1 := by
  have hx := inv_exists h ha ha2
  unfold finv
  rw [dif_pos hx]
  exact hx.choose_spec
theorem finv_only {p : Int} {k : Nat} {f : List Int} (h : FldOk p k f) {a b : Int} (ha : 0 < a) (ha2 : a < p ^ k) (hb : 0 ≤ b) (hb2 : b < p ^ k) (e : mulP p k f a b = 1) : b = finv p k f a := by
  obtain ⟨h1, h2, h3⟩ := finv_ok h ha ha2
  exact mul_inj h ha ha2 hb hb2 (by omega) h2 (e.trans h3.symm)
theorem mulP_zero_left {p : Int} (h0 : 0 < p) (k : Nat) (f : List Int) (b : Int) : mulP p k f 0 b = 0 := by rw [mulP_comm]; exact mulP_zero h0 k f b
def VecQ (q : Int) (v : List Int) : Prop := ∀ i, i < v.length → 0 ≤ nth v i ∧ nth v i < q
def MatQ (q : Int) (n : Nat) (rows : List (List Int)) : Prop := ∀ i, i < rows.length → (row rows i).length = n ∧ VecQ q (row rows i)
theorem row_setR {l : List (List Int)} {i j : Nat} {x : List Int} (hi : i < l.length) : row (l.set i x) j = if j = i then x else row l j := by
  unfold row
  simp only [List.getD, List.getElem?_set]
  by_cases e : j = i
  · subst e; simp [hi]
  · rw [if_neg (fun h => e h.symm), if_neg e]
theorem MatQ.set {q : Int} {n : Nat} {rows : List (List Int)} (h : MatQ q n rows) {i : Nat} {x : List Int} (hx : x.length = n ∧ VecQ q x) : MatQ q n (rows.set i x) := fun j hj => by
  rw [List.length_set] at hj
  by_cases hi : i < rows.length
  · rw [row_setR hi]
    split
    · exact hx
    · exact h j hj
  · rw [List.set_eq_of_length_le (by omega)]; exact h j hj
def pivAt (rows : List (List Int)) (c top : Nat) : Nat := top + (rows.drop top).findIdx fun r => nth r c != 0
theorem row_drop (rows : List (List Int)) (k i : Nat) : row (rows.drop k) i = row rows (k + i) := by simp [row, List.getD]
theorem pivAt_le {rows : List (List Int)} {c top : Nat} (h : top ≤ rows.length) : top ≤ pivAt rows c top ∧ pivAt rows c top ≤ rows.length := by
  unfold pivAt
  have := List.findIdx_le_length (xs := rows.drop top) (p := fun r => nth r c != 0)
  rw [List.length_drop] at this
  omega
theorem pivAt_ne {rows : List (List Int)} {c top : Nat} (h : top ≤ rows.length) (k : pivAt rows c top < rows.length) : nth (row rows (pivAt rows c top)) c ≠ 0 := by
  unfold pivAt at k ⊢
  have hl : (rows.drop top).findIdx (fun r => nth r c != 0) < (rows.drop top).length := by rw [List.length_drop]; omega
  have := List.findIdx_getElem (w := hl)
  rw [← row_drop, row_get hl]
  simpa using this
theorem pivAt_low {rows : List (List Int)} {c top i : Nat} (h1 : top ≤ i) (h2 : i < pivAt rows c top) : nth (row rows i) c = 0 := by
  unfold pivAt at h2
  have hl : i - top < (rows.drop top).findIdx (fun r => nth r c != 0) := by omega
  have := List.not_of_lt_findIdx hl
  have hlen := List.findIdx_le_length (xs := rows.drop top) (p := fun r => nth r c != 0)
  rw [← row_get (by omega), row_drop, show top + (i - top) = i from by omega] at this
  simpa using this
theorem pivAt_is {rows : List (List Int)} {c top i : Nat} (h1 : top ≤ i) (h2 : i ≤ rows.length) (h3 : ∀ j, top ≤ j → j < i → nth (row rows j) c = 0) (h4 : i < rows.length → nth (row rows i) c ≠ 0) : pivAt rows c top = i := by
  obtain ⟨a, b⟩ := pivAt_le (rows := rows) (c := c) (top := top) (by omega)
  rcases Nat.lt_trichotomy (pivAt rows c top) i with e | e | e
  · exact absurd (h3 _ a e) (pivAt_ne (by omega) (by omega))
  · exact e
  · exact absurd (pivAt_low h1 e) (h4 (by omega))
section
variable (p : Int) (k : Nat) (f : List Int)
def scaleR (x : Int) (r : List Int) : List Int := r.map fun v => mulP p k f v x
def lessR (v w : List Int) (x : Int) : List Int := (List.range v.length).map fun i => sumP p k (p - 1) (nth v i) (mulP p k f (nth w i) x)
def elimTo (top : Nat) (r : List Int) (c : Nat) (rows : List (List Int)) : Nat → List (List Int)
  | 0 => rows
  | j + 1 => if j = top then elimTo top r c rows j else (elimTo top r c rows j).set j (lessR p k f (row (elimTo top r c rows j) j) r (nth (row (elimTo top r c rows j) j) c))
noncomputable def leadR (rows : List (List Int)) (c at_ : Nat) : List Int := scaleR p k f (finv p k f (nth (row rows at_) c)) (row rows at_)
noncomputable def stepR (rows : List (List Int)) (c top : Nat) : List (List Int) :=
  elimTo p k f top (leadR p k f rows c (pivAt rows c top)) c ((rows.set (pivAt rows c top) (row rows top)).set top (leadR p k f rows c (pivAt rows c top))) rows.length
noncomputable def redTo (rows : List (List Int)) : Nat → List (List Int) × List Int
  | 0 => (rows, [])
  | c + 1 => if (redTo rows c).2.length = rows.length ∨ pivAt (redTo rows c).1 c (redTo rows c).2.length = rows.length then redTo rows c
    else (stepR p k f (redTo rows c).1 c (redTo rows c).2.length, (redTo rows c).2 ++ [(c : Int)])
noncomputable def formR (rows : List (List Int)) : List (List Int) := (redTo p k f rows (row rows 0).length).1.take (redTo p k f rows (row rows 0).length).2.length
theorem elimTo_len (top : Nat) (r : List Int) (c : Nat) (rows : List (List Int)) (j : Nat) : (elimTo p k f top r c rows j).length = rows.length := by
  induction j with
  | zero => rfl
  | succ j ih =>
    rw [elimTo]
    split
    · exact ih
    · rw [List.length_set, ih]
theorem elimTo_later (top : Nat) (r : List Int) (c : Nat) (rows : List (List Int)) {j i : Nat} (h : j ≤ i) (hj : j ≤ rows.length) : row (elimTo p k f top r c rows j) i = row rows i := by
  induction j with
  | zero => rfl
  | succ j ih =>
    rw [elimTo]
    split
    · exact ih (by omega) (by omega)
    · rw [row_setR (by rw [elimTo_len]; omega), if_neg (by omega)]
      exact ih (by omega) (by omega)
theorem elimTo_top (top : Nat) (r : List Int) (c : Nat) (rows : List (List Int)) (j : Nat) (hj : j ≤ rows.length) : row (elimTo p k f top r c rows j) top = row rows top := by
  induction j with
  | zero => rfl
  | succ j ih =>
    rw [elimTo]
    split
    · exact ih (by omega)
    · rename_i e
      rw [row_setR (by rw [elimTo_len]; omega), if_neg (fun h => e h.symm)]
      exact ih (by omega)
theorem stepR_len (rows : List (List Int)) (c top : Nat) : (stepR p k f rows c top).length = rows.length := by
  unfold stepR
  rw [elimTo_len, List.length_set, List.length_set]
theorem redTo_len (rows : List (List Int)) (c : Nat) : (redTo p k f rows c).1.length = rows.length := by
  induction c with
  | zero => rfl
  | succ c ih =>
    rw [redTo]
    split
    · exact ih
    · rw [stepR_len, ih]
theorem redTo_piv (rows : List (List Int)) (c : Nat) : (redTo p k f rows c).2.length ≤ c ∧ (redTo p k f rows c).2.length ≤ rows.length := by
  induction c with
  | zero => exact ⟨Nat.le_refl _, Nat.zero_le _⟩
  | succ c ih =>
    rw [redTo]
    split
    · omega
    · rename_i h
      rw [List.length_append, List.length_singleton]
      have : (redTo p k f rows c).2.length ≠ rows.length := fun e => h (.inl e)
      omega
theorem redTo_full {rows : List (List Int)} {c d : Nat} (h : (redTo p k f rows c).2.length = rows.length) (hd : c ≤ d) : redTo p k f rows d = redTo p k f rows c := by
  induction d with
  | zero => obtain rfl : c = 0 := by omega
            rfl
  | succ d ih =>
    by_cases e : c = d + 1
    · rw [e]
    · have := ih (by omega)
      rw [redTo, if_pos (by rw [this]; exact .inl h), this]
end
theorem scaleR_nth (p : Int) (k : Nat) (f : List Int) (x : Int) {r : List Int} {i : Nat} (hi : i < r.length) : nth (scaleR p k f x r) i = mulP p k f (nth r i) x := by
  unfold scaleR
  rw [nth_get (by rw [List.length_map]; exact hi), List.getElem_map, nth_get hi]
section
variable {p : Int} {k : Nat} {f : List Int} (h0 : 0 < p)
include h0
theorem VecQ.scale (f : List Int) (x : Int) (r : List Int) : VecQ (p ^ k) (scaleR p k f x r) := fun i hi => by
  unfold scaleR at hi ⊢
  rw [List.length_map] at hi
  rw [nth_get (by rw [List.length_map]; exact hi), List.getElem_map]
  exact mulP_bd h0 k f _ _
theorem VecQ.less (f v w : List Int) (x : Int) : VecQ (p ^ k) (lessR p k f v w x) := fun i hi => by
  unfold lessR at hi ⊢
  rw [List.length_map, List.length_range] at hi
  rw [nth_map_range, if_pos hi]
  exact sumP_bd h0 k _ _ _
theorem lessR_zero {v : List Int} (f w : List Int) (hv : VecQ (p ^ k) v) : lessR p k f v w 0 = v := by
  refine nth_ext (by simp [lessR]) fun i hi => ?_
  unfold lessR at hi ⊢
  rw [List.length_map, List.length_range] at hi
  rw [nth_map_range, if_pos hi, mulP_zero h0, sumP_zero h0 k (hv i hi).1 (hv i hi).2]
theorem MatQ.elim {n : Nat} {rows : List (List Int)} (h : MatQ (p ^ k) n rows) (f : List Int) (top : Nat) (r : List Int) (c j : Nat) (hj : j ≤ rows.length) : MatQ (p ^ k) n (elimTo p k f top r c rows j) := by
  induction j with
  | zero => exact h
  | succ j ih =>
    rw [elimTo]
    split
    · exact ih (by omega)
    · have := ih (by omega)
      refine this.set ⟨?_, VecQ.less h0 f _ _ _⟩
      unfold lessR
      rw [List.length_map, List.length_range]
      exact (this j (by rw [elimTo_len]; omega)).1
theorem MatQ.lead {n : Nat} {rows : List (List Int)} (h : MatQ (p ^ k) n rows) (f : List Int) (c : Nat) {i : Nat} (hi : i < rows.length) : (leadR p k f rows c i).length = n ∧ VecQ (p ^ k) (leadR p k f rows c i) :=
  ⟨by unfold leadR scaleR; rw [List.length_map]; exact (h i hi).1, VecQ.scale h0 f _ _⟩
theorem MatQ.step {n : Nat} {rows : List (List Int)} (h : MatQ (p ^ k) n rows) (f : List Int) {c top : Nat} (ht : top < rows.length) (hp : pivAt rows c top < rows.length) : MatQ (p ^ k) n (stepR p k f rows c top) := by
  unfold stepR
  exact MatQ.elim h0 ((h.set (h top ht)).set (MatQ.lead h0 h f c hp)) f _ _ _ _ (by rw [List.length_set, List.length_set]; exact Nat.le_refl _)
theorem MatQ.red {n : Nat} {rows : List (List Int)} (h : MatQ (p ^ k) n rows) (f : List Int) (c : Nat) : MatQ (p ^ k) n (redTo p k f rows c).1 := by
  induction c with
  | zero => exact h
  | succ c ih =>
    rw [redTo]
    split
    · exact ih
    · rename_i hn
      obtain ⟨b1, b2⟩ := redTo_piv p k f rows c
      have hl := redTo_len p k f rows c
      have e1 : (redTo p k f rows c).2.length ≠ rows.length := fun e => hn (.inl e)
      have e2 : pivAt (redTo p k f rows c).1 c (redTo p k f rows c).2.length ≠ rows.length := fun e => hn (.inr e)
      obtain ⟨-, b3⟩ := pivAt_le (rows := (redTo p k f rows c).1) (c := c) (top := (redTo p k f rows c).2.length) (by omega)
      exact MatQ.step h0 ih f (by omega) (by omega)
end
theorem FldOk.nums {p : Int} {k : Nat} {f : List Int} (h : FldOk p k f) : 2 ≤ p ∧ p ≤ 61 ∧ 1 ≤ k ∧ k ≤ 6 ∧ p ^ k ≤ 64 ∧ 2 ≤ p ^ k := by
  obtain ⟨a, b⟩ := PR_bd h.pr
  obtain ⟨q, hq, q2, -⟩ := h.qnat
  exact ⟨a, b, h.k1, (pow_le64 a h.k1 h.q64).2, h.q64, by omega⟩
set_option maxHeartbeats 400000 in
theorem l03Inverse_any (g : Nat) (p : Int) (k : Nat) (A : Option Addr) (n c : Nat) (f : List Int) (a : Int) (w : World) (h : FAt w g p k A n c f) (hf : FldOk p k f) (ha : 0 < a) (ha2 : a < p ^ k) :
    Calls Tryz.prog 171 #[.pointer (some ⟨g, 0, none⟩), .int .i64 a] w (fun e w' => e = .returned (.int .i64 (finv p k f a)) ∧ Below w.heap.size w w') := by
  obtain ⟨b1, b2, b3⟩ := finv_ok hf ha ha2
  obtain ⟨-, -, -, -, hq, -⟩ := hf.nums
  have HE := Lib.hid (fun (x : Int) (h0 : 0 ≤ x) (h1 : x < p ^ k) (h2 : mulP p k f a x = 1) => finv_only hf ha ha2 h0 h1 h2)
  have H1 := Lib.hid b3
  have hmul := fun (x : Int) (wx : World) (hb : Below w.heap.size w wx) (h0 : 0 ≤ x ∧ x ≤ 64) => l03Mul_any g p k A n c f a x wx (h.keep hb) hf ⟨by omega, by omega⟩ h0
  have hbd := fun x => mulP_bd (p := p) (by have := hf.p2; omega) k f a x
  generalize p ^ k = q at *
  generalize finv p k f a = v at *
  clear b3
  go_enter Tryz.func171, Tryz.ntmps171
  go_wp2
  go_loopw [5] (fun i wr => ∃ x : Int, 1 ≤ x ∧ x ≤ v ∧ i = .int .i64 x ∧ Below w.heap.size w wr) (fun i _ => (v - intOf i).toNat)
  case atStart => exact ⟨1, by omega, by omega, rfl, Below.refl _ _⟩
  case round =>
    obtain ⟨x, hx1, hxv, rfl, hw⟩ := hrel
    have hm := hmul x wr hw ⟨by omega, by omega⟩
    by_cases he : mulP p k f a x = 1
    · have HV := Lib.hid (HE.out x (by omega) (by omega) he)
      rw [he] at hm
      clear he
      go_wp2_with fail
      refine hm.mono ?_
      rintro e w2 ⟨rfl, hb2⟩
      go_wp2
      go_ret
      exact ⟨by rw [← HV.out]; rfl, hw.trans (hb2.mono hw.size)⟩
    · have hlt : x < v := by
        rcases Int.lt_or_le x v with h | h
        · exact h
        · obtain rfl : x = v := by omega
          exact absurd H1.out he
      have he' : (mulP p k f a x != 1) = true := by simp [he]
      obtain ⟨m1, m2⟩ := hbd x
      clear he
      generalize mulP p k f a x = y at *
      go_wp2_with fail
      refine hm.mono ?_
      rintro e w2 ⟨rfl, hb2⟩
      have hw2 := hw.trans (hb2.mono hw.size)
      go_wp2
      go_roundw
      case rel => exact ⟨x + 1, by omega, by omega, by go_num, hw2⟩
      case measure => simp [intOf]; omega
def vecTo (q : Int) (v : List Int) (j : Nat) : Prop := ∀ i, i < j → 0 ≤ nth v i ∧ nth v i < q
set_option maxHeartbeats 400000 in
theorem l17Vector_any (g : Nat) (p : Int) (k : Nat) (A : Option Addr) (n c : Nat) (f : List Int) (B : Option Addr) (m d : Nat) (v : List Int) (w : World) (h : FAt w g p k A n c f) (hf : FldOk p k f) (hv : RI w B m v) (hm : m ≤ 9223372036854775807) :
    Calls Tryz.prog 109 #[.pointer (some ⟨g, 0, none⟩), .slice B m d] w (Quiet w (.bool (tB (VecQ (p ^ k) v)))) := by
  obtain ⟨p2, p61, k1, k6, hq, hq2⟩ := hf.nums
  have hsz := l03Size_any g p k A n c f w h p2 (by omega) k6
  have HL := Lib.hid hv.len
  have HQ := Lib.hid (show (fun q : Int => tB (VecQ q v)) (p ^ k) = tB (VecQ (p ^ k) v) from rfl)
  generalize p ^ k = q at *
  go_enter Tryz.func109, Tryz.ntmps109
  go_wp2_with fail
  refine hsz.mono ?_
  rintro e w1 ⟨rfl, hd1⟩
  have hri := hv.drawn hd1
  clear hsz HQ
  go_wp2
  go_loop [6] (fun i => ∃ j : Nat, j ≤ m ∧ i = .int .i64 j ∧ vecTo q v j) (fun i => m - (intOf i).toNat)
  case atStart => exact ⟨0, Nat.zero_le _, rfl, fun i h => by omega⟩
  case round =>
    obtain ⟨j, hj, rfl, hto⟩ := hrel
    have HT := Lib.hid hto
    clear hto
    by_cases hlt : j < m
    · obtain ⟨ad, rfl, hc, -⟩ := hri.get hlt
      have hin := l00In_any (nth v j) 0 (q - 1) w1
      by_cases hi : 0 ≤ nth v j ∧ nth v j ≤ q - 1
      · rw [inB_mk hi] at hin
        have HN := Lib.hid (show vecTo q v (j + 1) from fun t ht => by
          by_cases e : t = j
          · subst e; omega
          · exact HT.out t (by omega))
        clear hi
        generalize nth v j = z at *
        go_wp2_with fail
        refine hin.mono ?_
        rintro e w' ⟨rfl, rfl⟩
        go_wp2
        go_round
        case rel => exact ⟨j + 1, by omega, by go_num, HN.out⟩
        case measure => simp [intOf]; omega
      · rw [inB_not hi] at hin
        have HF := Lib.hid (show tB (VecQ q v) = false from tB_no fun hh => by have := hh j (by rw [HL.out]; exact hlt); omega)
        clear hi
        generalize nth v j = z at *
        go_wp2_with fail
        refine hin.mono ?_
        rintro e w' ⟨rfl, rfl⟩
        go_wp2
        go_ret
        exact ⟨by rw [HF.out]; rfl, hd1⟩
    · have HF := Lib.hid (show tB (VecQ q v) = true from tB_yes fun i hi => HT.out i (by rw [HL.out] at hi; omega))
      go_wp2
      go_ret
      exact ⟨by rw [HF.out]; rfl, hd1⟩
theorem scaleR_len (p : Int) (k : Nat) (f : List Int) (x : Int) (r : List Int) : (scaleR p k f x r).length = r.length := by simp [scaleR]
theorem take_next {l : List Int} {j : Nat} (h : j < l.length) : l.take j ++ [nth l j] = l.take (j + 1) := by
  rw [List.take_succ_eq_append_getElem h, nth_get h]
set_option maxHeartbeats 800000 in
theorem l17Scale_any (g : Nat) (p : Int) (k : Nat) (A : Option Addr) (n c : Nat) (f : List Int) (B : Option Addr) (m d : Nat) (v : List Int) (x : Int) (w : World) (h : FAt w g p k A n c f) (hf : FldOk p k f) (hv : RI w B m v) (hm : m ≤ 1048576) (hq : VecQ (p ^ k) v) (hx : 0 ≤ x ∧ x ≤ 64) :
    Calls Tryz.prog 149 #[.pointer (some ⟨g, 0, none⟩), .slice B m d, .int .i64 x] w (RetI w 2 (scaleR p k f x v)) := by
  obtain ⟨p2, p61, k1, k6, hq64, -⟩ := hf.nums
  have HL := Lib.hid hv.len
  have HV := Lib.hid hq
  have HB := Lib.hid (fun a b => mulP_bd (p := p) (by omega) k f a b)
  have HQ := Lib.hid hq64
  have hmul := fun (y : Int) (wx : World) (hb : Below w.heap.size w wx) (h0 : 0 ≤ y ∧ y ≤ 64) => l03Mul_any g p k A n c f y x wx (h.keep hb) hf h0 hx
  have hb1 := below_alloc w (.cells #[] 2)
  have ho0 : OI (w.alloc (.cells #[] 2)) w.heap.size 2 (some ⟨w.heap.size, 0, none⟩) 0 0 ((scaleR p k f x v).take 0) := by simpa [ints] using OI.lit w w.heap.size 2 [] (Nat.le_refl _) (by simp) (by simp [All64])
  clear hq hq64
  go_enter Tryz.func149, Tryz.ntmps149
  go_wp2
  go_loopw [7, 8] (fun l i wr => ∃ (j : Nat) (A' : Option Addr) (c' : Nat), j ≤ m ∧ i = .int .i64 j ∧ l = .slice A' j c' ∧ OI wr w.heap.size 2 A' j c' ((scaleR p k f x v).take j) ∧ Below w.heap.size w wr) (fun _ i _ => m - (intOf i).toNat)
  case atStart => exact ⟨0, _, 0, Nat.zero_le _, rfl, rfl, ho0, hb1⟩
  case round =>
    clear ho0 hb1
    obtain ⟨j, A', c', hj, rfl, rfl, ho, hw⟩ := hrel
    by_cases hlt : j < m
    · obtain ⟨ad, rfl, hc, -⟩ := (hv.keep hw).get hlt
      obtain ⟨z0, z1⟩ := HV.out j (by rw [HL.out]; exact hlt)
      have z2 := HQ.out
      have hcall := hmul (nth v j) wr hw ⟨z0, by omega⟩
      have HN := Lib.hid (show (scaleR p k f x v).take j ++ [mulP p k f (nth v j) x] = (scaleR p k f x v).take (j + 1) from by
        rw [← scaleR_nth p k f x (by rw [HL.out]; exact hlt)]
        exact take_next (by rw [scaleR_len, HL.out]; exact hlt))
      obtain ⟨m1, m2⟩ := HB.out (nth v j) x
      have hi64 : I64 (mulP p k f (nth v j) x) := ⟨by omega, by omega⟩
      clear z0 z1 z2 m1 m2
      generalize mulP p k f (nth v j) x = y at *
      generalize nth v j = z at *
      go_wp2_with fail
      refine hcall.mono ?_
      rintro e w2 ⟨rfl, hb2⟩
      have hw2 := hw.trans (hb2.mono hw.size)
      have ho2 := ho.below hb2
      have hws := hw2.size
      clear hcall hb2 ho
      go_wp2_with (at_builtin; refine app_int _ rfl (.tmp 16) (.tmp 24) rfl w.heap.size A' j c' _ rfl ho2 y w2.heap.size rfl rfl hi64 (by omega) hws ?_; intro A4 c4 w4 ho4 hg4 hf4; have hb4 := below_own hw2 hg4 hws (fun q hq => (ho2.os.lt hq).1))
      rw [HN.out] at ho4
      go_roundw
      case rel => exact ⟨j + 1, A4, c4, by omega, by go_num, rfl, ho4, hb4⟩
      case measure => simp [intOf]; omega
    · obtain rfl : m = j := by omega
      rw [List.take_of_length_le (by rw [scaleR_len, HL.out]; exact Nat.le_refl _)] at ho
      go_wp2
      go_ret
      exact ⟨_, _, _, rfl, ho, hw⟩
theorem lessR_len (p : Int) (k : Nat) (f : List Int) (v w : List Int) (x : Int) : (lessR p k f v w x).length = v.length := by simp [lessR]
theorem lessR_nth (p : Int) (k : Nat) (f : List Int) (v w : List Int) (x : Int) {i : Nat} (h : i < v.length) : nth (lessR p k f v w x) i = sumP p k (p - 1) (nth v i) (mulP p k f (nth w i) x) := by
  unfold lessR
  rw [nth_map_range, if_pos h]
set_option maxRecDepth 100000 in
set_option maxHeartbeats 1600000 in
theorem l17Less_any (g : Nat) (p : Int) (k : Nat) (A : Option Addr) (n c : Nat) (f : List Int) (B : Option Addr) (m d : Nat) (v : List Int) (C : Option Addr) (d2 : Nat) (u : List Int) (x : Int) (w : World) (h : FAt w g p k A n c f) (hf : FldOk p k f) (hv : RI w B m v) (hu : RI w C m u) (hm : m ≤ 1048576) (hqv : VecQ (p ^ k) v) (hqu : VecQ (p ^ k) u) (hx : 0 ≤ x ∧ x ≤ 64) :
    Calls Tryz.prog 165 #[.pointer (some ⟨g, 0, none⟩), .slice B m d, .slice C m d2, .int .i64 x] w (RetI w 2 (lessR p k f v u x)) := by
  obtain ⟨p2, p61, k1, k6, hq64, -⟩ := hf.nums
  have HL := Lib.hid hv.len
  have HLu := Lib.hid hu.len
  have HV := Lib.hid hqv
  have HU := Lib.hid hqu
  have H := Lib.hid h
  have HB := Lib.hid (fun a b => mulP_bd (p := p) (by omega) k f a b)
  have HBS := Lib.hid (fun c a b => sumP_bd (p := p) (by omega) k c a b)
  have HQ := Lib.hid hq64
  have hb1 := below_alloc w (.cells #[] 2)
  have ho0 : OI (w.alloc (.cells #[] 2)) w.heap.size 2 (some ⟨w.heap.size, 0, none⟩) 0 0 ((lessR p k f v u x).take 0) := by simpa [ints] using OI.lit w w.heap.size 2 [] (Nat.le_refl _) (by simp) (by simp [All64])
  clear hqv hqu hq64 h
  go_enter Tryz.func165, Tryz.ntmps165
  go_wp2
  go_loopw [9, 10] (fun l i wr => ∃ (j : Nat) (A' : Option Addr) (c' : Nat), j ≤ m ∧ i = .int .i64 j ∧ l = .slice A' j c' ∧ OI wr w.heap.size 2 A' j c' ((lessR p k f v u x).take j) ∧ Below w.heap.size w wr) (fun _ i _ => m - (intOf i).toNat)
  case atStart => exact ⟨0, _, 0, Nat.zero_le _, rfl, rfl, ho0, hb1⟩
  case round =>
    clear ho0 hb1
    obtain ⟨j, A', c', hj, rfl, rfl, ho, hw⟩ := hrel
    by_cases hlt : j < m
    · have hw0 := hw.trans (below_drewn' _ wr 1)
      have ho0 := ho.below (below_drewn wr 1)
      have HF := Lib.hid (H.out.keep hw0)
      obtain ⟨ad, rfl, ca0, -⟩ := hv.get hlt
      obtain ⟨bd, rfl, cb0, -⟩ := hu.get hlt
      have ca := below_cell hw0 ca0
      have cb := below_cell hw0 cb0
      have cp := HF.out.c0
      obtain ⟨z0, z1⟩ := HV.out j (by rw [HL.out]; exact hlt)
      obtain ⟨y0, y1⟩ := HU.out j (by rw [HLu.out]; exact hlt)
      obtain ⟨m1, m2⟩ := HB.out (nth u j) x
      have q64 := HQ.out
      have hmul := fun W hb => l03Mul_any g p k A n c f (nth u j) x W (H.out.keep hb) hf ⟨y0, by omega⟩ hx
      have hsum := fun W hb => l03Sum_any g p k A n c f (nth v j) (mulP p k f (nth u j) x) (p - 1) W (H.out.keep hb) p2 p61 q64 k6 ⟨z0, by omega⟩ ⟨m1, by omega⟩ ⟨by omega, by omega⟩
      obtain ⟨s1, s2⟩ := HBS.out (p - 1) (nth v j) (mulP p k f (nth u j) x)
      have HN := Lib.hid (show (lessR p k f v u x).take j ++ [sumP p k (p - 1) (nth v j) (mulP p k f (nth u j) x)] = (lessR p k f v u x).take (j + 1) from by
        rw [← lessR_nth p k f v u x (by rw [HL.out]; exact hlt)]
        exact take_next (by rw [lessR_len, HL.out]; exact hlt))
      have hi64 : I64 (sumP p k (p - 1) (nth v j) (mulP p k f (nth u j) x)) := ⟨by omega, by omega⟩
      have ew : IntKind.i64.wrap (p - 1) = p - 1 := IntWalk.i64_in _ (by omega)
      simp only [← World.drew_is_drewN] at ca cb cp ho0 hw0
      clear z0 z1 y0 y1 m1 m2 s1 s2 q64 ho hw HF
      generalize sumP p k (p - 1) (nth v j) (mulP p k f (nth u j) x) = r at *
      generalize mulP p k f (nth u j) x = mm at *
      generalize nth v j = vj at *
      generalize nth u j = uj at *
      go_wp2
      refine region_last (P := Tryz.prog) (S := fun w' => w'.cell? (ad.add j) = some (.int .i64 vj) ∧ w'.cell? (bd.add j) = some (.int .i64 uj) ∧ w'.cell? ⟨g, 0, none⟩ = some (.int .i64 p)) (by kernel_rfl) (by simp only [List.getLast?_cons_cons, List.getLast?_singleton]; rfl) (by dsimp only [List.dropLast]) (by kernel_rfl) ⟨ca, cb, cp⟩ ?_
      intro hS
      refine wpAnyH_take (i := 0) (v := ?_) rfl (by kernel_rfl) (by kernel_rfl) (by kernel_rfl) (fun _ _ _ h => h) (Or.inl ⟨by rfl, ?_⟩) (by assumption) ?_
      rotate_left
      · (intro w hSw; (try dsimp only at hSw); go_simp; (try with_reducible rfl))
      simp only [Act.put, List.setIfInBounds_toArray, List.set_cons_zero, List.set_cons_succ]
      refine wpAnyH_take (i := 1) (v := ?_) rfl (by kernel_rfl) (by kernel_rfl) (by kernel_rfl) (fun _ _ _ h => h) (Or.inl ⟨by rfl, ?_⟩) (by assumption) ?_
      rotate_left
      · (intro w hSw; (try dsimp only at hSw); go_simp; (try with_reducible rfl))
      simp only [Act.put, List.setIfInBounds_toArray, List.set_cons_zero, List.set_cons_succ]
      refine wpAnyH_take (i := 2) (v := ?_) rfl (by kernel_rfl) (by kernel_rfl) (by kernel_rfl) (fun _ _ _ h => h) (Or.inl ⟨by rfl, ?_⟩) (by assumption) ?_
      rotate_left
      · (intro w hSw; (try dsimp only at hSw); go_simp; (try with_reducible rfl))
      simp only [Act.put, List.setIfInBounds_toArray, List.set_cons_zero, List.set_cons_succ]
      refine wpAnyH_take (i := 3) (v := ?_) rfl (by kernel_rfl) (by kernel_rfl) (by kernel_rfl) (fun _ _ _ h => h) (Or.inl ⟨by rfl, ?_⟩) (by assumption) ?_
      rotate_left
      · (intro w hSw; (try dsimp only at hSw); go_simp; (try with_reducible rfl))
      simp only [Act.put, List.setIfInBounds_toArray, List.set_cons_zero, List.set_cons_succ]
      refine wpAnyH_take (i := 4) (v := ?_) rfl (by kernel_rfl) (by kernel_rfl) (by kernel_rfl) (fun _ _ _ h => h) (Or.inl ⟨by rfl, ?_⟩) (by assumption) ?_
      rotate_left
      · (intro w hSw; (try dsimp only at hSw); go_simp; (try with_reducible rfl))
      simp only [Act.put, List.setIfInBounds_toArray, List.set_cons_zero, List.set_cons_succ]
      refine wpAnyH_take (i := 5) (v := ?_) rfl (by kernel_rfl) (by kernel_rfl) (by kernel_rfl) (fun _ _ _ h => h) (Or.inl ⟨by rfl, ?_⟩) (by assumption) ?_
      rotate_left
      · (intro w hSw; (try dsimp only at hSw); go_simp; (try with_reducible rfl))
      simp only [Act.put, List.setIfInBounds_toArray, List.set_cons_zero, List.set_cons_succ]
      refine wpAnyH_take (i := 6) (v := ?_) rfl (by kernel_rfl) (by kernel_rfl) (by kernel_rfl) (fun _ _ _ h => h) (Or.inl ⟨by rfl, ?_⟩) (by assumption) ?_
      rotate_left
      · (intro w hSw; (try dsimp only at hSw); go_simp; (try with_reducible rfl))
      simp only [Act.put, List.setIfInBounds_toArray, List.set_cons_zero, List.set_cons_succ]
      refine wpAnyH_take (i := 7) (v := ?_) rfl (by kernel_rfl) (by kernel_rfl) (by kernel_rfl) (fun _ _ _ h => h) (Or.inl ⟨by rfl, ?_⟩) (by assumption) ?_
      rotate_left
      · (intro w hSw; (try dsimp only at hSw); go_simp; (try with_reducible rfl))
      simp only [Act.put, List.setIfInBounds_toArray, List.set_cons_zero, List.set_cons_succ]
      refine wpAnyH_take (i := 8) (v := ?_) rfl (by kernel_rfl) (by kernel_rfl) (by kernel_rfl) (fun _ _ _ h => h) (Or.inl ⟨by rfl, ?_⟩) (by assumption) ?_
      rotate_left
      · (intro w hSw; (try dsimp only at hSw); go_simp; (try with_reducible rfl))
      simp only [Act.put, List.setIfInBounds_toArray, List.set_cons_zero, List.set_cons_succ]
      refine wpAnyH_take (i := 9) (v := ?_) rfl (by kernel_rfl) (by kernel_rfl) (by kernel_rfl) (fun _ _ _ h => h) (Or.inl ⟨by rfl, ?_⟩) (by assumption) ?_
      rotate_left
      · (intro w hSw; (try dsimp only at hSw); go_simp; (try with_reducible rfl))
      simp only [Act.put, List.setIfInBounds_toArray, List.set_cons_zero, List.set_cons_succ]
      refine wpAnyH_take (i := 10) (v := ?_) rfl (by kernel_rfl) (by kernel_rfl) (by kernel_rfl) (fun _ _ _ h => h) (Or.inl ⟨by rfl, ?_⟩) (by assumption) ?_
      rotate_left
      · (intro w hSw; (try dsimp only at hSw); go_simp; (try with_reducible rfl))
      simp only [Act.put, List.setIfInBounds_toArray, List.set_cons_zero, List.set_cons_succ]
      refine wpAnyH_take (i := 11) (v := ?_) rfl (by kernel_rfl) (by kernel_rfl) (by kernel_rfl) (fun _ _ _ h => h) (Or.inl ⟨by rfl, ?_⟩) (by assumption) ?_
      rotate_left
      · (intro w hSw; (try dsimp only at hSw); go_simp; (try with_reducible rfl))
      simp only [Act.put, List.setIfInBounds_toArray, List.set_cons_zero, List.set_cons_succ]
      refine wpAnyH_take (i := 13) (v := ?_) rfl (by kernel_rfl) (by kernel_rfl) (by kernel_rfl) (fun _ _ _ h => h) (Or.inl ⟨by rfl, ?_⟩) (by assumption) ?_
      rotate_left
      · (intro w hSw; (try dsimp only at hSw); go_simp; (try with_reducible rfl))
      simp only [Act.put, List.setIfInBounds_toArray, List.set_cons_zero, List.set_cons_succ]
      refine wpAnyH_take (i := 14) (v := ?_) rfl (by kernel_rfl) (by kernel_rfl) (by kernel_rfl) (fun _ _ _ h => h) (Or.inl ⟨by rfl, ?_⟩) (by assumption) ?_
      rotate_left
      · (intro w hSw; (try dsimp only at hSw); go_simp; (try with_reducible rfl))
      simp only [Act.put, List.setIfInBounds_toArray, List.set_cons_zero, List.set_cons_succ]
      refine wpAnyH_take (i := 15) (v := ?_) rfl (by kernel_rfl) (by kernel_rfl) (by kernel_rfl) (fun _ _ _ h => h) (Or.inl ⟨by rfl, ?_⟩) (by assumption) ?_
      rotate_left
      · (intro w hSw; (try dsimp only at hSw); go_simp; (try with_reducible rfl))
      simp only [Act.put, List.setIfInBounds_toArray, List.set_cons_zero, List.set_cons_succ]
      refine wpAnyH_take (i := 16) (v := ?_) rfl (by kernel_rfl) (by kernel_rfl) (by kernel_rfl) (fun _ _ _ h => h) (Or.inl ⟨by rfl, ?_⟩) (by assumption) ?_
      rotate_left
      · (intro w hSw; (try dsimp only at hSw); go_simp; (try with_reducible rfl))
      simp only [Act.put, List.setIfInBounds_toArray, List.set_cons_zero, List.set_cons_succ]
      refine wpAnyH_take (i := 17) (v := ?_) rfl (by kernel_rfl) (by kernel_rfl) (by kernel_rfl) (fun _ _ _ h => h) (Or.inl ⟨by rfl, ?_⟩) (by assumption) ?_
      rotate_left
      · (intro w hSw; (try dsimp only at hSw); go_simp; (try with_reducible rfl))
      simp only [Act.put, List.setIfInBounds_toArray, List.set_cons_zero, List.set_cons_succ]
      simp only [List.getElem_toArray, List.getElem_cons_succ, List.getElem_cons_zero]
      generalize wr.drew = W at *
      refine wpAnyH_ready (rs := [12]) (by kernel_rfl) (by simp) ?_
      refine AllReadyH.cons rfl (fun K hK => ?_) AllReadyH.nil
      go_simp
      refine (hmul W hw0).mono ?_
      rintro e w2 ⟨rfl, hb2⟩
      dsimp only
      have hw2 := hw0.trans (hb2.mono hw0.size)
      refine hK.out _ _ ⟨below_cell hb2 ca, below_cell hb2 cb, below_cell hb2 cp⟩ (fun hS2 => ?_)
      clear hK K hS
      refine wpAnyH_ready (rs := [18]) (by kernel_rfl) (by simp) ?_
      refine AllReadyH.cons rfl (fun K hK => ?_) AllReadyH.nil
      go_simp
      refine (hsum w2 hw2).mono ?_
      rintro e w3 ⟨rfl, hb3⟩
      dsimp only
      have hb23 := hb2.trans (hb3.mono hb2.size)
      have hw3 := hw2.trans (hb3.mono hw2.size)
      have ho3 := ho0.below hb23
      refine hK.out _ _ ⟨below_cell hb23 ca, below_cell hb23 cb, below_cell hb23 cp⟩ (fun hS3 => ?_)
      clear hK K hS2
      refine wpAnyH_ready (rs := [19]) (by kernel_rfl) (by simp) ?_
      refine AllReadyH.cons rfl (fun K hK => ?_) AllReadyH.nil
      go_simp
      have hb24 := hb23.trans ((below_alloc w3 (.cells #[.int .i64 r] 2)).mono hb23.size)
      refine hK.out _ _ ⟨below_cell hb24 ca, below_cell hb24 cb, below_cell hb24 cp⟩ (fun hS4 => ?_)
      clear hK K hS3
      refine wpAnyH_ready (rs := [20]) (by kernel_rfl) (by simp) ?_
      refine AllReadyH.cons rfl (fun K hK => ?_) AllReadyH.nil
      refine step_of_list (by rfl) ?_
      refine app_int _ (by rfl) _ _ (by rfl) w.heap.size A' j c' _ (by rfl) ho3 r w3.heap.size (by rfl) rfl hi64 (by omega) hw3.size ?_
      intro A4 c4 w4 ho4 hg4 hf4
      have hb4 := below_own hw3 hg4 hw3.size (fun q hq => (ho3.os.lt hq).1)
      refine list_onlyK ?_
      have HK4 : w4.cell? (ad.add j) = some (.int .i64 vj) ∧ w4.cell? (bd.add j) = some (.int .i64 uj) ∧ w4.cell? ⟨g, 0, none⟩ = some (.int .i64 p) := ⟨below_cell hb4 ca0, below_cell hb4 cb0, below_cell hb4 H.out.c0⟩
      refine hK.out _ _ HK4 (fun hS5 => ?_)
      clear hK K hS4
      refine wpAnyH_done (by kernel_rfl) ?_ _
      dsimp only [atEnd]
      clear hS5 HK4 hmul hsum
      rw [HN.out] at ho4
      go_wp2
      go_roundw
      case rel => exact ⟨j + 1, A4, c4, by omega, by go_num, rfl, ho4, hb4⟩
      case measure => simp [intOf]; omega
    · obtain rfl : m = j := by omega
      rw [List.take_of_length_le (by rw [lessR_len, HL.out]; exact Nat.le_refl _)] at ho
      go_wp2
      go_ret
      exact ⟨_, _, _, rfl, ho, hw⟩
theorem OB.of_or {w : World} {B : Nat} {A : Option Addr} {n c : Nat} {zss : List (List Int)} (h : OR w B 22 2 A n c zss) : ∃ vs, OB w B A n c vs zss := by
  obtain ⟨vs, h⟩ := h
  exact ⟨vs, h.os, h.len, h.rows⟩
theorem OB.get {w : World} {B : Nat} {A : Option Addr} {n c : Nat} {vs : List Sl} {zss : List (List Int)} (h : OB w B A n c vs zss) {j : Nat} (hj : j < n) : ∃ g v, A = some ⟨g, 0, none⟩ ∧ vs[j]? = some v ∧ w.cell? ⟨g, j, none⟩ = some (.slice v.1 v.2.1 v.2.2) ∧ w.frozen? ⟨g, j, none⟩ = false ∧ OI w B 2 v.1 v.2.1 v.2.2 (row zss j) := by
  obtain ⟨l1, l2⟩ := h.slen
  have hv : vs[j]? = some vs[j] := List.getElem?_eq_getElem (by omega)
  have hz : zss[j]? = some zss[j] := List.getElem?_eq_getElem (by omega)
  obtain ⟨g, rfl, hc, hf⟩ := h.os.cell (j := j) (u := slv vs[j]) (by rw [List.getElem?_map, hv]; rfl)
  refine ⟨g, vs[j], rfl, hv, hc, hf, ?_⟩
  rw [row_get (by omega)]
  exact h.rows j _ _ hv hz
theorem OB.setRow {w : World} {B g n c : Nat} {vs : List Sl} {zss : List (List Int)} (h : OB w B (some ⟨g, 0, none⟩) n c vs zss) (j : Nat) {v : Sl} {z : List Int} (ho : OI w B 2 v.1 v.2.1 v.2.2 z) :
    OB (w.setCell ⟨g, j, none⟩ (.slice v.1 v.2.1 v.2.2)) B (some ⟨g, 0, none⟩) n c (vs.set j v) (zss.set j z) := by
  have far : ∀ {A2 : Option Addr} {n2 c2 : Nat} {y : List Int}, OI w B 2 A2 n2 c2 y → OI (w.setCell ⟨g, j, none⟩ (.slice v.1 v.2.1 v.2.2)) B 2 A2 n2 c2 y := fun k => k.kept grown_set (OS.typed k.os h.os (by decide))
  refine ⟨?_, by rw [List.length_set, List.length_set, h.len], fun i u y hu hy => ?_⟩
  · rw [List.map_set]
    exact h.os.set j (slv v)
  · rw [List.getElem?_set] at hu hy
    by_cases e : j = i
    · subst e
      rw [if_pos rfl] at hu hy
      split at hu
      · injection hu with hu
        subst hu
        split at hy
        · injection hy with hy
          subst hy
          exact far ho
        · cases hy
      · cases hu
    · rw [if_neg e] at hu hy
      exact far (h.rows i u y hu hy)
theorem OB.grownO {w : World} {B g n c : Nat} {vs : List Sl} {zss : List (List Int)} (h : OB w B (some ⟨g, 0, none⟩) n c vs zss) : B ≤ g ∧ g < w.heap.size := h.os.lt rfl
def SepP (vs : List Sl) (P : Option Addr) : Prop := ∀ (j : Nat) (v : Sl), vs[j]? = some v → blk v.1 = none ∨ blk v.1 ≠ blk P
theorem SepP.set {vs : List Sl} {P : Option Addr} (h : SepP vs P) (j : Nat) {v : Sl} (hv : blk v.1 = none ∨ blk v.1 ≠ blk P) : SepP (vs.set j v) P := fun i u hu => by
  rw [List.getElem?_set] at hu
  split at hu
  · split at hu
    · injection hu with hu
      subst hu
      exact hv
    · cases hu
  · exact h i u hu
theorem OB.keptP {w w' : World} {B : Nat} {A : Option Addr} {n c : Nat} {vs : List Sl} {zss : List (List Int)} {P : Option Addr} (h : OB w B A n c vs zss) (hg : w.grownBy w' (blk P)) (h0 : blk A = none ∨ blk A ≠ blk P) (hs : SepP vs P) : OB w' B A n c vs zss :=
  ⟨h.os.kept hg h0, h.len, fun j v z hv hz => (h.rows j v z hv hz).kept hg (hs j v hv)⟩
theorem fresh_sep {w w' : World} {B B2 : Nat} {e e2 : TypeId} {P Z : Option Addr} {n c n2 c2 : Nat} {x y : List Int} (hP : OI w B e P n c x) (hZ : OI w' B2 e2 Z n2 c2 y) (hB : w.heap.size ≤ B2) : blk Z = none ∨ blk Z ≠ blk P := by
  cases h : blk Z with
  | none => exact .inl rfl
  | some g3 =>
    refine .inr fun e => ?_
    have h1 := (hZ.os.lt h).1
    have h2 := (hP.os.lt e.symm).2
    omega
theorem OB.sep_new {w : World} {B : Nat} {A : Option Addr} {n c : Nat} {vs : List Sl} {zss : List (List Int)} {P' : Option Addr} (h : OB w B A n c vs zss) (hP : ∀ b, blk P' = some b → w.heap.size ≤ b) : SepP vs P' := fun j v hv => by
  obtain ⟨l1, l2⟩ := h.slen
  have hj := (List.getElem?_eq_some_iff.1 hv).1
  have hz : zss[j]? = some zss[j] := List.getElem?_eq_getElem (by omega)
  have ho := h.rows j v _ hv hz
  cases hb : blk v.1 with
  | none => exact .inl rfl
  | some g3 =>
    refine .inr fun e => ?_
    have h1 := (ho.os.lt hb).2
    have h2 := hP g3 e.symm
    omega
set_option maxRecDepth 100000 in
set_option maxHeartbeats 1600000 in
theorem l17Reduce_any (g : Nat) (p : Int) (k : Nat) (A : Option Addr) (n c : Nat) (f : List Int) (M : Option Addr) (r rc cols nn : Nat) (rows : List (List Int)) (w : World) (h : FAt w g p k A n c f) (hf : FldOk p k f) (hr : RR w M r rows) (hm : MatQ (p ^ k) nn rows) (hr1 : 1 ≤ r) (hr32 : r ≤ 1000) (hn32 : nn ≤ 1000) (hc : cols ≤ nn) :
    Calls Tryz.prog 111 #[.pointer (some ⟨g, 0, none⟩), .slice M r rc, .int .i64 cols] w (fun e w' => ∃ A' c' vs P' np pc, e = .returned (.tuple #[.slice A' r c', .slice P' np pc]) ∧ OB w' w.heap.size A' r c' vs (redTo p k f rows cols).1 ∧ OI w' w.heap.size 2 P' np pc (redTo p k f rows cols).2 ∧ Below w.heap.size w w') := by
  obtain ⟨p2, p61, k1, k6, hq64, hq2⟩ := hf.nums
  have HLr := Lib.hid hr.len
  have H := Lib.hid h
  have HM := Lib.hid (fun c => MatQ.red (p := p) (k := k) (by omega) hm f c)
  have HRL := Lib.hid (fun c => redTo_len p k f rows c)
  have HPV := Lib.hid (fun c => redTo_piv p k f rows c)
  have HQ := Lib.hid hq64
  have hcl : cells rows ≤ 1099511627776 := by
    have : cells rows ≤ rows.length * nn := by
      have : ∀ (L : List (List Int)), (∀ z ∈ L, z.length ≤ nn) → cells L ≤ L.length * nn := fun L => by
        induction L with
        | nil => intro _; simp [cells]
        | cons z L ih =>
          intro h
          have h1 := ih fun y hy => h y (List.mem_cons_of_mem _ hy)
          have h2 := h z (List.mem_cons_self ..)
          unfold cells at h1 ⊢
          rw [List.map_cons, List.sum_cons, List.length_cons, Nat.succ_mul]
          omega
      refine this rows fun z hz => ?_
      obtain ⟨i, hi, rfl⟩ := List.mem_iff_getElem.1 hz
      have := (hm i hi).1
      rw [row_get hi] at this
      omega
    have h2 : rows.length * nn ≤ 1000 * 1000 := Nat.mul_le_mul (by rw [hr.len]; exact hr32) hn32
    omega
  clear hm h hq64
  go_enter Tryz.func111, Tryz.ntmps111
  go_wp2_with fail
  refine (l17Own_any M r rc rows w hr (by omega) hcl).mono ?_
  rintro e w1 ⟨O, r1, oc, rfl, ho1, hb1⟩
  obtain rfl : r = r1 := by rw [← ho1.len, HLr.out]
  obtain ⟨vs0, hob⟩ := OB.of_or ho1
  obtain ⟨gO, -, rfl, -, -, -, -⟩ := hob.get (j := 0) (by omega)
  have hb2 := hb1.trans ((below_alloc w1 (.cells #[] 2)).mono hb1.size)
  have hob2 := hob.below (below_alloc w1 (.cells #[] 2))
  have hpv0 : OI (w1.alloc (.cells #[] 2)) w.heap.size 2 (some ⟨w1.heap.size, 0, none⟩) 0 0 [] := by simpa [ints] using OI.lit w1 w.heap.size 2 [] hb1.size (by simp) (by simp [All64])
  have hsep0 : SepP vs0 (some ⟨w1.heap.size, 0, none⟩) := hob.sep_new (fun b hb => by simp [blk] at hb; omega)
  clear hob hb1 ho1
  go_wp2
  go_loopw [9, 10, 11, 12, 13, 14] (fun pv i _ _ _ _ wr => ∃ (cc : Nat) (vs : List Sl) (P' : Option Addr) (np pc : Nat), cc ≤ cols ∧ i = .int .i64 cc ∧ pv = .slice P' np pc ∧ OB wr w.heap.size (some ⟨gO, 0, none⟩) r oc vs (redTo p k f rows cc).1 ∧ OI wr w.heap.size 2 P' np pc (redTo p k f rows cc).2 ∧ SepP vs P' ∧ Below w.heap.size w wr) (fun _ i _ _ _ _ _ => cols - (intOf i).toNat)
  case atStart => exact ⟨0, vs0, _, 0, 0, Nat.zero_le _, rfl, rfl, hob2, hpv0, hsep0, hb2⟩
  case round =>
    clear hob2 hpv0 hb2 hsep0
    obtain ⟨cc, vs, P', np, pc, hcc, rfl, rfl, hob, hpv, hsep, hw⟩ := hrel
    have hnp : (redTo p k f rows cc).2.length = np := hpv.len
    have hpr := (HPV.out cc).2
    rw [hnp, HLr.out] at hpr
    have hrl : (redTo p k f rows cc).1.length = r := by rw [HRL.out, HLr.out]
    have hmat := HM.out cc
    by_cases hcl : cc < cols
    · by_cases hfull : np < r
      · have HS1 := Lib.hid (show pivAt (redTo p k f rows cc).1 cc np = r → redTo p k f rows (cc + 1) = ((redTo p k f rows cc).1, (redTo p k f rows cc).2) from fun e => by
          rw [redTo, if_pos (.inr (by rw [hnp, e, HLr.out]))])
        have HS2 := Lib.hid (show pivAt (redTo p k f rows cc).1 cc np < r → redTo p k f rows (cc + 1) = (stepR p k f (redTo p k f rows cc).1 cc np, (redTo p k f rows cc).2 ++ [(cc : Int)]) from fun e => by
          rw [redTo, if_neg (fun h => by rcases h with h | h <;> rw [hnp, HLr.out] at h <;> omega), hnp])
        have HRC := Lib.hid hrl
        have HMT := Lib.hid hmat
        generalize (redTo p k f rows cc).1 = R at *
        generalize hPV : (redTo p k f rows cc).2 = PV at *
        clear hPV hnp hrl hmat
        have hccn : cc < nn := by omega
        go_wp2
        go_loop [12] (fun i => ∃ u : Nat, np ≤ u ∧ u ≤ r ∧ i = .int .i64 u ∧ ∀ j, np ≤ j → j < u → nth (row R j) cc = 0) (fun i => r - (intOf i).toNat)
        case atStart => exact ⟨np, Nat.le_refl _, hpr, rfl, fun j h1 h2 => by omega⟩
        case round =>
          obtain ⟨u, hu1, hu2, rfl, hz⟩ := hrel
          have HZ := Lib.hid hz
          clear hz
          by_cases hul : u < r
          · obtain ⟨gO', v, hgO, hvu, chd, fhd, hoi⟩ := hob.get hul
            cases hgO
            obtain ⟨hrl1, hrv⟩ := HMT.out u (by rw [HRC.out]; exact hul)
            have hvl : v.2.1 = nn := by rw [← hoi.len, hrl1]
            obtain ⟨v1, v2, v3⟩ := v
            simp only at hvl chd hoi
            subst hvl
            obtain ⟨ad, rfl, cval, -⟩ := hoi.reads.get hccn
            by_cases hzero : nth (row R u) cc = 0
            · have HN := Lib.hid (show ∀ j, np ≤ j → j < u + 1 → nth (row R j) cc = 0 from fun j h1 h2 => by
                by_cases e : j = u
                · subst e; exact hzero
                · exact HZ.out j h1 (by omega))
              rw [hzero] at cval
              clear hzero hrl1 hrv
              go_wp2
              go_round
              case rel => exact ⟨u + 1, by omega, by omega, by go_num, HN.out⟩
              case measure => simp [intOf]; omega
            · have HP := Lib.hid (show pivAt R cc np = u from pivAt_is hu1 (by rw [HRC.out]; exact hu2) HZ.out (fun _ => hzero))
              have HST := Lib.hid (HS2.out (by rw [HP.out]; exact hul))
              have hz' : (nth (row R u) cc == 0) = false := by simp [hzero]
              have hne' : ((u : Int) == (r : Int)) = false := by simp; omega
              have hlead := hrv cc (by rw [hrl1]; exact hccn)
              have HLD := Lib.hid (MatQ.lead (p := p) (k := k) (by omega) HMT.out f cc (i := u) (by rw [HRC.out]; exact hul))
              obtain ⟨iv1, iv2, -⟩ := finv_ok hf (a := nth (row R u) cc) (by omega) hlead.2
              have q64 := HQ.out
              have hle : leadR p k f R cc u = scaleR p k f (finv p k f (nth (row R u) cc)) (row R u) := rfl
              have hinv := fun W hb => l03Inverse_any g p k A n c f (nth (row R u) cc) W (H.out.keep hb) hf (by omega) hlead.2
              have hw0 := hw.trans (below_drewn' _ wr 1)
              have hscl := fun W (hb : Below wr.heap.size wr W) => l17Scale_any g p k A n c f (some ad) v2 v3 (row R u) (finv p k f (nth (row R u) cc)) W (H.out.keep (hw.trans (hb.mono hw.size))) hf (hoi.reads.keep hb) (by omega) hrv ⟨by omega, by omega⟩
              rw [← hle] at hscl
              have cval1 := cval
              clear hle hlead iv1 iv2 hrl1 hzero
              generalize hld : leadR p k f R cc u = ld at *
              have HLDE := Lib.hid hld
              clear hld
              generalize finv p k f (nth (row R u) cc) = iv at *
              generalize nth (row R u) cc = vv at *
              have hd1 := below_drewn wr 1
              go_wp2
              go_region_held_law (fun w' => w'.cell? ⟨gO, u, none⟩ = some (.slice (some ad) v2 v3) ∧ w'.cell? (ad.add cc) = some (.int .i64 vv))
                (first | exact ⟨chd, cval⟩ | exact ⟨below_cell hb5 chd, below_cell hb5 cval⟩ | exact ⟨below_cell hb6 chd, below_cell hb6 cval⟩)
                ((first
                  | (go_at_call 171; refine (hinv _ hw0).mono ?_; rintro e w5 ⟨rfl, hb5'⟩; have hb5 := hd1.trans (hb5'.mono hd1.size))
                  | (go_at_call 149; refine (hscl _ hb5).mono ?_; rintro e w6 ⟨ZA, zn, zc, rfl, hoz, hb6'⟩; have hb6 := hb5.trans (hb6'.mono hb5.size))))
              obtain rfl : v2 = zn := by rw [← hoz.len]; exact HLD.out.1.symm
              have hw6 := hw.trans (hb6.mono hw.size)
              have hsepZ := fresh_sep hpv hoz (show wr.heap.size ≤ w5.heap.size from hb5.size)
              have hoz := hoz.more (show w.heap.size ≤ w5.heap.size from Nat.le_trans hw.size hb5.size)
              have hob6 := hob.below hb6
              have hpv6 := hpv.below hb6
              obtain ⟨gO', vt, hgO, hvt, ctop, ftop, hot⟩ := hob6.get hfull
              cases hgO
              obtain ⟨gO', vu', hgO, hvu2, cu, fu, -⟩ := hob6.get hul
              cases hgO
              have hgB := hob6.grownO.1
              have hobA := hob6.setRow u hot
              have hozA := hoz.kept (grown_set (g := gO) (p := u) (u := .slice vt.1 vt.2.1 vt.2.2)) (OS.typed hoz.os hob6.os (by decide))
              have hpvA := hpv6.kept (grown_set (g := gO) (p := u) (u := .slice vt.1 vt.2.1 vt.2.2)) (OS.typed hpv6.os hob6.os (by decide))
              have hwA := hw6.setCell (p := ⟨gO, u, none⟩) hgB (.slice vt.1 vt.2.1 vt.2.2)
              obtain ⟨gO', vn, hgO, hvn, cn, fn, -⟩ := hobA.get hfull
              cases hgO
              have hobB := hobA.setRow np (v := (ZA, v2, zc)) hozA
              have hozB := hozA.kept (grown_set (g := gO) (p := np) (u := .slice ZA v2 zc)) (OS.typed hozA.os hobA.os (by decide))
              have hpvB := hpvA.kept (grown_set (g := gO) (p := np) (u := .slice ZA v2 zc)) (OS.typed hpvA.os hobA.os (by decide))
              have hwB := hwA.setCell (p := ⟨gO, np, none⟩) hgB (.slice ZA v2 zc)
              have hsepB := (hsep.set u (v := vt) (hsep np vt hvt)).set np (v := (ZA, v2, zc)) hsepZ
              have HST2 := Lib.hid (show (stepR p k f R cc np, PV ++ [(cc : Int)]) = redTo p k f rows (cc + 1) from HST.out.symm)
              have HSE := Lib.hid (show stepR p k f R cc np = elimTo p k f np ld cc ((R.set u (row R np)).set np ld) R.length from by
                unfold stepR
                rw [HP.out, HLDE.out])
              have HMB := Lib.hid (show ∀ j, j ≤ r → MatQ (p ^ k) v2 (elimTo p k f np ld cc ((R.set u (row R np)).set np ld) j) from fun j hj =>
                MatQ.elim (by omega) ((HMT.out.set (HMT.out np (by rw [HRC.out]; exact hfull))).set HLD.out) f np ld cc j (by rw [List.length_set, List.length_set, HRC.out]; exact hj))
              have HRB := Lib.hid (show ((R.set u (row R np)).set np ld).length = r from by rw [List.length_set, List.length_set, HRC.out])
              have hobB : OB ((w6.setCell ⟨gO, u, none⟩ (.slice vt.1 vt.2.1 vt.2.2)).setCell ⟨gO, np, none⟩ (.slice ZA v2 zc)) w.heap.size (some ⟨gO, 0, none⟩) r oc _ (elimTo p k f np ld cc ((R.set u (row R np)).set np ld) 0) := hobB
              clear hoz hozA hob6 hobA hpv6 hpvA hw6 hwA hb5 hb5' hb6 hb6' hot hob hpv hw chd fhd cval cval1 hinv hscl hw0 hoi hd1
              generalize (R.set u (row R np)).set np ld = R1 at *
              go_wp2
              clear ctop cu cn fu fn ftop
              generalize (w6.setCell ⟨gO, u, none⟩ (.slice vt.1 vt.2.1 vt.2.2)).setCell ⟨gO, np, none⟩ (.slice ZA v2 zc) = w7 at *
              go_loopw [14] (fun i wi => ∃ (j : Nat) (vs' : List Sl), j ≤ r ∧ i = .int .i64 j ∧ OB wi w.heap.size (some ⟨gO, 0, none⟩) r oc vs' (elimTo p k f np ld cc R1 j) ∧ OI wi w.heap.size 2 ZA v2 zc ld ∧ OI wi w.heap.size 2 P' np pc PV ∧ SepP vs' P' ∧ Below w.heap.size w wi) (fun i _ => r - (intOf i).toNat)
              case atStart => exact ⟨0, _, Nat.zero_le _, rfl, hobB, hozB, hpvB, hsepB, hwB⟩
              case round =>
                clear hobB hozB hpvB hwB hsepB
                obtain ⟨j, vs', hj, rfl, hob, hoz, hpv, hsep, hw⟩ := hrel
                by_cases hjr : j < r
                · by_cases hjn : j = np
                  · have HE1 := Lib.hid (show elimTo p k f np ld cc R1 (j + 1) = elimTo p k f np ld cc R1 j from by rw [elimTo, if_pos hjn])
                    have hjn' : ((j : Int) != (np : Int)) = false := by simp [hjn]
                    clear hjn
                    go_wp2
                    go_roundw
                    case rel => exact ⟨j + 1, vs', by omega, by go_num, by rw [HE1.out]; exact hob, hoz, hpv, hsep, hw⟩
                    case measure => simp [intOf]; omega
                  · have hjn' : ((j : Int) != (np : Int)) = true := by simp; omega
                    have hEl : (elimTo p k f np ld cc R1 j).length = r := by rw [elimTo_len, HRB.out]
                    have hE1 : elimTo p k f np ld cc R1 (j + 1) = (elimTo p k f np ld cc R1 j).set j (lessR p k f (row (elimTo p k f np ld cc R1 j) j) ld (nth (row (elimTo p k f np ld cc R1 j) j) cc)) := by rw [elimTo, if_neg hjn]
                    have HE1 := Lib.hid hE1
                    obtain ⟨hrl1, hrv⟩ := HMB.out j hj j (by rw [hEl]; exact hjr)
                    have hdr := below_drewn wr 1
                    have hw0 := hw.trans (below_drewn' _ wr 1)
                    have hob0 := hob.below hdr
                    have hoz0 := hoz.below hdr
                    have hpv0 := hpv.below hdr
                    obtain ⟨gO', vj, hgO, hvj, chd, fhd, hoi⟩ := hob0.get hjr
                    cases hgO
                    obtain ⟨y1, y2, y3⟩ := vj
                    have hyl : y2 = v2 := hoi.len.symm.trans hrl1
                    simp only at chd hoi
                    subst hyl
                    obtain ⟨ad2, rfl, cval, -⟩ := hoi.reads.get hccn
                    have hval := hrv cc (by rw [hrl1]; exact hccn)
                    have q64 := HQ.out
                    have hless := l17Less_any g p k A n c f (some ad2) y2 y3 _ ZA zc ld (nth (row (elimTo p k f np ld cc R1 j) j) cc) (wr.drewN 1) (H.out.keep hw0) hf hoi.reads hoz0.reads (by omega) hrv HLD.out.2 ⟨hval.1, by omega⟩
                    clear hE1 hrl1 hrv hval hEl hob hoz hpv q64
                    generalize nth (row (elimTo p k f np ld cc R1 j) j) cc = xv at *
                    generalize lessR p k f (row (elimTo p k f np ld cc R1 j) j) ld xv = nr at *
                    generalize elimTo p k f np ld cc R1 j = RJ at *
                    simp only [← World.drew_is_drewN] at chd fhd cval hless hob0 hoz0 hpv0 hw0
                    clear hoi
                    go_wp2
                    refine region_last (P := Tryz.prog) (S := fun w' => w'.cell? ⟨gO, j, none⟩ = some (.slice (some ad2) y2 y3) ∧ w'.cell? (ad2.add cc) = some (.int .i64 xv)) (by kernel_rfl) (by simp only [List.getLast?_cons_cons, List.getLast?_singleton]; rfl) (by dsimp only [List.dropLast]) (by kernel_rfl) ⟨chd, cval⟩ ?_
                    intro hS
                    refine wpAnyH_take (i := 0) (v := ?_) rfl (by kernel_rfl) (by kernel_rfl) (by kernel_rfl) (fun _ _ _ h => h) (Or.inl ⟨by rfl, ?_⟩) (by assumption) ?_
                    rotate_left
                    · (intro w hSw; (try dsimp only at hSw); go_simp; (try with_reducible rfl))
                    simp only [Act.put, List.setIfInBounds_toArray, List.set_cons_zero, List.set_cons_succ]
                    refine wpAnyH_take (i := 1) (v := ?_) rfl (by kernel_rfl) (by kernel_rfl) (by kernel_rfl) (fun _ _ _ h => h) (Or.inl ⟨by rfl, ?_⟩) (by assumption) ?_
                    rotate_left
                    · (intro w hSw; (try dsimp only at hSw); go_simp; (try with_reducible rfl))
                    simp only [Act.put, List.setIfInBounds_toArray, List.set_cons_zero, List.set_cons_succ]
                    refine wpAnyH_take (i := 2) (v := ?_) rfl (by kernel_rfl) (by kernel_rfl) (by kernel_rfl) (fun _ _ _ h => h) (Or.inl ⟨by rfl, ?_⟩) (by assumption) ?_
                    rotate_left
                    · (intro w hSw; (try dsimp only at hSw); go_simp; (try with_reducible rfl))
                    simp only [Act.put, List.setIfInBounds_toArray, List.set_cons_zero, List.set_cons_succ]
                    refine wpAnyH_take (i := 3) (v := ?_) rfl (by kernel_rfl) (by kernel_rfl) (by kernel_rfl) (fun _ _ _ h => h) (Or.inl ⟨by rfl, ?_⟩) (by assumption) ?_
                    rotate_left
                    · (intro w hSw; (try dsimp only at hSw); go_simp; (try with_reducible rfl))
                    simp only [Act.put, List.setIfInBounds_toArray, List.set_cons_zero, List.set_cons_succ]
                    refine wpAnyH_take (i := 4) (v := ?_) rfl (by kernel_rfl) (by kernel_rfl) (by kernel_rfl) (fun _ _ _ h => h) (Or.inl ⟨by rfl, ?_⟩) (by assumption) ?_
                    rotate_left
                    · (intro w hSw; (try dsimp only at hSw); go_simp; (try with_reducible rfl))
                    simp only [Act.put, List.setIfInBounds_toArray, List.set_cons_zero, List.set_cons_succ]
                    refine wpAnyH_take (i := 5) (v := ?_) rfl (by kernel_rfl) (by kernel_rfl) (by kernel_rfl) (fun _ _ _ h => h) (Or.inl ⟨by rfl, ?_⟩) (by assumption) ?_
                    rotate_left
                    · (intro w hSw; (try dsimp only at hSw); go_simp; (try with_reducible rfl))
                    simp only [Act.put, List.setIfInBounds_toArray, List.set_cons_zero, List.set_cons_succ]
                    refine wpAnyH_take (i := 6) (v := ?_) rfl (by kernel_rfl) (by kernel_rfl) (by kernel_rfl) (fun _ _ _ h => h) (Or.inl ⟨by rfl, ?_⟩) (by assumption) ?_
                    rotate_left
                    · (intro w hSw; (try dsimp only at hSw); go_simp; (try with_reducible rfl))
                    simp only [Act.put, List.setIfInBounds_toArray, List.set_cons_zero, List.set_cons_succ]
                    refine wpAnyH_take (i := 7) (v := ?_) rfl (by kernel_rfl) (by kernel_rfl) (by kernel_rfl) (fun _ _ _ h => h) (Or.inl ⟨by rfl, ?_⟩) (by assumption) ?_
                    rotate_left
                    · (intro w hSw; (try dsimp only at hSw); go_simp; (try with_reducible rfl))
                    simp only [Act.put, List.setIfInBounds_toArray, List.set_cons_zero, List.set_cons_succ]
                    refine wpAnyH_take (i := 8) (v := ?_) rfl (by kernel_rfl) (by kernel_rfl) (by kernel_rfl) (fun _ _ _ h => h) (Or.inl ⟨by rfl, ?_⟩) (by assumption) ?_
                    rotate_left
                    · (intro w hSw; (try dsimp only at hSw); go_simp; (try with_reducible rfl))
                    simp only [Act.put, List.setIfInBounds_toArray, List.set_cons_zero, List.set_cons_succ]
                    refine wpAnyH_take (i := 9) (v := ?_) rfl (by kernel_rfl) (by kernel_rfl) (by kernel_rfl) (fun _ _ _ h => h) (Or.inl ⟨by rfl, ?_⟩) (by assumption) ?_
                    rotate_left
                    · (intro w hSw; (try dsimp only at hSw); go_simp; (try with_reducible rfl))
                    simp only [Act.put, List.setIfInBounds_toArray, List.set_cons_zero, List.set_cons_succ]
                    refine wpAnyH_take (i := 10) (v := ?_) rfl (by kernel_rfl) (by kernel_rfl) (by kernel_rfl) (fun _ _ _ h => h) (Or.inl ⟨by rfl, ?_⟩) (by assumption) ?_
                    rotate_left
                    · (intro w hSw; (try dsimp only at hSw); go_simp; (try with_reducible rfl))
                    simp only [Act.put, List.setIfInBounds_toArray, List.set_cons_zero, List.set_cons_succ]
                    refine wpAnyH_take (i := 11) (v := ?_) rfl (by kernel_rfl) (by kernel_rfl) (by kernel_rfl) (fun _ _ _ h => h) (Or.inl ⟨by rfl, ?_⟩) (by assumption) ?_
                    rotate_left
                    · (intro w hSw; (try dsimp only at hSw); go_simp; (try with_reducible rfl))
                    simp only [Act.put, List.setIfInBounds_toArray, List.set_cons_zero, List.set_cons_succ]
                    refine wpAnyH_take (i := 12) (v := ?_) rfl (by kernel_rfl) (by kernel_rfl) (by kernel_rfl) (fun _ _ _ h => h) (Or.inl ⟨by rfl, ?_⟩) (by assumption) ?_
                    rotate_left
                    · (intro w hSw; (try dsimp only at hSw); go_simp; (try with_reducible rfl))
                    simp only [Act.put, List.setIfInBounds_toArray, List.set_cons_zero, List.set_cons_succ]
                    refine wpAnyH_take (i := 13) (v := ?_) rfl (by kernel_rfl) (by kernel_rfl) (by kernel_rfl) (fun _ _ _ h => h) (Or.inl ⟨by rfl, ?_⟩) (by assumption) ?_
                    rotate_left
                    · (intro w hSw; (try dsimp only at hSw); go_simp; (try with_reducible rfl))
                    simp only [Act.put, List.setIfInBounds_toArray, List.set_cons_zero, List.set_cons_succ]
                    refine wpAnyH_take (i := 14) (v := ?_) rfl (by kernel_rfl) (by kernel_rfl) (by kernel_rfl) (fun _ _ _ h => h) (Or.inl ⟨by rfl, ?_⟩) (by assumption) ?_
                    rotate_left
                    · (intro w hSw; (try dsimp only at hSw); go_simp; (try with_reducible rfl))
                    simp only [Act.put, List.setIfInBounds_toArray, List.set_cons_zero, List.set_cons_succ]
                    simp only [List.getElem_toArray, List.getElem_cons_succ, List.getElem_cons_zero]
                    generalize wr.drew = W at *
                    refine wpAnyH_ready (rs := [15]) (by kernel_rfl) (by simp) ?_
                    refine AllReadyH.cons rfl (fun K hK => ?_) AllReadyH.nil
                    go_simp
                    refine hless.mono ?_
                    rintro e w8 ⟨NA, nl, nc, rfl, hon, hb8⟩
                    dsimp only
                    have hw8 := hw0.trans (hb8.mono hw0.size)
                    have hob8 := hob0.below hb8
                    have hoz8 := hoz0.below hb8
                    have hpv8 := hpv0.below hb8
                    have hsepN := hsep.set j (v := (NA, nl, nc)) (fresh_sep hpv0 hon (Nat.le_refl _))
                    have hon8 := hon.more hw0.size
                    refine hK.out _ _ ⟨below_cell hb8 chd, below_cell hb8 cval⟩ (fun hS2 => ?_)
                    clear hK K hS
                    refine wpAnyH_ready (rs := [16]) (by kernel_rfl) (by simp) ?_
                    refine AllReadyH.cons rfl (fun K hK => ?_) AllReadyH.nil
                    go_simp
                    refine hK.out _ _ hS2 (fun hS3 => ?_)
                    clear hK K hS2
                    refine wpAnyH_done (by kernel_rfl) ?_ _
                    dsimp only [atEnd]
                    obtain ⟨gO', vx, hgO, hvx, cj, fj, -⟩ := hob8.get hjr
                    cases hgO
                    have hgB := hob8.grownO.1
                    have hobN := hob8.setRow j (v := (NA, nl, nc)) hon8
                    have hozN := hoz8.kept (grown_set (g := gO) (p := j) (u := .slice NA nl nc)) (OS.typed hoz8.os hob8.os (by decide))
                    have hpvN := hpv8.kept (grown_set (g := gO) (p := j) (u := .slice NA nl nc)) (OS.typed hpv8.os hob8.os (by decide))
                    have hwN := hw8.setCell (p := ⟨gO, j, none⟩) hgB (.slice NA nl nc)
                    rw [← HE1.out] at hobN
                    clear hS3 hless chd fhd cval hob0 hoz0 hpv0 hw0 hob8 hoz8 hpv8 hon hon8 hw8 hb8
                    go_wp2
                    go_roundw
                    case rel => exact ⟨j + 1, _, by omega, by go_num, hobN, hozN, hpvN, hsepN, hwN⟩
                    case measure => simp [intOf]; omega
                · obtain rfl : r = j := by omega
                  rw [show elimTo p k f np ld cc R1 r = stepR p k f R cc np from by rw [HSE.out, HRC.out]] at hob
                  have hi64 : I64 (cc : Int) := ⟨by omega, by omega⟩
                  have hws := hw.size
                  go_wp2_with (at_builtin; refine app_int _ rfl (.tmp 105) (.tmp 107) rfl w.heap.size P' np pc _ rfl hpv (cc : Int) wr.heap.size rfl rfl hi64 (by omega) hws ?_; intro A4 c4 w4 ho4 hg4 hf4; have hb4 := below_own hw hg4 hws (fun q hq => (hpv.os.lt hq).1); have hob4 := hob.keptP hg4 (OS.typed hob.os hpv.os (by decide)) hsep)
                  have hsep4 : SepP vs' A4 := by
                    rcases hf4 with e | ⟨q, e, hq⟩
                    · exact fun j v hv => by rw [e]; exact hsep j v hv
                    · exact hob.sep_new (fun b hb => by rw [e] at hb; injection hb with hb; omega)
                  rw [show stepR p k f R cc np = (redTo p k f rows (cc + 1)).1 from by rw [HST.out]] at hob4
                  rw [show PV ++ [(cc : Int)] = (redTo p k f rows (cc + 1)).2 from by rw [HST.out]] at ho4
                  clear hob hoz hpv hsep
                  go_roundw
                  case rel => exact ⟨cc + 1, vs', A4, np + 1, c4, by omega, by go_num, rfl, hob4, ho4, hsep4, hb4⟩
                  case measure => simp [intOf]; omega
          · obtain rfl : r = u := by omega
            have HP := Lib.hid (HS1.out (pivAt_is hu1 (by rw [HRC.out]; exact Nat.le_refl _) HZ.out (fun h => by rw [HRC.out] at h; omega)))
            go_wp2
            go_roundw
            case rel => exact ⟨cc + 1, vs, P', np, pc, by omega, by go_num, rfl, by rw [HP.out]; exact hob, by rw [HP.out]; exact hpv, hsep, hw⟩
            case measure => simp [intOf]; omega
      · have HE := Lib.hid (show redTo p k f rows cols = redTo p k f rows cc from redTo_full p k f (by rw [hnp, HLr.out]; omega) hcc)
        clear hnp hrl hmat
        go_wp2
        go_ret2
        exact ⟨_, _, vs, _, _, _, rfl, by rw [HE.out]; exact hob, by rw [HE.out]; exact hpv, hw⟩
    · obtain rfl : cols = cc := by omega
      clear hnp hrl hmat
      go_wp2
      go_ret2
      exact ⟨_, _, vs, _, _, _, rfl, hob, hpv, hw⟩
theorem RR.upto {w : World} {A : Option Addr} {n : Nat} {zss : List (List Int)} (h : RR w A n zss) {k : Nat} (hk : k ≤ n) : RR w A k (zss.take k) := by
  refine ⟨by rw [List.length_take, h.len]; omega, fun j z hz => ?_⟩
  rw [List.getElem?_take] at hz
  split at hz
  · exact h.2 j z hz
  · cases hz
def MatOk (P D : Int) (f : List Int) (rows : List (List Int)) : Prop :=
  FldZ P D f ∧ (1 ≤ rows.length ∧ rows.length ≤ 32) ∧ (1 ≤ (row rows 0).length ∧ (row rows 0).length ≤ 32) ∧ MatQ (P ^ D.toNat) (row rows 0).length rows
set_option maxRecDepth 100000 in
theorem l17Ok_any (g : Nat) (P D : Int) (A : Option Addr) (n c : Nat) (f : List Int) (M : Option Addr) (r rc : Nat) (rows : List (List Int)) (w : World) (h : FAt w g P D A n c f) (hP : I64 P) (hD : I64 D) (hn : n ≤ 9223372036854775807) (hr : RR w M r rows) (hrm : r ≤ 9223372036854775807) :
    Calls Tryz.prog 50 #[.pointer (some ⟨g, 0, none⟩), .slice M r rc] w (RetB w (tB (MatOk P D f rows))) := by
  have hcall := l03Ok_any g P D A n c f w h hP hD hn
  have HL := Lib.hid hr.len
  cases hv : tB (FldZ P D f) with
  | false =>
    have H := Lib.hid (show tB (MatOk P D f rows) = false from tB_no fun hh => by rw [tB_yes hh.1] at hv; cases hv)
    rw [hv] at hcall
    go_enter Tryz.func50, Tryz.ntmps50
    go_wp2_with (go_at_call 48; refine hcall.mono ?_; rintro e w' ⟨rfl, hb⟩)
    go_ret
    exact ⟨by rw [H.out]; rfl, hb⟩
  | true =>
    have hF := tB_true.1 hv
    obtain ⟨hD1, hfo⟩ := hF
    obtain ⟨K, rfl⟩ : ∃ K : Nat, D = (K : Int) := ⟨D.toNat, by omega⟩
    have hfo : FldOk P K f := hfo
    rw [hv] at hcall
    by_cases h0 : r = 0
    · have H := Lib.hid (show tB (MatOk P K f rows) = false from tB_no fun hh => by have := hh.2.1.1; rw [HL.out] at this; omega)
      subst h0
      go_enter Tryz.func50, Tryz.ntmps50
      go_wp2_with (go_at_call 48; refine hcall.mono ?_; rintro e w' ⟨rfl, hb⟩)
      go_ret
      exact ⟨by rw [H.out]; rfl, hb⟩
    · have h0' : ((r : Int) == 0) = false := by simp; omega
      by_cases h7 : r > 32
      · have H := Lib.hid (show tB (MatOk P K f rows) = false from tB_no fun hh => by have := hh.2.1.2; rw [HL.out] at this; omega)
        have h7' : (r : Int) > 32 := by omega
        go_enter Tryz.func50, Tryz.ntmps50
        go_wp2_with (go_at_call 48; refine hcall.mono ?_; rintro e w' ⟨rfl, hb⟩)
        go_ret
        exact ⟨by rw [H.out]; rfl, hb⟩
      · have h7' : ¬ (r : Int) > 32 := by omega
        obtain ⟨ad, Z, m, cz, rfl, hcell, hmz1, hmz2, hrz⟩ := hr.get (k := 0) (by omega)
        have hcell : w.cell? ad = some (.slice Z m cz) := hcell
        have HM := Lib.hid hrz.len
        by_cases hm0 : m = 0
        · have H := Lib.hid (show tB (MatOk P K f rows) = false from tB_no fun hh => by have := hh.2.2.1.1; rw [HM.out] at this; omega)
          subst hm0
          go_enter Tryz.func50, Tryz.ntmps50
          go_wp2_with (go_at_call 48; refine hcall.mono ?_; rintro e w' ⟨rfl, hb⟩; have hcell := below_cell hb hcell)
          go_ret
          exact ⟨by rw [H.out]; rfl, hb⟩
        · have m0' : ((m : Int) == 0) = false := by simp; omega
          by_cases hm7 : m > 32
          · have H := Lib.hid (show tB (MatOk P K f rows) = false from tB_no fun hh => by have := hh.2.2.1.2; rw [HM.out] at this; omega)
            have m7' : (m : Int) > 32 := by omega
            go_enter Tryz.func50, Tryz.ntmps50
            go_wp2_with (go_at_call 48; refine hcall.mono ?_; rintro e w' ⟨rfl, hb⟩; have hcell := below_cell hb hcell)
            go_ret
            exact ⟨by rw [H.out]; rfl, hb⟩
          · have m7' : ¬ (m : Int) > 32 := by omega
            go_enter Tryz.func50, Tryz.ntmps50
            go_wp2_with (go_at_call 48; refine hcall.mono ?_; rintro e w1 ⟨rfl, hb⟩; have hcell1 := below_cell hb hcell)
            go_loopw [5] (fun i wr => ∃ j : Nat, j ≤ r ∧ i = .int .i64 j ∧ Below w.heap.size w wr ∧ ∀ x, x < j → (row rows x).length = m ∧ VecQ (P ^ K) (row rows x)) (fun i _ => r - (intOf i).toNat)
            case atStart => exact ⟨0, Nat.zero_le _, rfl, hb, fun x hx => by omega⟩
            case round =>
              obtain ⟨j, hj, rfl, hbw, hsf⟩ := hrel
              have hcell2 := below_cell hbw hcell
              by_cases hlt : j < r
              · obtain ⟨a, Z1, m1, c1, ha, hcj, hn1, hc1, hr1⟩ := (hr.keep hbw).get hlt
                cases ha
                have HJ := Lib.hid hr1.len
                have HX := Lib.hid (show j < rows.length by rw [HL.out]; exact hlt)
                by_cases hmm : m1 = m
                · subst hmm
                  have mm' : ((m1 : Int) != (m1 : Int)) = false := by simp
                  have hvec := fun q => l17Vector_any g P K A n c f Z1 m1 c1 (row rows j) (wr.drewN q) ((h.keep hbw).keep (below_drewn wr q)) hfo (hr1.drewN q) (by omega)
                  cases hV : tB (VecQ (P ^ K) (row rows j)) with
                  | false =>
                    have H := Lib.hid (show tB (MatOk P K f rows) = false from tB_no fun hh => by have hq : VecQ (P ^ K) (row rows j) := (hh.2.2.2 j HX.out).2; rw [tB_yes hq] at hV; cases hV)
                    rw [hV] at hvec
                    go_wp2
                    go_quiet ((go_at_call 109; exact Quiet.call (hvec _)))
                    go_wp2
                    go_ret
                    exact ⟨by rw [H.out]; rfl, hbw.trans ((below_drewn wr _).mono hbw.size)⟩
                  | true =>
                    rw [hV] at hvec
                    have HS := Lib.hid (show ∀ x, x < j + 1 → (row rows x).length = m1 ∧ VecQ (P ^ K) (row rows x) from fun x hx => by
                      rcases Nat.lt_succ_iff_lt_or_eq.1 hx with h | h
                      · exact hsf x h
                      · rw [h]; exact ⟨HJ.out, tB_true.1 hV⟩)
                    clear hV hsf
                    go_wp2
                    go_quiet ((go_at_call 109; exact Quiet.call (hvec _)))
                    go_wp2
                    go_roundw
                    case rel => exact ⟨j + 1, by omega, by go_num, hbw.trans ((below_drewn wr _).mono hbw.size), HS.out⟩
                    case measure => simp [intOf]; omega
                · have mm' : ((m1 : Int) != (m : Int)) = true := by simp; omega
                  have H := Lib.hid (show tB (MatOk P K f rows) = false from tB_no fun hh => hmm (by have := (hh.2.2.2 j HX.out).1; rw [HJ.out, HM.out] at this; exact this))
                  go_wp2
                  go_quiet (fail)
                  go_wp2
                  go_ret
                  exact ⟨by rw [H.out]; rfl, hbw.trans ((below_drewn wr _).mono hbw.size)⟩
              · obtain rfl : r = j := by omega
                have H := Lib.hid (show tB (MatOk P K f rows) = true from tB_yes ⟨⟨hD1, hfo⟩, ⟨by rw [HL.out]; omega, by rw [HL.out]; omega⟩, ⟨by rw [HM.out]; omega, by rw [HM.out]; omega⟩, fun x hx => by rw [HM.out]; exact hsf x (by rw [HL.out] at hx; exact hx)⟩)
                clear hsf
                go_wp2
                go_ret
                exact ⟨by rw [H.out]; rfl, hbw⟩
def cntW (q : Int) (k : Nat) : Int := if q ^ k ≤ 4096 then q ^ k else 0
theorem cntW_no {q : Int} (h2 : 2 ≤ q) {j k : Nat} (hj : j ≤ k) (h : 4096 < q ^ j) : cntW q k = 0 := by
  unfold cntW
  have h1 : q ^ j * 1 ≤ q ^ j * q ^ (k - j) := Int.mul_le_mul_of_nonneg_left (by have := Int.pow_pos (n := q) (m := k - j) (by omega); omega) (by omega)
  rw [← Int.pow_add, show j + (k - j) = k by omega] at h1
  rw [if_neg (by omega)]
theorem l18Count_any (q : Int) (k : Nat) (w : World) (h2 : 2 ≤ q) (h64 : q ≤ 64) (hk : k ≤ 9223372036854775807) :
    Calls Tryz.prog 89 #[.int .i64 q, .int .i64 k] w (fun e w' => e = .returned (.int .i64 (cntW q k)) ∧ w' = w) := by
  have HN := Lib.hid (fun (j : Nat) (hj : j ≤ k) => cntW_no h2 (k := k) hj)
  have HP := Lib.hid (fun (j : Nat) => Int.pow_succ q j)
  have HY := Lib.hid (fun (h : q ^ k ≤ 4096) => show cntW q k = q ^ k by unfold cntW; rw [if_pos h])
  go_enter Tryz.func89, Tryz.ntmps89
  go_wp2
  go_loopw [1, 5] (fun i x wr => ∃ j : Nat, j ≤ k ∧ i = .int .i64 ((k - j : Nat) : Int) ∧ x = .int .i64 (q ^ j) ∧ 1 ≤ q ^ j ∧ q ^ j ≤ 4096 ∧ wr = w) (fun i _ _ => (intOf i).toNat)
  case atStart => exact ⟨0, Nat.zero_le _, rfl, by simp, by simp, by simp, rfl⟩
  case round =>
    obtain ⟨j, hj, rfl, rfl, h1, h4, rfl⟩ := hrel
    have hs := HP.out j
    by_cases hlt : j < k
    · have hgt : (((k - j : Nat) : Int) > 0) := by omega
      have hmul1 : q ^ j * q ≤ 4096 * 64 := Int.mul_le_mul h4 h64 (by omega) (by omega)
      have hmul0 : 1 * 1 ≤ q ^ j * q := Int.mul_le_mul h1 (by omega) (by omega) (by omega)
      have HN' := HN.out (j + 1) hlt
      have hwrap : IntKind.i64.wrap (q ^ j * q) = q ^ j * q := IntWalk.i64_in _ (by omega)
      have hwr2 : IntKind.i64.wrap (((k - j : Nat) : Int) - 1) = ((k - (j + 1) : Nat) : Int) := by rw [IntWalk.i64_in _ (by omega)]; omega
      by_cases hb : q ^ j * q > 4096
      · have H := Lib.hid (show cntW q k = 0 from HN' (by rw [hs]; omega))
        clear HN HP HY HN' hs
        generalize q ^ j = y at *
        go_wp2
        go_ret
        exact ⟨by rw [H.out]; rfl, rfl⟩
      · have HE := Lib.hid hs
        clear HN HP HY HN' hs
        generalize q ^ j = y at *
        go_wp2
        go_roundw
        case rel => exact ⟨j + 1, by omega, by first | exact rfl | rw [hwr2] | skip, by rw [HE.out], by rw [HE.out]; omega, by rw [HE.out]; omega, by trivial⟩
        case measure => simp [intOf]; omega
    · obtain rfl : k = j := by omega
      have H := HY.out h4
      have e0 : ((k - k : Nat) : Int) = 0 := by omega
      clear HN HP HY hs
      go_wp2
      go_ret
      exact ⟨by rw [H]; rfl, rfl⟩
end Go.Proofs.YtdkbcjdimhgmnaaGreat
