/- The graph of a Latin square, plain. No program in sight. -/
import Derived.Test.YtdkbcjdimhgmnaaGreatRGL
import Derived.Test.YtdkbcjdimhgmnaaGreatRHF
set_option linter.unusedVariables false
set_option linter.unusedSimpArgs false
namespace Go.Proofs.YtdkbcjdimhgmnaaGreat
def sqcol (n : Nat) (cl : Bool) (v : Nat) : Int := if v < 3 * n then (if cl then 0 else ((v / n : Nat) : Int)) else 3
def sqC (n : Nat) (cl : Bool) : List Int := (List.range (3 * n + n * n)).map (sqcol n cl)
theorem sqC_len (n : Nat) (cl : Bool) : (sqC n cl).length = 3 * n + n * n := by simp [sqC]
theorem sqC_step {n : Nat} {cl : Bool} {k : Nat} (h : k < 3 * n + n * n) : (sqC n cl).take k ++ [sqcol n cl k] = (sqC n cl).take (k + 1) := by
  rw [List.take_succ_eq_append_getElem (by rw [sqC_len]; exact h)]
  simp [sqC]
def sqcell (a : List (List Int)) (n x y : Nat) : List Ed := [((x : Int), ((3 * n + n * x + y : Nat) : Int)), (((n + y : Nat) : Int), ((3 * n + n * x + y : Nat) : Int)), (2 * (n : Int) + nth (row a x) y, ((3 * n + n * x + y : Nat) : Int))]
def sqIy (a : List (List Int)) (n x j : Nat) : List Ed := (List.range j).flatMap fun y => sqcell a n x y
def sqIx (a : List (List Int)) (n k : Nat) : List Ed := (List.range k).flatMap fun x => sqIy a n x n
theorem sqIy_zero (a : List (List Int)) (n x : Nat) : sqIy a n x 0 = [] := rfl
theorem sqIy_step (a : List (List Int)) (n x j : Nat) : sqIy a n x (j + 1) = sqIy a n x j ++ sqcell a n x j := by simp [sqIy, List.range_succ, List.flatMap_append]
theorem sqIx_step (a : List (List Int)) (n k : Nat) : sqIx a n (k + 1) = sqIx a n k ++ sqIy a n k n := by simp [sqIx, List.range_succ, List.flatMap_append]
theorem sqIy_len (a : List (List Int)) (n x j : Nat) : (sqIy a n x j).length = 3 * j := by
  induction j with
  | zero => rfl
  | succ j ih => rw [sqIy_step, List.length_append, ih]; simp [sqcell]; omega
theorem sqIx_len (a : List (List Int)) (n k : Nat) : (sqIx a n k).length = 3 * n * k := by
  induction k with
  | zero => rfl
  | succ k ih => rw [sqIx_step, List.length_append, ih, sqIy_len, Nat.mul_succ]
def sqhit (a : List (List Int)) (n l x y : Nat) : Bool := l == x || l == n + y || (l : Int) == 2 * (n : Int) + nth (row a x) y
def sqEy (a : List (List Int)) (n l x j : Nat) : List Ed := ((List.range j).filter fun y => sqhit a n l x y).map fun y => ((l : Int), ((3 * n + x * n + y : Nat) : Int))
def sqEx (a : List (List Int)) (n l k : Nat) : List Ed := (List.range k).flatMap fun x => sqEy a n l x n
def sqEl (a : List (List Int)) (n k : Nat) : List Ed := (List.range k).flatMap fun l => sqEx a n l n
theorem cell_inj {n x y x' y' : Nat} (hy : y < n) (hy' : y' < n) (h : n * x + y = n * x' + y') : x = x' ∧ y = y' := by
  have h1 : (n * x + y) / n = x := by rw [Nat.mul_add_div (by omega), Nat.div_eq_of_lt hy]; omega
  have h2 : (n * x' + y') / n = x' := by rw [Nat.mul_add_div (by omega), Nat.div_eq_of_lt hy']; omega
  have hx : x = x' := by rw [← h1, ← h2, h]
  subst hx
  omega
theorem cell_lt {n x y x' y' : Nat} (hy : y < n) (h : x < x') : n * x + y < n * x' + y' := by
  have : n * (x + 1) ≤ n * x' := Nat.mul_le_mul_left n h
  rw [Nat.mul_add] at this
  omega
section
variable {a : List (List Int)} {n : Nat}
theorem sqEl_mem (e : Ed) : e ∈ sqEl a n (3 * n) ↔ ∃ l x y : Nat, e = ((l : Int), ((3 * n + n * x + y : Nat) : Int)) ∧ l < 3 * n ∧ x < n ∧ y < n ∧ sqhit a n l x y = true := by
  unfold sqEl sqEx sqEy
  simp only [List.mem_flatMap, List.mem_range, List.mem_map, List.mem_filter]
  constructor
  · rintro ⟨l, hl, x, hx, y, ⟨hy, hh⟩, rfl⟩
    exact ⟨l, x, y, by rw [Nat.mul_comm n x], hl, hx, hy, hh⟩
  · rintro ⟨l, x, y, rfl, hl, hx, hy, hh⟩
    exact ⟨l, hl, x, hx, y, ⟨hy, hh⟩, by rw [Nat.mul_comm n x]⟩
theorem sqIx_mem (e : Ed) : e ∈ sqIx a n n ↔ ∃ x y : Nat, x < n ∧ y < n ∧ e ∈ sqcell a n x y := by
  unfold sqIx sqIy
  simp only [List.mem_flatMap, List.mem_range]
  constructor
  · rintro ⟨x, hx, y, hy, h⟩; exact ⟨x, y, hx, hy, h⟩
  · rintro ⟨x, y, hx, hy, h⟩; exact ⟨x, hx, y, hy, h⟩
theorem sqEl_strict : StrictL cmpE (sqEl a n (3 * n)) := by
  unfold StrictL sqEl
  rw [List.pairwise_flatMap]
  refine ⟨fun l _ => ?_, List.pairwise_lt_range.imp fun {l m} hlm x hx y hy => ?_⟩
  · unfold sqEx
    rw [List.pairwise_flatMap]
    refine ⟨fun x _ => ?_, List.pairwise_lt_range.imp fun {x x'} hxx u hu v hv => ?_⟩
    · unfold sqEy
      rw [List.pairwise_map]
      refine (List.pairwise_lt_range.filter _).imp fun {y y'} h => (cmpE_neg _ _).2 ?_
      exact .inr ⟨rfl, by simp only []; omega⟩
    · unfold sqEy at hu hv
      obtain ⟨y, hy, rfl⟩ := List.mem_map.1 hu
      obtain ⟨y', hy', rfl⟩ := List.mem_map.1 hv
      have h1 : y < n := by simpa using (List.mem_filter.1 hy).1
      have h2 := cell_lt (n := n) (y' := y') h1 hxx
      refine (cmpE_neg _ _).2 (.inr ⟨rfl, ?_⟩)
      simp only []
      rw [Nat.mul_comm x n, Nat.mul_comm x' n]
      omega
  · unfold sqEx sqEy at hx hy
    simp only [List.mem_flatMap, List.mem_map] at hx hy
    obtain ⟨_, _, _, _, rfl⟩ := hx
    obtain ⟨_, _, _, _, rfl⟩ := hy
    exact (cmpE_neg _ _).2 (.inl (by simp only []; omega))
theorem sqg_bd (h : Square a) (hn : a.length = n) {x y : Nat} (hx : x < n) (hy : y < n) : 0 ≤ nth (row a x) y ∧ nth (row a x) y < (n : Int) := by
  obtain ⟨_, _, h1, _⟩ := h
  obtain ⟨h2, h3⟩ := h1 x (by omega)
  have := h3.bd y (by omega)
  rw [h2, hn] at this
  exact this
theorem sq_edges (h : Square a) (hn : a.length = n) : setG cmpE (sqIx a n n) = sqEl a n (3 * n) := by
  refine setG_eq cmpE_ord sqEl_strict fun e => ?_
  rw [sqEl_mem, sqIx_mem]
  constructor
  · rintro ⟨l, x, y, rfl, hl, hx, hy, hh⟩
    have hb := sqg_bd h hn hx hy
    refine ⟨x, y, hx, hy, ?_⟩
    unfold sqhit at hh
    simp only [Bool.or_eq_true, beq_iff_eq] at hh
    unfold sqcell
    rcases hh with (hh | hh) | hh
    · subst hh; simp
    · subst hh; simp
    · rw [hh]; simp
  · rintro ⟨x, y, hx, hy, he⟩
    have hb := sqg_bd h hn hx hy
    unfold sqcell at he
    simp only [List.mem_cons, List.not_mem_nil, or_false] at he
    rcases he with rfl | rfl | rfl
    · exact ⟨x, x, y, rfl, by omega, hx, hy, by unfold sqhit; simp⟩
    · exact ⟨n + y, x, y, rfl, by omega, hx, hy, by unfold sqhit; simp⟩
    · refine ⟨(2 * (n : Int) + nth (row a x) y).toNat, x, y, ?_, by omega, hx, hy, ?_⟩
      · rw [Int.toNat_of_nonneg (by omega)]
      · unfold sqhit
        rw [Int.toNat_of_nonneg (by omega)]
        simp
theorem sqIx_lt (h : Square a) (hn : a.length = n) : ∀ e ∈ sqIx a n n, e.1 < e.2 := fun e he => by
  obtain ⟨x, y, hx, hy, he⟩ := (sqIx_mem e).1 he
  have hb := sqg_bd h hn hx hy
  unfold sqcell at he
  simp only [List.mem_cons, List.not_mem_nil, or_false] at he
  rcases he with rfl | rfl | rfl <;> simp only [] <;> omega
theorem sqIx_nodup (h : Square a) (hn : a.length = n) : (sqIx a n n).Nodup := by
  unfold sqIx
  rw [List.Nodup, List.pairwise_flatMap]
  refine ⟨fun x hx => ?_, List.pairwise_lt_range.imp_of_mem fun {x x'} hx hx' hxx u hu v hv => ?_⟩
  · unfold sqIy
    rw [List.pairwise_flatMap]
    refine ⟨fun y hy => ?_, List.pairwise_lt_range.imp_of_mem fun {y y'} hy hy' hyy u hu v hv => ?_⟩
    · have hb := sqg_bd h hn (List.mem_range.1 hx) (List.mem_range.1 hy)
      have hx' := List.mem_range.1 hx
      have hy' := List.mem_range.1 hy
      unfold sqcell
      refine List.pairwise_cons.2 ⟨fun e he => ?_, List.pairwise_cons.2 ⟨fun e he => ?_, List.pairwise_singleton _ _⟩⟩
      · simp only [List.mem_cons, List.not_mem_nil, or_false] at he
        rcases he with rfl | rfl <;> simp only [ne_eq, Prod.mk.injEq] <;> omega
      · simp only [List.mem_cons, List.not_mem_nil, or_false] at he
        subst he
        simp only [ne_eq, Prod.mk.injEq]
        omega
    · intro e
      subst e
      unfold sqcell at hu hv
      simp only [List.mem_cons, List.not_mem_nil, or_false] at hu hv
      rcases hu with rfl | rfl | rfl <;> simp only [Prod.mk.injEq] at hv <;> omega
  · intro e
    subst e
    unfold sqIy at hu hv
    simp only [List.mem_flatMap, List.mem_range] at hu hv
    obtain ⟨y, hy, hu⟩ := hu
    obtain ⟨y', hy', hv⟩ := hv
    have hlt := cell_lt (n := n) (y' := y') hy hxx
    unfold sqcell at hu hv
    simp only [List.mem_cons, List.not_mem_nil, or_false] at hu hv
    rcases hu with rfl | rfl | rfl <;> simp only [Prod.mk.injEq] at hv <;> omega
end
end Go.Proofs.YtdkbcjdimhgmnaaGreat
namespace Go.Proofs.YtdkbcjdimhgmnaaGreat
open Go.RowKit
theorem sq_mul {n : Nat} (h : n ≤ 6) : 0 ≤ (n : Int) * (n : Int) ∧ (n : Int) * (n : Int) ≤ 36 := by
  have := Nat.mul_le_mul h h
  have h2 : (n : Int) * (n : Int) = ((n * n : Nat) : Int) := by simp
  rw [h2]; omega
theorem sq_mul2 {n x : Nat} (h : n ≤ 6) (hx : x ≤ n) : 0 ≤ (n : Int) * (x : Int) ∧ (n : Int) * (x : Int) ≤ 36 := by
  have := Nat.mul_le_mul h (Nat.le_trans hx h)
  have h2 : (n : Int) * (x : Int) = ((n * x : Nat) : Int) := by simp
  rw [h2]; omega
theorem div_cast (v n : Nat) : Int.tdiv (v : Int) (n : Int) = ((v / n : Nat) : Int) := by simp
theorem RE.lit3 (w : World) (ty : TypeId) (a b c d e f : Int) (h1 : I64 a) (h2 : I64 b) (h3 : I64 c) (h4 : I64 d) (h5 : I64 e) (h6 : I64 f) : RE (w.alloc (.cells #[.int .i64 a, .int .i64 b, .int .i64 c, .int .i64 d, .int .i64 e, .int .i64 f] ty)) (some ⟨w.heap.size, 0, none⟩) 3 [(a, b), (c, d), (e, f)] := by
  have B := Blk.new w ty #[.int .i64 a, .int .i64 b, .int .i64 c, .int .i64 d, .int .i64 e, .int .i64 f]
  refine ⟨rfl, fun j u hu => ?_⟩
  cases j with
  | zero =>
    simp at hu
    subst hu
    exact ⟨w.heap.size, 0, rfl, B.cell 0, B.cell 1, h1, h2⟩
  | succ j =>
    cases j with
    | zero =>
      simp at hu
      subst hu
      exact ⟨w.heap.size, 0, rfl, B.cell 2, B.cell 3, h3, h4⟩
    | succ j =>
      cases j with
      | zero =>
        simp at hu
        subst hu
        exact ⟨w.heap.size, 0, rfl, B.cell 4, B.cell 5, h5, h6⟩
      | succ j => simp at hu
section
variable {w0 wr w' : World} {rb gb : Nat} {A : Option Addr} {n c : Nat} {F : Option Addr} {m d : Nat} {cs : List Int} {es : List Ed}
end
set_option maxRecDepth 100000 in
set_option maxHeartbeats 2000000 in
theorem graphOf_any (B : Nat) (A : Option Addr) (n c : Nat) (F : Option Addr) (m d : Nat) (cs : List Int) (zs : List Ed) (w : World) (hB : B ≤ w.heap.size) (ha : OI w B 2 A n c cs) (hf : RE w F m zs) (hn : n ≤ 64) (hm : m ≤ 512) (hnd : (zs.map mmP).Nodup) :
    Calls Tryz.prog 114 #[.slice A n c, .slice F m d] w (fun e w' => ∃ F' d', e = .returned (.tuple #[.agg #[.slice A n c, .slice F' m d'], .int .i64 0]) ∧ OI w' B 2 A n c cs ∧ OE w' B 113 F' m d' (setG cmpE (zs.map mmP)) ∧ Below w.heap.size w w') := by
  have hb1 := below_alloc w (.cells #[.slice none 0 0, .slice none 0 0] 46)
  have Y := Blk.new w 46 #[.slice none 0 0, .slice none 0 0]
  have hse := sortedEdges_any F m d zs _ (hf.keep hb1) (by omega) hnd
  have hs1 : (w.alloc (.cells #[.slice none 0 0, .slice none 0 0] 46)).heap.size = w.heap.size + 1 := by simp
  rw [hs1] at hse
  go_enter Tryz.func114, Tryz.ntmps114
  go_wp2_with fail
  refine hse.mono ?_
  rintro e w2 ⟨F', d', rfl, ho2, hb2⟩
  have Y2 := Y.after (by simpa using hb2)
  obtain ⟨y0, y1⟩ := Y2.cells2
  have f0 := Y2.frozen 0
  have f1 := Y2.frozen 1
  have YF := (Y2.set_ 0 (.slice A n c)).set_ 1 (.slice F' m d')
  obtain ⟨z0, z1⟩ : (((w2.setCell ⟨w.heap.size, 0, none⟩ (.slice A n c)).setCell ⟨w.heap.size, 1, none⟩ (.slice F' m d')).cell? ⟨w.heap.size, 0, none⟩ = some (.slice A n c)) ∧ (((w2.setCell ⟨w.heap.size, 0, none⟩ (.slice A n c)).setCell ⟨w.heap.size, 1, none⟩ (.slice F' m d')).cell? ⟨w.heap.size, 1, none⟩ = some (.slice F' m d')) := ⟨YF.cell 0, YF.cell 1⟩
  clear hse
  go_wp2
  have hw2 := hb1.trans (hb2.mono (by simp))
  have o1 := ha.below hw2
  have o2 := ho2.more (B' := B) (by omega)
  have e1 : some w.heap.size ≠ blk A := OS.typed' o1.os Y2 (by decide)
  have e2 : some w.heap.size ≠ blk F' := OS.typed' o2.os Y2 (by decide)
  have o1 := (o1.kept (grown_set (g := w.heap.size) (p := 0) (u := .slice A n c)) (.inr fun e => e1 e.symm)).kept (grown_set (g := w.heap.size) (p := 1) (u := .slice F' m d')) (.inr fun e => e1 e.symm)
  have o2 := (o2.kept (grown_set (g := w.heap.size) (p := 0) (u := .slice A n c)) (.inr fun e => e2 e.symm)).kept (grown_set (g := w.heap.size) (p := 1) (u := .slice F' m d')) (.inr fun e => e2 e.symm)
  refine bodyPost_ret (v := .tuple #[.agg #[.slice A n c, .slice F' m d'], .int .i64 0]) (by simp [results, Tryz.results114, go_sem, z0, z1]) rfl ?_
  exact ⟨_, _, rfl, o1, o2, (hw2.setCell (p := ⟨w.heap.size, 0, none⟩) (Nat.le_refl _) _).setCell (p := ⟨w.heap.size, 1, none⟩) (Nat.le_refl _) _⟩
end Go.Proofs.YtdkbcjdimhgmnaaGreat
