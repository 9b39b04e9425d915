/- Edges: what a slice of them reads as. No condition beyond those stated. -/
import Derived.Test.YtkihflnenifcgaaGreatDoorZAB
import Derived.Test.YtkihflnenifcgaaGreatDoorZAC
import Derived.Deep.OwnRows
set_option linter.unusedVariables false
set_option linter.unusedSimpArgs false
namespace Go.Proofs.YtkihflnenifcgaaGreatDoor
open Go.RowKit

abbrev Ed := Int × Int
def nthE (es : List Ed) (k : Nat) : Ed := es.getD k (0, 0)
theorem nthE_eq {es : List Ed} {k : Nat} {e : Ed} (h : es[k]? = some e) : nthE es k = e := by simp [nthE, List.getD, h]
theorem nthE_get {es : List Ed} {k : Nat} (h : k < es.length) : nthE es k = es[k] := by simp [nthE, List.getD, h]
/-- a slice of edges reads as a list -/
structure RE (w : World) (A : Option Addr) (n : Nat) (es : List Ed) : Prop where
  len : es.length = n
  at_ : ∀ j e, es[j]? = some e → ∃ g o, A = some ⟨g, o, none⟩ ∧ w.cell? ⟨g, o + j * 2, none⟩ = some (.int .i64 e.1) ∧ w.cell? ⟨g, o + j * 2 + 1, none⟩ = some (.int .i64 e.2) ∧ I64 e.1 ∧ I64 e.2
section
variable {w w' : World} {A : Option Addr} {n : Nat} {es : List Ed}
theorem RE.keep (h : RE w A n es) (hb : Below w.heap.size w w') : RE w' A n es :=
  ⟨h.len, fun j e he => let ⟨g, o, ha, h1, h2, h3⟩ := h.at_ j e he; ⟨g, o, ha, below_cell hb h1, below_cell hb h2, h3⟩⟩
theorem RE.drewN (h : RE w A n es) (q : Nat) : RE (w.drewN q) A n es := h.keep (below_drewn w q)
theorem RE.drawn (h : RE w A n es) (hd : Drawn w w') : RE w' A n es := h.keep hd.below
theorem RE.get (h : RE w A n es) {k : Nat} (hk : k < n) : ∃ g o, A = some ⟨g, o, none⟩ ∧ w.cell? ⟨g, o + k * 2, none⟩ = some (.int .i64 (nthE es k).1) ∧ w.cell? ⟨g, o + k * 2 + 1, none⟩ = some (.int .i64 (nthE es k).2) ∧ I64 (nthE es k).1 ∧ I64 (nthE es k).2 := by
  have hl : k < es.length := by rw [h.len]; exact hk
  rw [nthE_get hl]
  exact h.at_ k _ (List.getElem?_eq_getElem hl)
theorem RE.nil_ (w : World) (A : Option Addr) : RE w A 0 [] := ⟨rfl, fun j e h => by simp at h⟩
end
set_option maxHeartbeats 400000 in
theorem eqEdge_any (a b c d : Int) (w : World) : Calls Tryz.prog 67 #[.agg #[.int .i64 a, .int .i64 b], .agg #[.int .i64 c, .int .i64 d]] w fun e w' => e = .returned (.bool (a == c && b == d)) ∧ Below w.heap.size w w' := by
  have hb := below_then (below_alloc w (.cells #[.int .i64 a, .int .i64 b] 65)) (below_alloc (w.alloc (.cells #[.int .i64 a, .int .i64 b] 65)) (.cells #[.int .i64 c, .int .i64 d] 65))
  cases h1 : (a == c) with
  | true =>
    have h1' : (a != c) = false := by simp [bne, h1]
    cases h2 : (b == d) with
    | true =>
      have h2' : (b != d) = false := by simp [bne, h2]
      clear h1 h2
      go_enter Tryz.func67, Tryz.ntmps67
      go_wp2
      go_ret
      exact ⟨rfl, hb⟩
    | false =>
      have h2' : (b != d) = true := by simp [bne, h2]
      clear h1 h2
      go_enter Tryz.func67, Tryz.ntmps67
      go_wp2
      go_ret
      exact ⟨rfl, hb⟩
  | false =>
    have h1' : (a != c) = true := by simp [bne, h1]
    clear h1
    go_enter Tryz.func67, Tryz.ntmps67
    go_wp2
    go_ret
    exact ⟨rfl, hb⟩
def upToE (xs ys : List Ed) (k : Nat) : Prop := ∀ j, j < k → nthE xs j = nthE ys j
set_option maxHeartbeats 1000000 in
theorem eqEdgeS_same (A B : Option Addr) (n m c d : Nat) (xs : List Ed) (w : World) (ha : RE w A n xs) (hb : RE w B m xs) (hn : n ≤ 9223372036854775807) :
    Calls Tryz.prog 38 #[.slice A n c, .slice B m d] w (fun e w' => e = .returned (.bool true) ∧ Below w.heap.size w w') := by
  obtain rfl : n = m := by rw [← ha.len, hb.len]
  go_enter Tryz.func38, Tryz.ntmps38
  go_wp2
  go_loopw [5] (fun i wr => ∃ k : Nat, k ≤ n ∧ i = .int .i64 k ∧ Below w.heap.size w wr) (fun i _ => n - (intOf i).toNat)
  case atStart => exact ⟨0, Nat.zero_le _, rfl, Below.refl _ _⟩
  case round =>
    obtain ⟨k, hk, rfl, hw⟩ := hrel
    by_cases hlt : k < n
    · obtain ⟨a, oa, rfl, h1, h2, i1, i2⟩ := (ha.keep hw).get hlt
      obtain ⟨b, ob, rfl, h3, h4, _, _⟩ := (hb.keep hw).get hlt
      generalize nthE xs k = e at *
      obtain ⟨e1, e2⟩ := e
      have hcall : ∀ p : Bel wr, Calls Tryz.prog 67 #[.agg #[.int .i64 e1, .int .i64 e2], .agg #[.int .i64 e1, .int .i64 e2]] p.w fun en w' => en = .returned (.bool true) ∧ Below p.w.heap.size p.w w' := fun p =>
        (eqEdge_any e1 e2 e1 e2 p.w).mono fun _ _ ⟨h, hb⟩ => ⟨by rw [h]; simp, hb⟩
      have q1 := cell_bel h1
      have q2 := cell_bel h2
      have q3 := cell_bel h3
      have q4 := cell_bel h4
      go_wp2
      refine wp_region_bel (by kernel_rfl) (by kernel_rfl) ?_
      repeat (first | go_big_quiet_step ((go_at_call 67; exact Calls.bel (hcall _))) | quiet_step ((go_at_call 67; exact Calls.bel (hcall _))))
      refine wpQuiet_nil ?_
      rintro _ ⟨⟨w2, hb2⟩, rfl⟩
      clear q1 q2 q3 q4
      go_wp2
      go_roundw
      case rel => exact ⟨k + 1, by omega, by go_num, below_then hw hb2⟩
      case measure => simp [intOf]; omega
    · go_wp2
      go_ret
      exact ⟨rfl, hw⟩

/-! edges in memory of a call's own -/
def ecells : List Ed → List Value
  | [] => []
  | e :: r => .int .i64 e.1 :: .int .i64 e.2 :: ecells r
theorem ecells_len (es : List Ed) : (ecells es).length = es.length * 2 := by
  induction es with
  | nil => rfl
  | cons e r ih => simp [ecells, ih]; omega
theorem ecells_app (a b : List Ed) : ecells (a ++ b) = ecells a ++ ecells b := by
  induction a with
  | nil => rfl
  | cons e r ih => simp [ecells, ih]
theorem ecells_at {es : List Ed} {j : Nat} {e : Ed} (h : es[j]? = some e) : (ecells es)[j * 2]? = some (.int .i64 e.1) ∧ (ecells es)[j * 2 + 1]? = some (.int .i64 e.2) := by
  induction es generalizing j with
  | nil => simp at h
  | cons x r ih =>
    cases j with
    | zero => simp at h; subst h; simp [ecells]
    | succ j =>
      have h' : r[j]? = some e := by simpa using h
      obtain ⟨h1, h2⟩ := ih h'
      rw [show (j + 1) * 2 = j * 2 + 2 by omega]
      exact ⟨by simpa [ecells] using h1, by simpa [ecells] using h2⟩
theorem ecells_set (es : List Ed) (j : Nat) (e : Ed) : ((ecells es).set (j * 2) (.int .i64 e.1)).set (j * 2 + 1) (.int .i64 e.2) = ecells (es.set j e) := by
  induction es generalizing j with
  | nil => simp [ecells]
  | cons x r ih =>
    cases j with
    | zero => simp [ecells]
    | succ j =>
      rw [show (j + 1) * 2 = j * 2 + 2 by omega]
      simp only [ecells, List.set_cons_succ, Nat.add_assoc]
      rw [← ih j]
theorem ecells_one (es : List Ed) : ∀ u ∈ ecells es, u.oneCell' = true := by
  induction es with
  | nil => intro u h; cases h
  | cons e r ih =>
    intro u h
    simp only [ecells, List.mem_cons] at h
    rcases h with rfl | rfl | h
    · rfl
    · rfl
    · exact ih u h
def All64E (es : List Ed) : Prop := ∀ e ∈ es, I64 e.1 ∧ I64 e.2
structure OE (w : World) (B : Nat) (ty : TypeId) (A : Option Addr) (n c : Nat) (es : List Ed) : Prop where
  os : OS w B ty 2 A n c (ecells es)
  all : All64E es
section
variable {w w' : World} {B : Nat} {ty : TypeId} {A : Option Addr} {n c : Nat} {es : List Ed}
theorem OE.nil_ (w : World) (B : Nat) (ty : TypeId) : OE w B ty none 0 0 [] := ⟨OS.nil_ w B ty 2, fun _ h => by cases h⟩
theorem OE.len (h : OE w B ty A n c es) : es.length = n := by have := h.os.len; rw [ecells_len] at this; omega
theorem OE.kept {r : Option Nat} (h : OE w B ty A n c es) (hg : w.grownBy w' r) (hne : blk A = none ∨ blk A ≠ r) : OE w' B ty A n c es := ⟨h.os.kept hg hne, h.all⟩
theorem OE.below (h : OE w B ty A n c es) (hb : Below w.heap.size w w') : OE w' B ty A n c es := ⟨h.os.below hb, h.all⟩
theorem OE.alloc (h : OE w B ty A n c es) (o : Obj) : OE (w.alloc o) B ty A n c es := ⟨h.os.alloc o, h.all⟩
theorem OE.more {B' : Nat} (h : OE w B ty A n c es) (hB : B' ≤ B) : OE w B' ty A n c es := ⟨h.os.more hB, h.all⟩
theorem OE.mid {B' D' : Nat} (h : OE w B ty A n c es) (hm : Mid w w' B' D') (hg : ∀ b, blk A = some b → b < B' ∨ D' ≤ b) : OE w' B ty A n c es := ⟨h.os.mid hm hg, h.all⟩
theorem OE.cell (h : OE w B ty A n c es) {k : Nat} (hk : k < n) : ∃ g, A = some ⟨g, 0, none⟩ ∧ w.cell? ⟨g, k * 2, none⟩ = some (.int .i64 (nthE es k).1) ∧ w.cell? ⟨g, k * 2 + 1, none⟩ = some (.int .i64 (nthE es k).2) ∧
    w.frozen? ⟨g, k * 2, none⟩ = false ∧ w.frozen? ⟨g, k * 2 + 1, none⟩ = false ∧ I64 (nthE es k).1 ∧ I64 (nthE es k).2 := by
  have hl : k < es.length := by rw [h.len]; exact hk
  have he : es[k]? = some (nthE es k) := by rw [nthE_get hl]; exact List.getElem?_eq_getElem hl
  obtain ⟨h1, h2⟩ := ecells_at he
  obtain ⟨g, ha, hc, hf⟩ := h.os.cell h1
  obtain ⟨g', ha', hc', hf'⟩ := h.os.cell h2
  obtain rfl : g = g' := by rw [ha] at ha'; injection ha' with ha'; injection ha'
  exact ⟨g, ha, hc, hc', hf, hf', h.all _ (List.mem_of_getElem? he)⟩
theorem OE.reads (h : OE w B ty A n c es) : RE w A n es := by
  refine ⟨h.len, fun j e he => ?_⟩
  obtain ⟨h1, h2⟩ := ecells_at he
  obtain ⟨g, ha, hc, hf⟩ := h.os.cell h1
  obtain ⟨g', ha', hc', hf'⟩ := h.os.cell h2
  obtain rfl : g = g' := by rw [ha] at ha'; injection ha' with ha'; injection ha'
  exact ⟨g, 0, ha, by rw [Nat.zero_add]; exact hc, by rw [Nat.zero_add]; exact hc', h.all e (List.mem_of_getElem? he)⟩
theorem OE.set {g : Nat} (h : OE w B ty (some ⟨g, 0, none⟩) n c es) (j : Nat) {a b : Int} (ha : I64 a) (hb : I64 b) : OE ((w.setCell ⟨g, j * 2, none⟩ (.int .i64 a)).setCell ⟨g, j * 2 + 1, none⟩ (.int .i64 b)) B ty (some ⟨g, 0, none⟩) n c (es.set j (a, b)) :=
  ⟨by have := (h.os.set (j * 2) (.int .i64 a)).set (j * 2 + 1) (.int .i64 b); rwa [ecells_set es j (a, b)] at this,
   fun e he => (List.mem_or_eq_of_mem_set he).elim (h.all e) (fun q => by rw [q]; exact ⟨ha, hb⟩)⟩
end
theorem madeCells_two (z : Value) (m : Nat) : (madeCells #[z, z] m).toList = List.replicate m z := by
  apply List.ext_getElem?
  intro i
  simp only [madeCells, Array.toList_map, Array.toList_range, List.getElem?_map]
  by_cases hi : i < m
  · rw [List.getElem?_range hi, List.getElem?_replicate, if_pos hi]
    have : i % 2 = 0 ∨ i % 2 = 1 := by omega
    rcases this with h | h <;> simp [h]
  · simp [List.getElem?_eq_none, hi]
theorem ecells_zeros (n : Nat) : ecells (List.replicate n ((0, 0) : Ed)) = List.replicate (n * 2) (.int .i64 0) := by
  induction n with
  | zero => rfl
  | succ n ih => rw [List.replicate_succ, ecells, ih, show (n + 1) * 2 = n * 2 + 1 + 1 by omega, List.replicate_succ, List.replicate_succ]
theorem OE.made (w : World) (B : Nat) (ty : TypeId) (n : Nat) (hB : B ≤ w.heap.size) (hn : n ≤ 9223372036854775807) :
    OE (w.alloc (.cells (madeCells #[.int .i64 0, .int .i64 0] (n * 2)) ty)) B ty (some ⟨w.heap.size, 0, none⟩) n n (List.replicate n (0, 0)) := by
  refine ⟨⟨by rw [ecells_len]; simp, .inr ⟨w.heap.size, n, _, rfl, hB, heap_alloc_new w _, Nat.le_refl _, hn, by rw [size_madeCells], ?_⟩⟩, fun e he => by rw [List.eq_of_mem_replicate he]; exact ⟨⟨by omega, by omega⟩, ⟨by omega, by omega⟩⟩⟩
  rw [madeCells_two, ecells_zeros]
  exact List.take_of_length_le (by simp)
theorem edge_info : (Tryz.prog.info? 65).map (fun i => (i.zero, i.size, i.bytes)) = some (some (.agg #[.int .i64 0, .int .i64 0]), 2, 16) := by kernel_rfl
theorem run_make_edges (n : Nat) (hn : n ≤ 1099511627776) (w : World) : (Instr.makeSlice 25 (.int .i64 (n : Int)) (.int .i64 (n : Int))).run Tryz.prog w = .ok (.slice (some ⟨w.heap.size, 0, none⟩) n n) (w.alloc (.cells (madeCells #[.int .i64 0, .int .i64 0] (n * 2)) 65)) := by
  obtain ⟨i, hi, hz, hs, hb⟩ := info_parts edge_info
  have := run_make (P := Tryz.prog) (w := w) 25 65 i _ Tryz.underlying25 hi hz .i64 .i64 n n (by omega) (Int.le_refl _) (by rw [hb]; omega) (by omega)
  rw [hs] at this
  simpa [Value.cells] using this
/-- the first j places copied over -/
def copiedE (xs zs : List Ed) (j : Nat) : List Ed := xs.take j ++ zs.drop j
theorem copiedE_zero (xs zs : List Ed) : copiedE xs zs 0 = zs := by simp [copiedE]
theorem copiedE_all {xs zs : List Ed} (h : xs.length = zs.length) : copiedE xs zs xs.length = xs := by
  rw [copiedE, List.take_length, List.drop_eq_nil_of_le (by omega), List.append_nil]
theorem copiedE_step {xs zs : List Ed} {j : Nat} (hx : j < xs.length) (hz : j < zs.length) : (copiedE xs zs j).set j (nthE xs j) = copiedE xs zs (j + 1) := by
  unfold copiedE
  have hl : (xs.take j).length = j := by rw [List.length_take]; omega
  rw [List.set_append_right _ _ (by omega), hl, Nat.sub_self, List.drop_eq_getElem_cons hz, List.set_cons_zero, List.take_succ_eq_append_getElem hx, nthE_get hx, List.append_assoc]
  rfl
/-- a slice of edges in memory of its own -/
def RetE (w : World) (es : List Ed) (en : Ending) (w' : World) : Prop := ∃ A n c, en = .returned (.slice A n c) ∧ OE w' w.heap.size 65 A n c es ∧ Below w.heap.size w w'
set_option maxHeartbeats 400000 in
theorem toEdge_any (a b : Int) (w : World) : Calls Tryz.prog 66 #[.agg #[.int .i64 a, .int .i64 b]] w fun e w' => e = .returned (.agg #[.int .i64 a, .int .i64 b]) ∧ Below w.heap.size w w' := by
  have hb1 := below_alloc w (.cells #[.int .i64 a, .int .i64 b] 106)
  go_enter Tryz.func66, Tryz.ntmps66
  go_wp2
  refine bodyPost_ret (v := .agg #[.int .i64 a, .int .i64 b]) (by simp [results, Tryz.results66, go_sem]) rfl ⟨rfl, ?_⟩
  repeat (refine Below.setCell ?_ (by simp <;> omega) _)
  repeat (refine Below.alloc ?_ (by simp <;> omega) _)
  exact Below.refl _ _
set_option maxHeartbeats 1000000 in
theorem toEdgeS_any (A : Option Addr) (n c : Nat) (es : List Ed) (w : World) (ha : RE w A n es) (hn : n ≤ 1099511627776) :
    Calls Tryz.prog 36 #[.slice A n c] w (RetE w es) := by
  have hla := Lib.hid ha.len
  have hmk := run_make_edges n hn
  go_enter Tryz.func36, Tryz.ntmps36
  go_wp2
  have ho0 := OE.made w w.heap.size 65 n (Nat.le_refl _) (by omega)
  have hb0 := below_alloc w (.cells (madeCells #[.int .i64 0, .int .i64 0] (n * 2)) 65)
  go_loopw [4] (fun i wr => ∃ j : Nat, j ≤ n ∧ i = .int .i64 j ∧ OE wr w.heap.size 65 (some ⟨w.heap.size, 0, none⟩) n n (copiedE es (List.replicate n (0, 0)) j) ∧ Below w.heap.size w wr) (fun i _ => n - (intOf i).toNat)
  case atStart => exact ⟨0, Nat.zero_le _, rfl, by rw [copiedE_zero]; exact ho0, hb0⟩
  case round =>
    obtain ⟨j, hj, rfl, ho, hw⟩ := hrel
    clear ho0 hb0 hmk
    by_cases hlt : j < n
    · obtain ⟨a, oa, rfl, h1, h2, i1, i2⟩ := (ha.keep hw).get hlt
      have hst := copiedE_step (xs := es) (zs := List.replicate n (0, 0)) (j := j) (by rw [hla.out]; exact hlt) (by simpa using hlt)
      generalize nthE es j = e at *
      obtain ⟨e1, e2⟩ := e
      go_wp2_with fail
      refine (toEdge_any e1 e2 _).mono ?_
      rintro en w1 ⟨rfl, hb1⟩
      have ho1 := ho.below hb1
      obtain ⟨g, hg, c1, c2, f1, f2, _, _⟩ := ho1.cell hlt
      obtain rfl : w.heap.size = g := by injection hg with hg; injection hg
      have ho2 := ho1.set j i1 i2
      rw [hst] at ho2
      have hw1 := below_then hw hb1
      have hw2 := (hw1.setCell (p := ⟨w.heap.size, j * 2, none⟩) (Nat.le_refl _) (.int .i64 e1)).setCell (p := ⟨w.heap.size, j * 2 + 1, none⟩) (Nat.le_refl _) (.int .i64 e2)
      clear ho ho1 hw hw1 hst h1 h2 hg
      go_wp2
      go_roundw
      case rel => exact ⟨j + 1, by omega, by go_num, ho2, hw2⟩
      case measure => simp [intOf]; omega
    · obtain rfl : j = n := by omega
      have ho' : OE wr w.heap.size 65 (some ⟨w.heap.size, 0, none⟩) j j es := by
        have h := copiedE_all (xs := es) (zs := List.replicate j (0, 0)) (by simp [hla.out])
        rw [hla.out] at h
        rw [h] at ho
        exact ho
      go_wp2
      go_ret
      exact ⟨_, _, _, rfl, ho', hw⟩
end Go.Proofs.YtkihflnenifcgaaGreatDoor
/- What the laws' own helpers do: mark, hold, measure and copy slices of numbers, and slices of such slices. No condition beyond those stated. -/
namespace Go.Proofs.YtkihflnenifcgaaGreatDoor
open Go.RowKit

theorem int_info : (Tryz.prog.info? 2).map (fun i => (i.zero, i.size, i.bytes)) = some (some (.int .i64 0), 1, 8) := by kernel_rfl
theorem ints_info : (Tryz.prog.info? 24).map (fun i => (i.zero, i.size, i.bytes)) = some (some (.slice none 0 0), 1, 24) := by kernel_rfl



def szF (left tot : Int) : Int := if tot ≤ left then left - tot else -1

set_option maxHeartbeats 400000 in
theorem szInt64S_any (A : Option Addr) (n c : Nat) (l : Int) (w : World) (hn : n ≤ 9223372036854775807) (h0 : 0 ≤ l) (hl : l ≤ 1048576) :
    Calls Tryz.prog 31 #[.slice A n c, .int .i64 l] w fun e w' => e = .returned (.int .i64 (szF l n)) ∧ w = w' := by
  by_cases h : (n : Int) ≤ l
  · have H := Lib.hid (show szF l n = l - n by simp [szF, h])
    go_enter Tryz.func31, Tryz.ntmps31
    go_wp2
    go_ret
    exact ⟨by rw [H.out]; rfl, rfl⟩
  · have H := Lib.hid (show szF l n = -1 by simp [szF, h])
    go_enter Tryz.func31, Tryz.ntmps31
    go_wp2
    go_ret
    exact ⟨by rw [H.out]; rfl, rfl⟩

set_option maxHeartbeats 400000 in
theorem toInt64S_any (A : Option Addr) (n c : Nat) (zs : List Int) (w : World) (ha : RI w A n zs) (hn : n ≤ 1099511627776) :
    Calls Tryz.prog 35 #[.slice A n c] w (RetI w 2 zs) := by
  have hl := Lib.hid ha.len
  have hall : All64 zs := fun z hz => by
    obtain ⟨i, hi, rfl⟩ := List.mem_iff_getElem.1 hz
    obtain ⟨ad, u, _, _, _, h⟩ := ha.at_ i _ (List.getElem?_eq_getElem hi)
    exact h
  have hmk := run_make_row' (P := Tryz.prog) 24 2 (.int .i64 0) 8 Tryz.underlying24 int_info rfl .i64 .i64 n (by omega) (by omega)
  go_enter Tryz.func35, Tryz.ntmps35
  go_wp2
  have ho0 := OI.made w w.heap.size 2 n (Nat.le_refl _) (by omega)
  have hb0 := below_alloc w (.cells (madeCells #[.int .i64 0] n) 2)
  go_loopw [4] (fun i wr => ∃ j : Nat, j ≤ n ∧ i = .int .i64 j ∧ OI wr w.heap.size 2 (some ⟨w.heap.size, 0, none⟩) n n (copied zs (List.replicate n 0) j) ∧ Below w.heap.size w wr) (fun i _ => n - (intOf i).toNat)
  case atStart => exact ⟨0, Nat.zero_le _, rfl, by rw [copied_zero]; exact ho0, hb0⟩
  case round =>
    obtain ⟨j, hj, rfl, ho, hw⟩ := hrel
    clear ho0 hb0 hmk
    by_cases hlt : j < n
    · obtain ⟨a, rfl, hcs, his⟩ := (ha.keep hw).get hlt
      obtain ⟨g, hg, hca, hfa, hia⟩ := ho.cell hlt
      obtain rfl : w.heap.size = g := by injection hg with hg; injection hg
      have ho' := ho.set j (u := nth zs j) his
      rw [copied_step (by rw [hl.out]; exact hlt) (by simpa using hlt)] at ho'
      have hw' := hw.setCell (p := ⟨w.heap.size, j, none⟩) (Nat.le_refl _) (.int .i64 (nth zs j))
      clear ho hw hg
      go_wp2
      go_roundw
      case rel => exact ⟨j + 1, by omega, by go_num, ho', hw'⟩
      case measure => simp [intOf]; omega
    · obtain rfl : j = n := by omega
      have ho' : OI wr w.heap.size 2 (some ⟨w.heap.size, 0, none⟩) j j zs := by
        have h := copied_all (xs := zs) (zs := List.replicate j 0) (by simp [hl.out])
        rw [hl.out] at h
        rw [h] at ho
        exact ho
      go_wp2
      go_ret
      exact ⟨_, _, _, rfl, ho', hw⟩


/-- the lengths of the first k rows together -/
def lens (zss : List (List Int)) : Nat → Nat
  | 0 => 0
  | k + 1 => lens zss k + (row zss k).length
def bulk (zss : List (List Int)) : Nat := zss.length + lens zss zss.length
theorem lens_mono (zss : List (List Int)) {a b : Nat} (h : a ≤ b) : lens zss a ≤ lens zss b := by
  induction h with
  | refl => exact Nat.le_refl _
  | step _ ih => exact Nat.le_trans ih (Nat.le_add_right _ _)
theorem bulk_eq {w : World} {A : Option Addr} {n : Nat} {zss : List (List Int)} (h : RR w A n zss) : bulk zss = n + lens zss n := by
  unfold bulk
  rw [h.len]
theorem lens_row (zss : List (List Int)) {k n : Nat} (h : k < n) : (row zss k).length ≤ lens zss n :=
  Nat.le_trans (Nat.le_add_left _ _) (lens_mono zss (show k + 1 ≤ n from h))


/-- the first j rows copied over -/
def copiedR (xs zs : List (List Int)) (j : Nat) : List (List Int) := xs.take j ++ zs.drop j
theorem copiedR_zero (xs zs : List (List Int)) : copiedR xs zs 0 = zs := by simp [copiedR]
theorem copiedR_all {xs zs : List (List Int)} (h : xs.length = zs.length) : copiedR xs zs xs.length = xs := by
  rw [copiedR, List.take_length, List.drop_eq_nil_of_le (by omega), List.append_nil]
theorem copiedR_step {xs zs : List (List Int)} {j : Nat} (hx : j < xs.length) (hz : j < zs.length) : (copiedR xs zs j).set j (row xs j) = copiedR xs zs (j + 1) := by
  unfold copiedR
  have hl : (xs.take j).length = j := by rw [List.length_take]; omega
  rw [List.set_append_right _ _ (by omega), hl, Nat.sub_self, List.drop_eq_getElem_cons hz, List.set_cons_zero, List.take_succ_eq_append_getElem hx, row_get hx, List.append_assoc]
  rfl

end Go.Proofs.YtkihflnenifcgaaGreatDoor
