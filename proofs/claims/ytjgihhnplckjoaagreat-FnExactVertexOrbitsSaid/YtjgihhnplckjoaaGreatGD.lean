/- Edges: what a slice of them reads as. No condition beyond those stated. -/
import Derived.Test.YtjgihhnplckjoaaGreatGA
import Derived.Test.YtjgihhnplckjoaaGreatGB
import Derived.Deep.OwnRows
set_option linter.unusedVariables false
set_option linter.unusedSimpArgs false
namespace Go.Proofs.YtjgihhnplckjoaaGreat
open Go.RowKit

abbrev Ed := Int × Int
def nthE (es : List Ed) (k : Nat) : Ed := es.getD k (0, 0)
theorem nthE_eq {es : List Ed} {k : Nat} {e : Ed} (h : es[k]? = some e) : nthE es k = e := by simp [nthE, List.getD, h]
theorem nthE_get {es : List Ed} {k : Nat} (h : k < es.length) : nthE es k = es[k] := by simp [nthE, List.getD, h]
/-- a slice of edges reads as a list -/
structure RE (w : World) (A : Option Addr) (n : Nat) (es : List Ed) : Prop where
  len : es.length = n
  at_ : ∀ j e, es[j]? = some e → ∃ g o, A = some ⟨g, o, none⟩ ∧ w.cell? ⟨g, o + j * 2, none⟩ = some (.int .i64 e.1) ∧ w.cell? ⟨g, o + j * 2 + 1, none⟩ = some (.int .i64 e.2) ∧ I64 e.1 ∧ I64 e.2
section
variable {w w' : World} {A : Option Addr} {n : Nat} {es : List Ed}
theorem RE.keep (h : RE w A n es) (hb : Below w.heap.size w w') : RE w' A n es :=
  ⟨h.len, fun j e he => let ⟨g, o, ha, h1, h2, h3⟩ := h.at_ j e he; ⟨g, o, ha, below_cell hb h1, below_cell hb h2, h3⟩⟩
theorem RE.drewN (h : RE w A n es) (q : Nat) : RE (w.drewN q) A n es := h.keep (below_drewn w q)
theorem RE.drawn (h : RE w A n es) (hd : Drawn w w') : RE w' A n es := h.keep hd.below
theorem RE.get (h : RE w A n es) {k : Nat} (hk : k < n) : ∃ g o, A = some ⟨g, o, none⟩ ∧ w.cell? ⟨g, o + k * 2, none⟩ = some (.int .i64 (nthE es k).1) ∧ w.cell? ⟨g, o + k * 2 + 1, none⟩ = some (.int .i64 (nthE es k).2) ∧ I64 (nthE es k).1 ∧ I64 (nthE es k).2 := by
  have hl : k < es.length := by rw [h.len]; exact hk
  rw [nthE_get hl]
  exact h.at_ k _ (List.getElem?_eq_getElem hl)
theorem RE.nil_ (w : World) (A : Option Addr) : RE w A 0 [] := ⟨rfl, fun j e h => by simp at h⟩
end
set_option maxHeartbeats 400000 in
theorem eqEdge_any (a b c d : Int) (w : World) : Calls Tryz.prog 68 #[.agg #[.int .i64 a, .int .i64 b], .agg #[.int .i64 c, .int .i64 d]] w fun e w' => e = .returned (.bool (a == c && b == d)) ∧ Below w.heap.size w w' := by
  have hb := below_then (below_alloc w (.cells #[.int .i64 a, .int .i64 b] 86)) (below_alloc (w.alloc (.cells #[.int .i64 a, .int .i64 b] 86)) (.cells #[.int .i64 c, .int .i64 d] 86))
  cases h1 : (a == c) with
  | true =>
    have h1' : (a != c) = false := by simp [bne, h1]
    cases h2 : (b == d) with
    | true =>
      have h2' : (b != d) = false := by simp [bne, h2]
      clear h1 h2
      go_enter Tryz.func68, Tryz.ntmps68
      go_wp2
      go_ret
      exact ⟨rfl, hb⟩
    | false =>
      have h2' : (b != d) = true := by simp [bne, h2]
      clear h1 h2
      go_enter Tryz.func68, Tryz.ntmps68
      go_wp2
      go_ret
      exact ⟨rfl, hb⟩
  | false =>
    have h1' : (a != c) = true := by simp [bne, h1]
    clear h1
    go_enter Tryz.func68, Tryz.ntmps68
    go_wp2
    go_ret
    exact ⟨rfl, hb⟩
def upToE (xs ys : List Ed) (k : Nat) : Prop := ∀ j, j < k → nthE xs j = nthE ys j
set_option maxHeartbeats 1000000 in
theorem eqEdgeS_same (A B : Option Addr) (n m c d : Nat) (xs : List Ed) (w : World) (ha : RE w A n xs) (hb : RE w B m xs) (hn : n ≤ 9223372036854775807) :
    Calls Tryz.prog 42 #[.slice A n c, .slice B m d] w (fun e w' => e = .returned (.bool true) ∧ Below w.heap.size w w') := by
  obtain rfl : n = m := by rw [← ha.len, hb.len]
  go_enter Tryz.func42, Tryz.ntmps42
  go_wp2
  go_loopw [5] (fun i wr => ∃ k : Nat, k ≤ n ∧ i = .int .i64 k ∧ Below w.heap.size w wr) (fun i _ => n - (intOf i).toNat)
  case atStart => exact ⟨0, Nat.zero_le _, rfl, Below.refl _ _⟩
  case round =>
    obtain ⟨k, hk, rfl, hw⟩ := hrel
    by_cases hlt : k < n
    · obtain ⟨a, oa, rfl, h1, h2, i1, i2⟩ := (ha.keep hw).get hlt
      obtain ⟨b, ob, rfl, h3, h4, _, _⟩ := (hb.keep hw).get hlt
      generalize nthE xs k = e at *
      obtain ⟨e1, e2⟩ := e
      have hcall : ∀ p : Bel wr, Calls Tryz.prog 68 #[.agg #[.int .i64 e1, .int .i64 e2], .agg #[.int .i64 e1, .int .i64 e2]] p.w fun en w' => en = .returned (.bool true) ∧ Below p.w.heap.size p.w w' := fun p =>
        (eqEdge_any e1 e2 e1 e2 p.w).mono fun _ _ ⟨h, hb⟩ => ⟨by rw [h]; simp, hb⟩
      have q1 := cell_bel h1
      have q2 := cell_bel h2
      have q3 := cell_bel h3
      have q4 := cell_bel h4
      go_wp2
      refine wp_region_bel (by kernel_rfl) (by kernel_rfl) ?_
      repeat (first | go_big_quiet_step ((go_at_call 68; exact Calls.bel (hcall _))) | quiet_step ((go_at_call 68; exact Calls.bel (hcall _))))
      refine wpQuiet_nil ?_
      rintro _ ⟨⟨w2, hb2⟩, rfl⟩
      clear q1 q2 q3 q4
      go_wp2
      go_roundw
      case rel => exact ⟨k + 1, by omega, by go_num, below_then hw hb2⟩
      case measure => simp [intOf]; omega
    · go_wp2
      go_ret
      exact ⟨rfl, hw⟩

/-! edges in memory of a call's own -/
def ecells : List Ed → List Value
  | [] => []
  | e :: r => .int .i64 e.1 :: .int .i64 e.2 :: ecells r
theorem ecells_len (es : List Ed) : (ecells es).length = es.length * 2 := by
  induction es with
  | nil => rfl
  | cons e r ih => simp [ecells, ih]; omega
theorem ecells_app (a b : List Ed) : ecells (a ++ b) = ecells a ++ ecells b := by
  induction a with
  | nil => rfl
  | cons e r ih => simp [ecells, ih]
theorem ecells_at {es : List Ed} {j : Nat} {e : Ed} (h : es[j]? = some e) : (ecells es)[j * 2]? = some (.int .i64 e.1) ∧ (ecells es)[j * 2 + 1]? = some (.int .i64 e.2) := by
  induction es generalizing j with
  | nil => simp at h
  | cons x r ih =>
    cases j with
    | zero => simp at h; subst h; simp [ecells]
    | succ j =>
      have h' : r[j]? = some e := by simpa using h
      obtain ⟨h1, h2⟩ := ih h'
      rw [show (j + 1) * 2 = j * 2 + 2 by omega]
      exact ⟨by simpa [ecells] using h1, by simpa [ecells] using h2⟩
theorem ecells_set (es : List Ed) (j : Nat) (e : Ed) : ((ecells es).set (j * 2) (.int .i64 e.1)).set (j * 2 + 1) (.int .i64 e.2) = ecells (es.set j e) := by
  induction es generalizing j with
  | nil => simp [ecells]
  | cons x r ih =>
    cases j with
    | zero => simp [ecells]
    | succ j =>
      rw [show (j + 1) * 2 = j * 2 + 2 by omega]
      simp only [ecells, List.set_cons_succ, Nat.add_assoc]
      rw [← ih j]
theorem ecells_one (es : List Ed) : ∀ u ∈ ecells es, u.oneCell' = true := by
  induction es with
  | nil => intro u h; cases h
  | cons e r ih =>
    intro u h
    simp only [ecells, List.mem_cons] at h
    rcases h with rfl | rfl | h
    · rfl
    · rfl
    · exact ih u h
def All64E (es : List Ed) : Prop := ∀ e ∈ es, I64 e.1 ∧ I64 e.2
structure OE (w : World) (B : Nat) (ty : TypeId) (A : Option Addr) (n c : Nat) (es : List Ed) : Prop where
  os : OS w B ty 2 A n c (ecells es)
  all : All64E es
section
variable {w w' : World} {B : Nat} {ty : TypeId} {A : Option Addr} {n c : Nat} {es : List Ed}
theorem OE.nil_ (w : World) (B : Nat) (ty : TypeId) : OE w B ty none 0 0 [] := ⟨OS.nil_ w B ty 2, fun _ h => by cases h⟩
theorem OE.len (h : OE w B ty A n c es) : es.length = n := by have := h.os.len; rw [ecells_len] at this; omega
theorem OE.kept {r : Option Nat} (h : OE w B ty A n c es) (hg : w.grownBy w' r) (hne : blk A = none ∨ blk A ≠ r) : OE w' B ty A n c es := ⟨h.os.kept hg hne, h.all⟩
theorem OE.below (h : OE w B ty A n c es) (hb : Below w.heap.size w w') : OE w' B ty A n c es := ⟨h.os.below hb, h.all⟩
theorem OE.alloc (h : OE w B ty A n c es) (o : Obj) : OE (w.alloc o) B ty A n c es := ⟨h.os.alloc o, h.all⟩
theorem OE.more {B' : Nat} (h : OE w B ty A n c es) (hB : B' ≤ B) : OE w B' ty A n c es := ⟨h.os.more hB, h.all⟩
theorem OE.mid {B' D' : Nat} (h : OE w B ty A n c es) (hm : Mid w w' B' D') (hg : ∀ b, blk A = some b → b < B' ∨ D' ≤ b) : OE w' B ty A n c es := ⟨h.os.mid hm hg, h.all⟩
theorem OE.cell (h : OE w B ty A n c es) {k : Nat} (hk : k < n) : ∃ g, A = some ⟨g, 0, none⟩ ∧ w.cell? ⟨g, k * 2, none⟩ = some (.int .i64 (nthE es k).1) ∧ w.cell? ⟨g, k * 2 + 1, none⟩ = some (.int .i64 (nthE es k).2) ∧
    w.frozen? ⟨g, k * 2, none⟩ = false ∧ w.frozen? ⟨g, k * 2 + 1, none⟩ = false ∧ I64 (nthE es k).1 ∧ I64 (nthE es k).2 := by
  have hl : k < es.length := by rw [h.len]; exact hk
  have he : es[k]? = some (nthE es k) := by rw [nthE_get hl]; exact List.getElem?_eq_getElem hl
  obtain ⟨h1, h2⟩ := ecells_at he
  obtain ⟨g, ha, hc, hf⟩ := h.os.cell h1
  obtain ⟨g', ha', hc', hf'⟩ := h.os.cell h2
  obtain rfl : g = g' := by rw [ha] at ha'; injection ha' with ha'; injection ha'
  exact ⟨g, ha, hc, hc', hf, hf', h.all _ (List.mem_of_getElem? he)⟩
theorem OE.reads (h : OE w B ty A n c es) : RE w A n es := by
  refine ⟨h.len, fun j e he => ?_⟩
  obtain ⟨h1, h2⟩ := ecells_at he
  obtain ⟨g, ha, hc, hf⟩ := h.os.cell h1
  obtain ⟨g', ha', hc', hf'⟩ := h.os.cell h2
  obtain rfl : g = g' := by rw [ha] at ha'; injection ha' with ha'; injection ha'
  exact ⟨g, 0, ha, by rw [Nat.zero_add]; exact hc, by rw [Nat.zero_add]; exact hc', h.all e (List.mem_of_getElem? he)⟩
theorem OE.set {g : Nat} (h : OE w B ty (some ⟨g, 0, none⟩) n c es) (j : Nat) {a b : Int} (ha : I64 a) (hb : I64 b) : OE ((w.setCell ⟨g, j * 2, none⟩ (.int .i64 a)).setCell ⟨g, j * 2 + 1, none⟩ (.int .i64 b)) B ty (some ⟨g, 0, none⟩) n c (es.set j (a, b)) :=
  ⟨by have := (h.os.set (j * 2) (.int .i64 a)).set (j * 2 + 1) (.int .i64 b); rwa [ecells_set es j (a, b)] at this,
   fun e he => (List.mem_or_eq_of_mem_set he).elim (h.all e) (fun q => by rw [q]; exact ⟨ha, hb⟩)⟩
end
theorem madeCells_two (z : Value) (m : Nat) : (madeCells #[z, z] m).toList = List.replicate m z := by
  apply List.ext_getElem?
  intro i
  simp only [madeCells, Array.toList_map, Array.toList_range, List.getElem?_map]
  by_cases hi : i < m
  · rw [List.getElem?_range hi, List.getElem?_replicate, if_pos hi]
    have : i % 2 = 0 ∨ i % 2 = 1 := by omega
    rcases this with h | h <;> simp [h]
  · simp [List.getElem?_eq_none, hi]
theorem ecells_zeros (n : Nat) : ecells (List.replicate n ((0, 0) : Ed)) = List.replicate (n * 2) (.int .i64 0) := by
  induction n with
  | zero => rfl
  | succ n ih => rw [List.replicate_succ, ecells, ih, show (n + 1) * 2 = n * 2 + 1 + 1 by omega, List.replicate_succ, List.replicate_succ]
theorem OE.made (w : World) (B : Nat) (ty : TypeId) (n : Nat) (hB : B ≤ w.heap.size) (hn : n ≤ 9223372036854775807) :
    OE (w.alloc (.cells (madeCells #[.int .i64 0, .int .i64 0] (n * 2)) ty)) B ty (some ⟨w.heap.size, 0, none⟩) n n (List.replicate n (0, 0)) := by
  refine ⟨⟨by rw [ecells_len]; simp, .inr ⟨w.heap.size, n, _, rfl, hB, heap_alloc_new w _, Nat.le_refl _, hn, by rw [size_madeCells], ?_⟩⟩, fun e he => by rw [List.eq_of_mem_replicate he]; exact ⟨⟨by omega, by omega⟩, ⟨by omega, by omega⟩⟩⟩
  rw [madeCells_two, ecells_zeros]
  exact List.take_of_length_le (by simp)
theorem edge_info : (Tryz.prog.info? 86).map (fun i => (i.zero, i.size, i.bytes)) = some (some (.agg #[.int .i64 0, .int .i64 0]), 2, 16) := by kernel_rfl
theorem run_make_edges (n : Nat) (hn : n ≤ 1099511627776) (w : World) : (Instr.makeSlice 29 (.int .i64 (n : Int)) (.int .i64 (n : Int))).run Tryz.prog w = .ok (.slice (some ⟨w.heap.size, 0, none⟩) n n) (w.alloc (.cells (madeCells #[.int .i64 0, .int .i64 0] (n * 2)) 86)) := by
  obtain ⟨i, hi, hz, hs, hb⟩ := info_parts edge_info
  have := run_make (P := Tryz.prog) (w := w) 29 86 i _ Tryz.underlying29 hi hz .i64 .i64 n n (by omega) (Int.le_refl _) (by rw [hb]; omega) (by omega)
  rw [hs] at this
  simpa [Value.cells] using this
/-- the first j places copied over -/
def copiedE (xs zs : List Ed) (j : Nat) : List Ed := xs.take j ++ zs.drop j
theorem copiedE_zero (xs zs : List Ed) : copiedE xs zs 0 = zs := by simp [copiedE]
theorem copiedE_all {xs zs : List Ed} (h : xs.length = zs.length) : copiedE xs zs xs.length = xs := by
  rw [copiedE, List.take_length, List.drop_eq_nil_of_le (by omega), List.append_nil]
theorem copiedE_step {xs zs : List Ed} {j : Nat} (hx : j < xs.length) (hz : j < zs.length) : (copiedE xs zs j).set j (nthE xs j) = copiedE xs zs (j + 1) := by
  unfold copiedE
  have hl : (xs.take j).length = j := by rw [List.length_take]; omega
  rw [List.set_append_right _ _ (by omega), hl, Nat.sub_self, List.drop_eq_getElem_cons hz, List.set_cons_zero, List.take_succ_eq_append_getElem hx, nthE_get hx, List.append_assoc]
  rfl
/-- a slice of edges in memory of its own -/
def RetE (w : World) (es : List Ed) (en : Ending) (w' : World) : Prop := ∃ A n c, en = .returned (.slice A n c) ∧ OE w' w.heap.size 86 A n c es ∧ Below w.heap.size w w'
set_option maxHeartbeats 400000 in
theorem toEdge_any (a b : Int) (w : World) : Calls Tryz.prog 62 #[.agg #[.int .i64 a, .int .i64 b]] w fun e w' => e = .returned (.agg #[.int .i64 a, .int .i64 b]) ∧ Below w.heap.size w w' := by
  have hb1 := below_alloc w (.cells #[.int .i64 a, .int .i64 b] 88)
  go_enter Tryz.func62, Tryz.ntmps62
  go_wp2
  refine bodyPost_ret (v := .agg #[.int .i64 a, .int .i64 b]) (by simp [results, Tryz.results62, go_sem]) rfl ⟨rfl, ?_⟩
  repeat (refine Below.setCell ?_ (by simp <;> omega) _)
  repeat (refine Below.alloc ?_ (by simp <;> omega) _)
  exact Below.refl _ _
set_option maxHeartbeats 1000000 in
theorem toEdgeS_any (A : Option Addr) (n c : Nat) (es : List Ed) (w : World) (ha : RE w A n es) (hn : n ≤ 1099511627776) :
    Calls Tryz.prog 39 #[.slice A n c] w (RetE w es) := by
  have hla := Lib.hid ha.len
  have hmk := run_make_edges n hn
  go_enter Tryz.func39, Tryz.ntmps39
  go_wp2
  have ho0 := OE.made w w.heap.size 86 n (Nat.le_refl _) (by omega)
  have hb0 := below_alloc w (.cells (madeCells #[.int .i64 0, .int .i64 0] (n * 2)) 86)
  go_loopw [4] (fun i wr => ∃ j : Nat, j ≤ n ∧ i = .int .i64 j ∧ OE wr w.heap.size 86 (some ⟨w.heap.size, 0, none⟩) n n (copiedE es (List.replicate n (0, 0)) j) ∧ Below w.heap.size w wr) (fun i _ => n - (intOf i).toNat)
  case atStart => exact ⟨0, Nat.zero_le _, rfl, by rw [copiedE_zero]; exact ho0, hb0⟩
  case round =>
    obtain ⟨j, hj, rfl, ho, hw⟩ := hrel
    clear ho0 hb0 hmk
    by_cases hlt : j < n
    · obtain ⟨a, oa, rfl, h1, h2, i1, i2⟩ := (ha.keep hw).get hlt
      have hst := copiedE_step (xs := es) (zs := List.replicate n (0, 0)) (j := j) (by rw [hla.out]; exact hlt) (by simpa using hlt)
      generalize nthE es j = e at *
      obtain ⟨e1, e2⟩ := e
      go_wp2_with fail
      refine (toEdge_any e1 e2 _).mono ?_
      rintro en w1 ⟨rfl, hb1⟩
      have ho1 := ho.below hb1
      obtain ⟨g, hg, c1, c2, f1, f2, _, _⟩ := ho1.cell hlt
      obtain rfl : w.heap.size = g := by injection hg with hg; injection hg
      have ho2 := ho1.set j i1 i2
      rw [hst] at ho2
      have hw1 := below_then hw hb1
      have hw2 := (hw1.setCell (p := ⟨w.heap.size, j * 2, none⟩) (Nat.le_refl _) (.int .i64 e1)).setCell (p := ⟨w.heap.size, j * 2 + 1, none⟩) (Nat.le_refl _) (.int .i64 e2)
      clear ho ho1 hw hw1 hst h1 h2 hg
      go_wp2
      go_roundw
      case rel => exact ⟨j + 1, by omega, by go_num, ho2, hw2⟩
      case measure => simp [intOf]; omega
    · obtain rfl : j = n := by omega
      have ho' : OE wr w.heap.size 86 (some ⟨w.heap.size, 0, none⟩) j j es := by
        have h := copiedE_all (xs := es) (zs := List.replicate j (0, 0)) (by simp [hla.out])
        rw [hla.out] at h
        rw [h] at ho
        exact ho
      go_wp2
      go_ret
      exact ⟨_, _, _, rfl, ho', hw⟩
end Go.Proofs.YtjgihhnplckjoaaGreat
/- Graphs: what the laws' own helpers do with them. No condition beyond those stated. -/
namespace Go.Proofs.YtjgihhnplckjoaaGreat
open Go.RowKit

/-- a graph in memory of a call's own, from B on and below D -/
structure OG (w : World) (B D : Nat) (A : Option Addr) (n c : Nat) (F : Option Addr) (m d : Nat) (cs : List Int) (es : List Ed) : Prop where
  oi : OI w B 2 A n c cs
  oe : OE w B 86 F m d es
  la : ∀ b, blk A = some b → b < D
  lf : ∀ b, blk F = some b → b < D
/-- a graph that reads so -/
structure RG (w : World) (A : Option Addr) (n : Nat) (F : Option Addr) (m : Nat) (cs : List Int) (es : List Ed) : Prop where
  ri : RI w A n cs
  re : RE w F m es
section
variable {w w' : World} {B D B' D' : Nat} {A F : Option Addr} {n c m d : Nat} {cs : List Int} {es : List Ed}
theorem RG.keep (h : RG w A n F m cs es) (hb : Below w.heap.size w w') : RG w' A n F m cs es := ⟨h.ri.keep hb, h.re.keep hb⟩
theorem OE.setLow {ty : TypeId} (h : OE w B ty F m d es) {p : Addr} (hp : p.block < B) (u : Value) : OE (w.setCell p u) B ty F m d es := ⟨h.os.setLow hp u, h.all⟩
theorem OG.reads (h : OG w B D A n c F m d cs es) : RG w A n F m cs es := ⟨h.oi.reads, h.oe.reads⟩
theorem OG.mid (h : OG w B D A n c F m d cs es) (hm : Mid w w' B' D') (hd : D' ≤ B ∨ D ≤ B') : OG w' B D A n c F m d cs es :=
  ⟨h.oi.mid hm (fun b hb => by have := (h.oi.os.lt hb).1; have := h.la b hb; omega), h.oe.mid hm (fun b hb => by have := (h.oe.os.lt hb).1; have := h.lf b hb; omega), h.la, h.lf⟩
theorem OG.below (h : OG w B D A n c F m d cs es) (hb : Below w.heap.size w w') : OG w' B D A n c F m d cs es := h.mid (Mid.of_below hb (Nat.le_refl _) 0 0) (.inl (Nat.zero_le _))
theorem OG.of (h : OI w B 2 A n c cs) (k : OE w B 86 F m d es) : OG w B w.heap.size A n c F m d cs es := ⟨h, k, fun _ hb => (h.os.lt hb).2, fun _ hb => (k.os.lt hb).2⟩
theorem OG.apart (h : OG w B D A n c F m d cs es) : blk A = none ∨ blk A ≠ blk F := OS.typed h.oi.os h.oe.os (by decide)
theorem OG.apart' (h : OG w B D A n c F m d cs es) : blk F = none ∨ blk F ≠ blk A := OS.typed h.oe.os h.oi.os (by decide)
end

theorem grown_set {w : World} {g p : Nat} {u : Value} : w.grownBy (w.setCell ⟨g, p, none⟩ u) (some g) :=
  ⟨rfl, rfl, rfl, by simp [World.setCell], fun k _ hk => Below.heap_setCell _ _ _ _ (fun e => hk (by rw [e]))⟩
/-! marks -/
def marksE (k m : Nat) : List Ed := (List.range m).map fun i => (((k + 2 * i : Nat) : Int), ((k + 2 * i + 1 : Nat) : Int))
theorem marksE_len (k m : Nat) : (marksE k m).length = m := by simp [marksE]
theorem marksE_nth {k m i : Nat} (h : i < m) : nthE (marksE k m) i = (((k + 2 * i : Nat) : Int), ((k + 2 * i + 1 : Nat) : Int)) := by simp [nthE, marksE, List.getD, h]
def markedE (k : Nat) (es : List Ed) (j : Nat) : List Ed := marksE k j ++ es.drop j
theorem markedE_zero (k : Nat) (es : List Ed) : markedE k es 0 = es := by simp [markedE, marksE]
theorem markedE_all (k : Nat) (es : List Ed) : markedE k es es.length = marksE k es.length := by simp [markedE]
theorem markedE_step {k : Nat} {es : List Ed} {j : Nat} (h : j < es.length) : (markedE k es j).set j (((k + 2 * j : Nat) : Int), ((k + 2 * j + 1 : Nat) : Int)) = markedE k es (j + 1) := by
  unfold markedE
  rw [List.set_append_right _ _ (by rw [marksE_len]; exact Nat.le_refl _), marksE_len, Nat.sub_self, List.drop_eq_getElem_cons h, List.set_cons_zero]
  simp [marksE, List.range_succ]
set_option maxHeartbeats 1000000 in
theorem markEdgeS_own (B : Nat) (ty : TypeId) (A : Option Addr) (n c k : Nat) (es : List Ed) (w : World) (ha : OE w B ty A n c es) (hn : k + 2 * n ≤ 4611686018427387904) :
    Calls Tryz.prog 47 #[.slice A n c, .int .i64 k] w fun en w' => en = .returned (.int .i64 ((k + 2 * n : Nat) : Int)) ∧ OE w' B ty A n c (marksE k n) ∧ w.grownBy w' (blk A) := by
  have hl := Lib.hid ha.len
  go_enter Tryz.func47, Tryz.ntmps47
  go_wp2
  go_loopw [1, 5] (fun q i wr => ∃ j : Nat, j ≤ n ∧ i = .int .i64 j ∧ q = .int .i64 ((k + 2 * j : Nat) : Int) ∧ OE wr B ty A n c (markedE k es j) ∧ w.grownBy wr (blk A)) (fun _ i _ => n - (intOf i).toNat)
  case atStart => exact ⟨0, Nat.zero_le _, rfl, by simp, by rw [markedE_zero]; exact ha, World.grownBy.refl _ _⟩
  case round =>
    obtain ⟨j, hj, rfl, rfl, ho, hw⟩ := hrel
    by_cases hlt : j < n
    · obtain ⟨g, rfl, c1, c2, f1, f2, _, _⟩ := ho.cell hlt
      have ho' := ho.set j (a := ((k + 2 * j : Nat) : Int)) (b := ((k + 2 * j + 1 : Nat) : Int)) ⟨by omega, by omega⟩ ⟨by omega, by omega⟩
      rw [markedE_step (by rw [hl.out]; exact hlt)] at ho'
      have hw' : w.grownBy ((wr.setCell ⟨g, j * 2, none⟩ (.int .i64 ((k + 2 * j : Nat) : Int))).setCell ⟨g, j * 2 + 1, none⟩ (.int .i64 ((k + 2 * j + 1 : Nat) : Int))) (blk (some ⟨g, 0, none⟩)) :=
        (hw.trans grown_set).trans grown_set
      have e1 : ((k + 2 * j : Nat) : Int) + 1 = ((k + 2 * j + 1 : Nat) : Int) := by omega
      generalize hk2 : k + 2 * j = q at *
      have HK := Lib.hid hk2; clear hk2
      have ep : ((q + 1 : Nat) : Int) = (q : Int) + 1 := by omega
      rw [ep] at ho' hw'
      have hq : q + 2 ≤ 4611686018427387904 := by have := HK.out; omega
      clear ho hw e1 ep
      go_wp2
      go_roundw
      case rel => exact ⟨j + 1, by omega, by go_num, by rw [show k + 2 * (j + 1) = q + 1 + 1 by have := HK.out; omega]; go_num, ho', hw'⟩
      case measure => simp [intOf]; omega
    · obtain rfl : j = n := by omega
      have ho' : OE wr B ty A j c (marksE k j) := by rw [← hl.out]; rw [← hl.out] at ho; rw [markedE_all] at ho; exact ho
      go_wp2
      go_ret
      exact ⟨rfl, ho', hw⟩
set_option maxHeartbeats 1000000 in
theorem heldEdgeS_any (A : Option Addr) (n c k : Nat) (w : World) (ha : RE w A n (marksE k n)) (hn : k + 2 * n ≤ 4611686018427387904) :
    Calls Tryz.prog 48 #[.slice A n c, .int .i64 k] w fun e w' => e = .returned (.int .i64 ((k + 2 * n : Nat) : Int)) ∧ w = w' := by
  go_enter Tryz.func48, Tryz.ntmps48
  go_wp2
  go_loop [1, 5] (fun q i => ∃ j : Nat, j ≤ n ∧ i = .int .i64 j ∧ q = .int .i64 ((k + 2 * j : Nat) : Int)) (fun _ i => n - (intOf i).toNat)
  case atStart => exact ⟨0, Nat.zero_le _, rfl, by simp⟩
  case round =>
    obtain ⟨j, hj, rfl, rfl⟩ := hrel
    by_cases hlt : j < n
    · obtain ⟨a, oa, rfl, h1, h2, i1, i2⟩ := ha.get hlt
      rw [marksE_nth hlt] at h1 h2
      generalize hk2 : k + 2 * j = q at *
      have HK := Lib.hid hk2; clear hk2
      have ep : ((q + 1 : Nat) : Int) = (q : Int) + 1 := by omega
      simp only [ep] at h1 h2
      have hq : q + 2 ≤ 4611686018427387904 := by have := HK.out; omega
      clear ep i1 i2
      go_wp2
      go_round
      case rel => exact ⟨j + 1, by omega, by go_num, by rw [show k + 2 * (j + 1) = q + 1 + 1 by have := HK.out; omega]; go_num⟩
      case measure => simp [intOf]; omega
    · obtain rfl : j = n := by omega
      go_wp2
      go_ret
      exact ⟨rfl, rfl⟩
set_option maxHeartbeats 400000 in
theorem szEdgeS_any (A : Option Addr) (n c : Nat) (l : Int) (w : World) (hn : n ≤ 9223372036854775807) (h0 : 0 ≤ l) (hl : l ≤ 1048576) :
    Calls Tryz.prog 36 #[.slice A n c, .int .i64 l] w fun e w' => e = .returned (.int .i64 (szF l n)) ∧ w = w' := by
  by_cases h : (n : Int) ≤ l
  · have H := Lib.hid (show szF l n = l - n by simp [szF, h])
    go_enter Tryz.func36, Tryz.ntmps36
    go_wp2
    go_ret
    exact ⟨by rw [H.out]; rfl, rfl⟩
  · have H := Lib.hid (show szF l n = -1 by simp [szF, h])
    go_enter Tryz.func36, Tryz.ntmps36
    go_wp2
    go_ret
    exact ⟨by rw [H.out]; rfl, rfl⟩
set_option maxHeartbeats 400000 in
theorem szGraph_any (l : Int) (A : Option Addr) (n c : Nat) (F : Option Addr) (m d : Nat) (w : World) (hn : n ≤ 9223372036854775807) (hm : m ≤ 9223372036854775807) (h0 : 0 ≤ l) (hl : l ≤ 1048576) :
    Calls Tryz.prog 10 #[.agg #[.slice A n c, .slice F m d], .int .i64 l] w fun e w' => e = .returned (.int .i64 (szF l ((n : Int) + m))) ∧ Below w.heap.size w w' := by
  have hb1 := below_alloc w (.cells #[.slice A n c, .slice F m d] 25)
  by_cases h1 : (n : Int) ≤ l
  · have H1 := Lib.hid (show szF l n = l - n by simp [szF, h1])
    by_cases h2 : (m : Int) ≤ l - n
    · have H2 := Lib.hid (show szF (l - n) m = l - n - m by simp [szF, h2])
      have H := Lib.hid (show szF l ((n : Int) + m) = l - n - m by rw [szF, if_pos (by omega)]; omega)
      go_enter Tryz.func10, Tryz.ntmps10
      go_wp2_with (first
        | (go_at_call 35; refine (szInt64S_any _ _ _ _ _ hn h0 hl).mono ?_; rintro e w1 ⟨rfl, rfl⟩; rw [H1.out])
        | (go_at_call 36; refine (szEdgeS_any _ _ _ _ _ hm (by omega) (by omega)).mono ?_; rintro e w1 ⟨rfl, rfl⟩; rw [H2.out]))
      go_ret
      exact ⟨by rw [H.out]; rfl, hb1⟩
    · have H2 := Lib.hid (show szF (l - n) m = -1 by simp [szF, h2])
      have H := Lib.hid (show szF l ((n : Int) + m) = -1 by rw [szF, if_neg (by omega)])
      clear h2
      go_enter Tryz.func10, Tryz.ntmps10
      go_wp2_with (first
        | (go_at_call 35; refine (szInt64S_any _ _ _ _ _ hn h0 hl).mono ?_; rintro e w1 ⟨rfl, rfl⟩; rw [H1.out])
        | (go_at_call 36; refine (szEdgeS_any _ _ _ _ _ hm (by omega) (by omega)).mono ?_; rintro e w1 ⟨rfl, rfl⟩; rw [H2.out]))
      go_ret
      exact ⟨by rw [H.out]; rfl, hb1⟩
  · have H1 := Lib.hid (show szF l n = -1 by simp [szF, h1])
    have H := Lib.hid (show szF l ((n : Int) + m) = -1 by rw [szF, if_neg (by omega)])
    clear h1
    go_enter Tryz.func10, Tryz.ntmps10
    go_wp2_with (go_at_call 35; refine (szInt64S_any _ _ _ _ _ hn h0 hl).mono ?_; rintro e w1 ⟨rfl, rfl⟩; rw [H1.out])
    go_ret
    exact ⟨by rw [H.out]; rfl, hb1⟩
/-- a graph in memory of its own -/
def RetG (w : World) (cs : List Int) (es : List Ed) (en : Ending) (w' : World) : Prop :=
  ∃ A n c F m d, en = .returned (.agg #[.slice A n c, .slice F m d]) ∧ OG w' w.heap.size w'.heap.size A n c F m d cs es ∧ Below w.heap.size w w'
set_option maxHeartbeats 1000000 in
theorem toGraph_any (A : Option Addr) (n c : Nat) (F : Option Addr) (m d : Nat) (cs : List Int) (es : List Ed) (w : World) (ha : RG w A n F m cs es) (hn : n ≤ 1099511627776) (hm : m ≤ 1099511627776) :
    Calls Tryz.prog 12 #[.agg #[.slice A n c, .slice F m d]] w (RetG w cs es) := by
  have hb1 := below_alloc w (.cells #[.slice A n c, .slice F m d] 25)
  go_enter Tryz.func12, Tryz.ntmps12
  go_wp2_with fail
  refine (toInt64S_any A n c cs _ (ha.ri.keep ((hb1.alloc (by simp) _).alloc (by simp; omega) _)) hn).mono ?_
  rintro e w1 ⟨A2, n2, c2, rfl, ho, hb⟩
  have Y := (((Blk.new w 25 #[.slice A n c, .slice F m d]).alloc (.cells #[.slice none 0 0, .slice none 0 0] 31)).alloc (.cells #[.slice none 0 0, .slice none 0 0] 31)).after hb
  have Y1 : Blk w1 (w.heap.size + 1) 31 #[.slice none 0 0, .slice none 0 0] := by
    have := ((Blk.new (w.alloc (.cells #[.slice A n c, .slice F m d] 25)) 31 #[.slice none 0 0, .slice none 0 0]).alloc (.cells #[.slice none 0 0, .slice none 0 0] 31)).after hb
    simpa using this
  have Y2 : Blk w1 (w.heap.size + 1 + 1) 31 #[.slice none 0 0, .slice none 0 0] := by
    have := (Blk.new ((w.alloc (.cells #[.slice A n c, .slice F m d] 25)).alloc (.cells #[.slice none 0 0, .slice none 0 0] 31)) 31 #[.slice none 0 0, .slice none 0 0]).after hb
    simpa using this
  have ho' : OI w1 (w.heap.size + 1 + 1 + 1) 2 A2 n2 c2 cs := by simpa using ho
  have hw : Below w.heap.size w w1 := ((hb1.alloc (by simp) _).alloc (by simp; omega) _).trans (hb.mono (by simp; omega))
  have hz := hb.size
  simp at hz
  clear ho hb hb1
  have ho2 : OI (w1.setCell ⟨w.heap.size + 1 + 1, 0, none⟩ (.slice A2 n2 c2)) (w.heap.size + 1 + 1 + 1) 2 A2 n2 c2 cs := ho'.setLow (by simp) _
  have hw2 : Below w.heap.size w (w1.setCell ⟨w.heap.size + 1 + 1, 0, none⟩ (.slice A2 n2 c2)) := hw.setCell (by simp; omega) _
  have V : Blk (w1.setCell ⟨w.heap.size + 1 + 1, 0, none⟩ (.slice A2 n2 c2)) w.heap.size 25 #[.slice A n c, .slice F m d] := Y.far (by simp; omega) _
  have V1 : Blk (w1.setCell ⟨w.heap.size + 1 + 1, 0, none⟩ (.slice A2 n2 c2)) (w.heap.size + 1) 31 #[.slice none 0 0, .slice none 0 0] := Y1.far (by simp) _
  have V2 : Blk (w1.setCell ⟨w.heap.size + 1 + 1, 0, none⟩ (.slice A2 n2 c2)) (w.heap.size + 1 + 1) 31 #[.slice A2 n2 c2, .slice none 0 0] := Y2.set_ 0 _
  obtain ⟨y0, y1⟩ := Y2.cells2
  obtain ⟨u0, u1⟩ := Y.cells2
  have f0 := Y2.frozen 0
  obtain ⟨v0, v1⟩ := V.cells2
  have hs : (w1.setCell ⟨w.heap.size + 1 + 1, 0, none⟩ (.slice A2 n2 c2)).heap.size = w1.heap.size := by simp [World.setCell]
  clear Y Y1 Y2 ho' hw
  go_wp2_with fail
  refine (toEdgeS_any F m d es _ (ha.re.keep hw2) hm).mono ?_
  rintro e w3 ⟨F3, m3, d3, rfl, ho3, hb3⟩
  have ho4 := ho2.below hb3
  have hw3 := below_then hw2 hb3
  have ho3' : OE w3 (w.heap.size + 1 + 1 + 1) 86 F3 m3 d3 es := ho3.more (by omega)
  have V3 := V2.after hb3
  have X3 := V1.after hb3
  clear ho3 ho2 hb3 V V1 V2 v0 v1 y0 y1 u0 u1 f0 hw2 hs
  have Z3 : Blk (w3.setCell ⟨w.heap.size + 1 + 1, 1, none⟩ (.slice F3 m3 d3)) (w.heap.size + 1 + 1) 31 #[.slice A2 n2 c2, .slice F3 m3 d3] := V3.set_ 1 _
  have Z1 : Blk (w3.setCell ⟨w.heap.size + 1 + 1, 1, none⟩ (.slice F3 m3 d3)) (w.heap.size + 1) 31 #[.slice none 0 0, .slice none 0 0] := X3.far (by simp) _
  obtain ⟨y0, y1⟩ := V3.cells2
  have f1 := V3.frozen 1
  obtain ⟨v0, v1⟩ := Z3.cells2
  obtain ⟨x0, x1⟩ := X3.cells2
  obtain ⟨z0, z1⟩ := Z1.cells2
  have g0 := X3.frozen 0
  have g1 := X3.frozen 1
  go_wp2
  refine bodyPost_ret (v := .agg #[.slice A2 n2 c2, .slice F3 m3 d3]) (by simp [results, Tryz.results12, go_sem, x0, x1]) rfl ⟨A2, n2, c2, F3, m3, d3, rfl, OG.of ?_ ?_, ?_⟩
  · refine OI.more (B := w.heap.size + 1 + 1 + 1) ?_ (by omega)
    repeat (refine OI.setLow ?_ (by simp <;> omega) _)
    exact ho4
  · refine OE.more (B := w.heap.size + 1 + 1 + 1) ?_ (by omega)
    repeat (refine OE.setLow ?_ (by simp <;> omega) _)
    exact ho3'
  · repeat (refine Below.setCell ?_ (by simp <;> omega) _)
    exact hw3
set_option maxHeartbeats 400000 in
theorem eqGraph_same (A F : Option Addr) (n c m d : Nat) (A' F' : Option Addr) (n' c' m' d' : Nat) (cs : List Int) (es : List Ed) (w : World) (ha : RG w A n F m cs es) (hb : RG w A' n' F' m' cs es) (hn : n ≤ 9223372036854775807) (hm : m ≤ 9223372036854775807) (hn' : n' ≤ 9223372036854775807) :
    Calls Tryz.prog 14 #[.agg #[.slice A n c, .slice F m d], .agg #[.slice A' n' c', .slice F' m' d']] w fun e w' => e = .returned (.bool true) ∧ Below w.heap.size w w' := by
  have hb2 := below_then (below_alloc w (.cells #[.slice A n c, .slice F m d] 31)) (below_alloc (w.alloc (.cells #[.slice A n c, .slice F m d] 31)) (.cells #[.slice A' n' c', .slice F' m' d'] 31))
  have ha' := ha.keep hb2
  have hb' := hb.keep hb2
  have X := (Blk.new w 31 #[.slice A n c, .slice F m d]).alloc (.cells #[.slice A' n' c', .slice F' m' d'] 31)
  have Y : Blk ((w.alloc (.cells #[.slice A n c, .slice F m d] 31)).alloc (.cells #[.slice A' n' c', .slice F' m' d'] 31)) (w.heap.size + 1) 31 #[.slice A' n' c', .slice F' m' d'] := by
    have := Blk.new (w.alloc (.cells #[.slice A n c, .slice F m d] 31)) 31 #[.slice A' n' c', .slice F' m' d']
    simpa using this
  clear ha hb
  go_enter Tryz.func14, Tryz.ntmps14
  go_wp2_with fail
  refine (eqInt64S_any _ _ _ _ _ _ cs cs _ ha'.ri hb'.ri hn hn').mono ?_
  rintro e w1 ⟨rfl, hd1⟩
  rw [show decide (cs = cs) = true from by simp]
  obtain ⟨x0, x1⟩ := (X.after hd1.below).cells2
  obtain ⟨y0, y1⟩ := (Y.after hd1.below).cells2
  have ha2 := ha'.keep hd1.below
  have hb3 := hb'.keep hd1.below
  have hw := below_then hb2 hd1.below
  clear X Y ha' hb' hb2
  go_wp2_with fail
  refine (eqEdgeS_same _ _ _ _ _ _ es _ ha2.re hb3.re hm).mono ?_
  rintro e w2 ⟨rfl, hb4⟩
  go_wp2
  go_ret
  exact ⟨rfl, below_then hw hb4⟩
set_option maxHeartbeats 400000 in
theorem markGraph_any (B D : Nat) (A F : Option Addr) (n c m d k : Nat) (cs : List Int) (es : List Ed) (w : World) (ha : OG w B D A n c F m d cs es) (hk : k + n + 2 * m ≤ 4611686018427387904) :
    Calls Tryz.prog 22 #[.agg #[.slice A n c, .slice F m d], .int .i64 k] w fun en w' => en = .returned (.int .i64 ((k + n + 2 * m : Nat) : Int)) ∧ OG w' B D A n c F m d (marks k n) (marksE (k + n) m) ∧ Mid w w' B D := by
  have hb := below_alloc w (.cells #[.slice A n c, .slice F m d] 31)
  have X := Blk.new w 31 #[.slice A n c, .slice F m d]
  have ho := ha.below hb
  go_enter Tryz.func22, Tryz.ntmps22
  go_wp2_with fail
  refine (markInt64S_own B _ A n c k cs _ ho.oi (by omega)).mono ?_
  rintro e w1 ⟨rfl, ho1, hg1⟩
  have hm1 : Mid w w1 B D := (Mid.of_below hb (Nat.le_refl _) B D).trans (Mid.grown hg1 fun b hb => ⟨(ho.oi.os.lt hb).1, ho.la b hb⟩)
  have oe1 := ho.oe.kept hg1 ha.apart'
  have X1 := X.grown hg1 (fun e => by have := (ho.oi.os.lt e.symm).2; have := (ha.oi.os.lt e.symm).2; omega)
  obtain ⟨x0, x1⟩ := X1.cells2
  have hkn : k + n + 2 * m ≤ 4611686018427387904 := hk
  generalize hq : k + n = q at *
  have HQ := Lib.hid hq; clear hq
  go_wp2_with fail
  refine (markEdgeS_own B _ F m d q es _ oe1 (by omega)).mono ?_
  rintro e w2 ⟨rfl, ho2, hg2⟩
  have hm2 := hm1.trans (Mid.grown hg2 fun b hb => ⟨(oe1.os.lt hb).1, ho.lf b hb⟩)
  have oi2 := ho1.kept hg2 ha.apart
  go_wp2
  go_ret
  exact ⟨ret_int (by have := HQ.out; omega), ⟨oi2, by rw [HQ.out]; exact ho2, ha.la, ha.lf⟩, hm2⟩
set_option maxHeartbeats 400000 in
theorem heldGraph_any (A F : Option Addr) (n c m d k : Nat) (w : World) (ha : RG w A n F m (marks k n) (marksE (k + n) m)) (hk : k + n + 2 * m ≤ 4611686018427387904) :
    Calls Tryz.prog 24 #[.agg #[.slice A n c, .slice F m d], .int .i64 k] w fun en w' => en = .returned (.int .i64 ((k + n + 2 * m : Nat) : Int)) ∧ Below w.heap.size w w' := by
  have hb := below_alloc w (.cells #[.slice A n c, .slice F m d] 31)
  have ho := ha.keep hb
  go_enter Tryz.func24, Tryz.ntmps24
  go_wp2_with fail
  refine (heldInt64S_any A n c k _ ho.ri (by omega)).mono ?_
  rintro e w' ⟨rfl, rfl⟩
  generalize hq : k + n = q at *
  have HQ := Lib.hid hq; clear hq
  go_wp2_with fail
  refine (heldEdgeS_any F m d q _ ho.re (by omega)).mono ?_
  rintro e w' ⟨rfl, rfl⟩
  go_wp2
  go_ret
  exact ⟨ret_int (by have := HQ.out; omega), hb⟩
end Go.Proofs.YtjgihhnplckjoaaGreat
/- Plain words for memory: a table of truth values that a call owns, its rows in blocks of their own. No condition beyond those stated. -/
namespace Go.Proofs.YtjgihhnplckjoaaGreat
open Go.RowKit

/-- m truth values -/
def bools (m : Nat) (f : Nat → Bool) : List Value := (List.range m).map fun (b : Nat) => .bool (f b)
theorem bools_len (m : Nat) (f : Nat → Bool) : (bools m f).length = m := by simp [bools]
theorem bools_at {m : Nat} {f : Nat → Bool} {b : Nat} (h : b < m) : (bools m f)[b]? = some (.bool (f b)) := by simp [bools, h]
theorem bools_set {m : Nat} {f : Nat → Bool} {b : Nat} {x : Bool} : (bools m f).set b (.bool x) = bools m fun c => if c = b then x else f c := by
  apply List.ext_getElem?
  intro c
  rw [List.getElem?_set]
  by_cases hc : c < m
  · by_cases e : b = c
    · subst e
      rw [if_pos rfl, if_pos (by rw [bools_len]; exact hc), bools_at hc, if_pos rfl]
    · rw [if_neg e, bools_at hc, bools_at hc, if_neg (fun e' => e e'.symm)]
  · rw [List.getElem?_eq_none (l := bools m fun c => if c = b then x else f c) (by rw [bools_len]; omega), List.getElem?_eq_none (l := bools m f) (by rw [bools_len]; omega)]
    split
    · rw [if_neg (by rw [bools_len]; omega)]
    · rfl
theorem bools_false (m : Nat) : List.replicate m (Value.bool false) = bools m fun _ => false := by
  apply List.ext_getElem?
  intro c
  by_cases hc : c < m
  · rw [bools_at hc, List.getElem?_replicate, if_pos hc]
  · rw [List.getElem?_eq_none (by simp; omega), List.getElem?_eq_none (by rw [bools_len]; omega)]
theorem bools_congr {m : Nat} {f g : Nat → Bool} (h : ∀ b, b < m → f b = g b) : bools m f = bools m g := by
  unfold bools
  exact List.map_congr_left fun b hb => by rw [h b (by simpa using hb)]
structure TBv (w : World) (B : Nat) (eo eb : TypeId) (A : Option Addr) (n c : Nat) (vs : List Sl) (m : Nat) (f : Nat → Nat → Bool) : Prop where
  os : OS w B eo 1 A n c (vs.map slv)
  rows : ∀ (j : Nat) (v : Sl), vs[j]? = some v → v.2.1 = m ∧ OS w B eb 1 v.1 v.2.1 v.2.2 (bools m (f j))
  sep : ∀ (i j : Nat) (v u : Sl), i ≠ j → vs[i]? = some v → vs[j]? = some u → apart v u
  ne : eo ≠ eb
def TB (w : World) (B : Nat) (eo eb : TypeId) (A : Option Addr) (n c m : Nat) (f : Nat → Nat → Bool) : Prop := ∃ vs, TBv w B eo eb A n c vs m f
section
variable {w w' : World} {B : Nat} {eo eb : TypeId} {A : Option Addr} {n c m : Nat} {vs : List Sl} {f g : Nat → Nat → Bool}
theorem TBv.len (h : TBv w B eo eb A n c vs m f) : vs.length = n := by have := h.os.len; simpa using this
theorem TBv.outer_row (h : TBv w B eo eb A n c vs m f) {j : Nat} {v : Sl} (hv : vs[j]? = some v) : blk v.1 = none ∨ blk v.1 ≠ blk A := OS.typed (h.rows j v hv).2 h.os (fun e => h.ne e.symm)
theorem TBv.kept {r : Option Nat} (h : TBv w B eo eb A n c vs m f) (hg : w.grownBy w' r) (h0 : blk A = none ∨ blk A ≠ r) (hr : ∀ (j : Nat) (v : Sl), vs[j]? = some v → blk v.1 = none ∨ blk v.1 ≠ r) : TBv w' B eo eb A n c vs m f :=
  ⟨h.os.kept hg h0, fun j v hv => ⟨(h.rows j v hv).1, (h.rows j v hv).2.kept hg (hr j v hv)⟩, h.sep, h.ne⟩
theorem TBv.below (h : TBv w B eo eb A n c vs m f) (hb : Below w.heap.size w w') : TBv w' B eo eb A n c vs m f :=
  h.kept (r := none) (grownBy_of_below hb none) (by cases A <;> simp [blk]) (fun j v _ => by obtain ⟨a, b, c⟩ := v; cases a <;> simp [blk])
theorem TB.below (h : TB w B eo eb A n c m f) (hb : Below w.heap.size w w') : TB w' B eo eb A n c m f := by
  obtain ⟨vs, h⟩ := h
  exact ⟨vs, h.below hb⟩
theorem TB.more {B' : Nat} (h : TB w B eo eb A n c m f) (hB : B' ≤ B) : TB w B' eo eb A n c m f := by
  obtain ⟨vs, h⟩ := h
  exact ⟨vs, h.os.more hB, fun j v hv => ⟨(h.rows j v hv).1, (h.rows j v hv).2.more hB⟩, h.sep, h.ne⟩
theorem TB.setLow (h : TB w B eo eb A n c m f) {p : Addr} (hp : p.block < B) (u : Value) : TB (w.setCell p u) B eo eb A n c m f := by
  obtain ⟨vs, h⟩ := h
  exact ⟨vs, h.os.setLow hp u, fun j v hv => ⟨(h.rows j v hv).1, (h.rows j v hv).2.setLow hp u⟩, h.sep, h.ne⟩
theorem TB.of_own (h : OS w B eo 1 A 0 c []) (hne : eo ≠ eb) : TB w B eo eb A 0 c m f :=
  ⟨[], h, fun j v h => by simp at h, fun i j v u _ h => by simp at h, hne⟩
theorem TB.nil_ (w : World) (B : Nat) {eo eb : TypeId} (hne : eo ≠ eb) (m : Nat) (f : Nat → Nat → Bool) : TB w B eo eb none 0 0 m f := TB.of_own (OS.nil_ w B eo 1) hne
theorem TB.cap (h : TB w B eo eb A n c m f) : n ≤ c ∧ c ≤ 9223372036854775807 := by obtain ⟨vs, h⟩ := h; exact h.os.cap
theorem TB.congr (h : TB w B eo eb A n c m f) (hg : ∀ a b, a < n → b < m → f a b = g a b) : TB w B eo eb A n c m g := by
  obtain ⟨vs, h⟩ := h
  refine ⟨vs, h.os, fun j v hv => ⟨(h.rows j v hv).1, ?_⟩, h.sep, h.ne⟩
  have hj : j < n := by rw [← h.len]; exact (List.getElem?_eq_some_iff.1 hv).1
  rw [← bools_congr (f := f j) fun b hb => hg j b hj hb]
  exact (h.rows j v hv).2
/-- a row's header, and what stands in it -/
theorem TBv.get (h : TBv w B eo eb A n c vs m f) {k : Nat} (hk : k < n) : ∃ g v, A = some ⟨g, 0, none⟩ ∧ vs[k]? = some v ∧ w.cell? ⟨g, k, none⟩ = some (.slice v.1 m v.2.2) ∧ m ≤ v.2.2 ∧ v.2.2 ≤ 9223372036854775807 ∧
    (∀ b, b < m → ∃ r, v.1 = some ⟨r, 0, none⟩ ∧ w.cell? ⟨r, b, none⟩ = some (.bool (f k b)) ∧ w.frozen? ⟨r, b, none⟩ = false ∧ B ≤ r ∧ r < w.heap.size) := by
  have hj : k < vs.length := by rw [h.len]; exact hk
  have hv := List.getElem?_eq_getElem hj
  obtain ⟨g, ha, hc, hf⟩ := h.os.cell (j := k) (u := slv vs[k]) (by rw [List.getElem?_map, hv]; rfl)
  obtain ⟨e, ho⟩ := h.rows k _ hv
  refine ⟨g, vs[k], ha, hv, ?_, ?_, ho.cap.2, fun b hb => ?_⟩
  · rw [hc]; unfold slv; rw [e]
  · have := ho.cap.1; omega
  · obtain ⟨r, hr, hcr, hfr⟩ := ho.cell (bools_at hb)
    have := ho.lt (k := r) (by rw [hr]; rfl)
    exact ⟨r, hr, hcr, hfr, this.1, this.2⟩
/-- a truth value is written over -/
theorem TBv.set (h : TBv w B eo eb A n c vs m f) {k : Nat} {v : Sl} {r : Nat} (hv : vs[k]? = some v) (hr : v.1 = some ⟨r, 0, none⟩) (b : Nat) (x : Bool) :
    TBv (w.setCell ⟨r, b, none⟩ (.bool x)) B eo eb A n c vs m (fun a d => if a = k ∧ d = b then x else f a d) := by
  have hg : w.grownBy (w.setCell ⟨r, b, none⟩ (.bool x)) (blk v.1) := by rw [hr]; exact grown_set
  have hou := h.outer_row hv
  refine ⟨h.os.kept hg ?_, fun j u hu => ⟨(h.rows j u hu).1, ?_⟩, h.sep, h.ne⟩
  · rcases hou with h1 | h1
    · rw [hr] at h1; cases h1
    · exact .inr fun e => h1 e.symm
  · by_cases e : j = k
    · subst e
      rw [hv] at hu
      injection hu with hu
      subst hu
      have ho := (h.rows j v hv).2
      obtain ⟨v1, v2, v3⟩ := v
      simp only at hr
      subst hr
      have := ho.set b (.bool x)
      rw [bools_set] at this
      rwa [bools_congr (g := fun d => if j = j ∧ d = b then x else f j d) fun d _ => by simp] at this
    · have ho := (h.rows j u hu).2.kept hg (h.sep j k u v e hu hv)
      rwa [bools_congr (g := fun d => if j = k ∧ d = b then x else f j d) fun d _ => by simp [e]] at ho
/-- a further row -/
theorem TBv.push (h : TBv w B eo eb A n c vs m f) {v : Sl} (hm : v.2.1 = m) (ho : OS w B eb 1 v.1 v.2.1 v.2.2 (bools m (f n))) (hap : ∀ (j : Nat) (u : Sl), vs[j]? = some u → apart u v)
    {A' : Option Addr} {c' : Nat} (hg : w.grownBy w' (blk A)) (hos : OS w' B eo 1 A' (n + 1) c' (vs.map slv ++ [.slice v.1 v.2.1 v.2.2])) : TB w' B eo eb A' (n + 1) c' m f := by
  have hvA : blk v.1 = none ∨ blk v.1 ≠ blk A := OS.typed ho h.os (fun e => h.ne e.symm)
  have hlen := h.len
  refine ⟨vs ++ [v], by simpa [slv] using hos, fun j u hu => ?_, fun i j u x hij hu hx => ?_, h.ne⟩
  · rw [List.getElem?_append] at hu
    split at hu
    · exact ⟨(h.rows j u hu).1, (h.rows j u hu).2.kept hg (h.outer_row hu)⟩
    · have hj := (List.getElem?_eq_some_iff.1 hu).1
      simp at hj
      have e : j = n := by omega
      rw [e, hlen, Nat.sub_self] at hu
      simp at hu
      subst hu
      subst e
      exact ⟨hm, ho.kept hg hvA⟩
  · rw [List.getElem?_append] at hu hx
    split at hu
    · split at hx
      · exact h.sep i j u x hij hu hx
      · have : x = v := by simpa using List.mem_of_getElem? hx
        subst this
        exact hap i u hu
    · have hu' : u = v := by simpa using List.mem_of_getElem? hu
      subst hu'
      split at hx
      · exact (hap j x hx).symm
      · have a1 := (List.getElem?_eq_some_iff.1 hu).1
        have a2 := (List.getElem?_eq_some_iff.1 hx).1
        simp at a1 a2
        omega
theorem TBv.apart_new (h : TBv w B eo eb A n c vs m f) {v : Sl} (hn : ∀ b, blk v.1 = some b → w.heap.size ≤ b) : ∀ (j : Nat) (u : Sl), vs[j]? = some u → apart u v := fun j u hu => by
  unfold apart
  cases hb : blk u.1 with
  | none => exact .inl rfl
  | some b =>
    refine .inr fun e => ?_
    have h1 := ((h.rows j u hu).2.lt hb).2
    have h2 := hn b e.symm
    omega
end
end Go.Proofs.YtjgihhnplckjoaaGreat
