/- Edges: what a slice of them reads as. No condition beyond those stated. -/
import Derived.Test.YtncknfhfkmmhbaaGreatZAE
import Derived.Test.YtncknfhfkmmhbaaGreatZAC
import Derived.Test.YtncknfhfkmmhbaaGreatZAD
import Derived.Deep.OwnRows
set_option linter.unusedVariables false
set_option linter.unusedSimpArgs false
namespace Go.Proofs.YtncknfhfkmmhbaaGreat
open Go.RowKit

abbrev Ed := Int × Int
def nthE (es : List Ed) (k : Nat) : Ed := es.getD k (0, 0)
theorem nthE_eq {es : List Ed} {k : Nat} {e : Ed} (h : es[k]? = some e) : nthE es k = e := by simp [nthE, List.getD, h]
theorem nthE_get {es : List Ed} {k : Nat} (h : k < es.length) : nthE es k = es[k] := by simp [nthE, List.getD, h]
/-- a slice of edges reads as a list -/
structure RE (w : World) (A : Option Addr) (n : Nat) (es : List Ed) : Prop where
  len : es.length = n
  at_ : ∀ j e, es[j]? = some e → ∃ g o, A = some ⟨g, o, none⟩ ∧ w.cell? ⟨g, o + j * 2, none⟩ = some (.int .i64 e.1) ∧ w.cell? ⟨g, o + j * 2 + 1, none⟩ = some (.int .i64 e.2) ∧ I64 e.1 ∧ I64 e.2
section
variable {w w' : World} {A : Option Addr} {n : Nat} {es : List Ed}
theorem RE.keep (h : RE w A n es) (hb : Below w.heap.size w w') : RE w' A n es :=
  ⟨h.len, fun j e he => let ⟨g, o, ha, h1, h2, h3⟩ := h.at_ j e he; ⟨g, o, ha, below_cell hb h1, below_cell hb h2, h3⟩⟩
theorem RE.drewN (h : RE w A n es) (q : Nat) : RE (w.drewN q) A n es := h.keep (below_drewn w q)
theorem RE.drawn (h : RE w A n es) (hd : Drawn w w') : RE w' A n es := h.keep hd.below
theorem RE.get (h : RE w A n es) {k : Nat} (hk : k < n) : ∃ g o, A = some ⟨g, o, none⟩ ∧ w.cell? ⟨g, o + k * 2, none⟩ = some (.int .i64 (nthE es k).1) ∧ w.cell? ⟨g, o + k * 2 + 1, none⟩ = some (.int .i64 (nthE es k).2) ∧ I64 (nthE es k).1 ∧ I64 (nthE es k).2 := by
  have hl : k < es.length := by rw [h.len]; exact hk
  rw [nthE_get hl]
  exact h.at_ k _ (List.getElem?_eq_getElem hl)
theorem RE.nil_ (w : World) (A : Option Addr) : RE w A 0 [] := ⟨rfl, fun j e h => by simp at h⟩
end
def upToE (xs ys : List Ed) (k : Nat) : Prop := ∀ j, j < k → nthE xs j = nthE ys j

/-! edges in memory of a call's own -/
def ecells : List Ed → List Value
  | [] => []
  | e :: r => .int .i64 e.1 :: .int .i64 e.2 :: ecells r
theorem ecells_len (es : List Ed) : (ecells es).length = es.length * 2 := by
  induction es with
  | nil => rfl
  | cons e r ih => simp [ecells, ih]; omega
theorem ecells_app (a b : List Ed) : ecells (a ++ b) = ecells a ++ ecells b := by
  induction a with
  | nil => rfl
  | cons e r ih => simp [ecells, ih]
theorem ecells_at {es : List Ed} {j : Nat} {e : Ed} (h : es[j]? = some e) : (ecells es)[j * 2]? = some (.int .i64 e.1) ∧ (ecells es)[j * 2 + 1]? = some (.int .i64 e.2) := by
  induction es generalizing j with
  | nil => simp at h
  | cons x r ih =>
    cases j with
    | zero => simp at h; subst h; simp [ecells]
    | succ j =>
      have h' : r[j]? = some e := by simpa using h
      obtain ⟨h1, h2⟩ := ih h'
      rw [show (j + 1) * 2 = j * 2 + 2 by omega]
      exact ⟨by simpa [ecells] using h1, by simpa [ecells] using h2⟩
theorem ecells_set (es : List Ed) (j : Nat) (e : Ed) : ((ecells es).set (j * 2) (.int .i64 e.1)).set (j * 2 + 1) (.int .i64 e.2) = ecells (es.set j e) := by
  induction es generalizing j with
  | nil => simp [ecells]
  | cons x r ih =>
    cases j with
    | zero => simp [ecells]
    | succ j =>
      rw [show (j + 1) * 2 = j * 2 + 2 by omega]
      simp only [ecells, List.set_cons_succ, Nat.add_assoc]
      rw [← ih j]
theorem ecells_one (es : List Ed) : ∀ u ∈ ecells es, u.oneCell' = true := by
  induction es with
  | nil => intro u h; cases h
  | cons e r ih =>
    intro u h
    simp only [ecells, List.mem_cons] at h
    rcases h with rfl | rfl | h
    · rfl
    · rfl
    · exact ih u h
def All64E (es : List Ed) : Prop := ∀ e ∈ es, I64 e.1 ∧ I64 e.2
structure OE (w : World) (B : Nat) (ty : TypeId) (A : Option Addr) (n c : Nat) (es : List Ed) : Prop where
  os : OS w B ty 2 A n c (ecells es)
  all : All64E es
section
variable {w w' : World} {B : Nat} {ty : TypeId} {A : Option Addr} {n c : Nat} {es : List Ed}
theorem OE.nil_ (w : World) (B : Nat) (ty : TypeId) : OE w B ty none 0 0 [] := ⟨OS.nil_ w B ty 2, fun _ h => by cases h⟩
theorem OE.len (h : OE w B ty A n c es) : es.length = n := by have := h.os.len; rw [ecells_len] at this; omega
theorem OE.kept {r : Option Nat} (h : OE w B ty A n c es) (hg : w.grownBy w' r) (hne : blk A = none ∨ blk A ≠ r) : OE w' B ty A n c es := ⟨h.os.kept hg hne, h.all⟩
theorem OE.below (h : OE w B ty A n c es) (hb : Below w.heap.size w w') : OE w' B ty A n c es := ⟨h.os.below hb, h.all⟩
theorem OE.alloc (h : OE w B ty A n c es) (o : Obj) : OE (w.alloc o) B ty A n c es := ⟨h.os.alloc o, h.all⟩
theorem OE.more {B' : Nat} (h : OE w B ty A n c es) (hB : B' ≤ B) : OE w B' ty A n c es := ⟨h.os.more hB, h.all⟩
theorem OE.mid {B' D' : Nat} (h : OE w B ty A n c es) (hm : Mid w w' B' D') (hg : ∀ b, blk A = some b → b < B' ∨ D' ≤ b) : OE w' B ty A n c es := ⟨h.os.mid hm hg, h.all⟩
theorem OE.cell (h : OE w B ty A n c es) {k : Nat} (hk : k < n) : ∃ g, A = some ⟨g, 0, none⟩ ∧ w.cell? ⟨g, k * 2, none⟩ = some (.int .i64 (nthE es k).1) ∧ w.cell? ⟨g, k * 2 + 1, none⟩ = some (.int .i64 (nthE es k).2) ∧
    w.frozen? ⟨g, k * 2, none⟩ = false ∧ w.frozen? ⟨g, k * 2 + 1, none⟩ = false ∧ I64 (nthE es k).1 ∧ I64 (nthE es k).2 := by
  have hl : k < es.length := by rw [h.len]; exact hk
  have he : es[k]? = some (nthE es k) := by rw [nthE_get hl]; exact List.getElem?_eq_getElem hl
  obtain ⟨h1, h2⟩ := ecells_at he
  obtain ⟨g, ha, hc, hf⟩ := h.os.cell h1
  obtain ⟨g', ha', hc', hf'⟩ := h.os.cell h2
  obtain rfl : g = g' := by rw [ha] at ha'; injection ha' with ha'; injection ha'
  exact ⟨g, ha, hc, hc', hf, hf', h.all _ (List.mem_of_getElem? he)⟩
theorem OE.reads (h : OE w B ty A n c es) : RE w A n es := by
  refine ⟨h.len, fun j e he => ?_⟩
  obtain ⟨h1, h2⟩ := ecells_at he
  obtain ⟨g, ha, hc, hf⟩ := h.os.cell h1
  obtain ⟨g', ha', hc', hf'⟩ := h.os.cell h2
  obtain rfl : g = g' := by rw [ha] at ha'; injection ha' with ha'; injection ha'
  exact ⟨g, 0, ha, by rw [Nat.zero_add]; exact hc, by rw [Nat.zero_add]; exact hc', h.all e (List.mem_of_getElem? he)⟩
theorem OE.set {g : Nat} (h : OE w B ty (some ⟨g, 0, none⟩) n c es) (j : Nat) {a b : Int} (ha : I64 a) (hb : I64 b) : OE ((w.setCell ⟨g, j * 2, none⟩ (.int .i64 a)).setCell ⟨g, j * 2 + 1, none⟩ (.int .i64 b)) B ty (some ⟨g, 0, none⟩) n c (es.set j (a, b)) :=
  ⟨by have := (h.os.set (j * 2) (.int .i64 a)).set (j * 2 + 1) (.int .i64 b); rwa [ecells_set es j (a, b)] at this,
   fun e he => (List.mem_or_eq_of_mem_set he).elim (h.all e) (fun q => by rw [q]; exact ⟨ha, hb⟩)⟩
end
theorem madeCells_two (z : Value) (m : Nat) : (madeCells #[z, z] m).toList = List.replicate m z := by
  apply List.ext_getElem?
  intro i
  simp only [madeCells, Array.toList_map, Array.toList_range, List.getElem?_map]
  by_cases hi : i < m
  · rw [List.getElem?_range hi, List.getElem?_replicate, if_pos hi]
    have : i % 2 = 0 ∨ i % 2 = 1 := by omega
    rcases this with h | h <;> simp [h]
  · simp [List.getElem?_eq_none, hi]
theorem ecells_zeros (n : Nat) : ecells (List.replicate n ((0, 0) : Ed)) = List.replicate (n * 2) (.int .i64 0) := by
  induction n with
  | zero => rfl
  | succ n ih => rw [List.replicate_succ, ecells, ih, show (n + 1) * 2 = n * 2 + 1 + 1 by omega, List.replicate_succ, List.replicate_succ]
theorem OE.made (w : World) (B : Nat) (ty : TypeId) (n : Nat) (hB : B ≤ w.heap.size) (hn : n ≤ 9223372036854775807) :
    OE (w.alloc (.cells (madeCells #[.int .i64 0, .int .i64 0] (n * 2)) ty)) B ty (some ⟨w.heap.size, 0, none⟩) n n (List.replicate n (0, 0)) := by
  refine ⟨⟨by rw [ecells_len]; simp, .inr ⟨w.heap.size, n, _, rfl, hB, heap_alloc_new w _, Nat.le_refl _, hn, by rw [size_madeCells], ?_⟩⟩, fun e he => by rw [List.eq_of_mem_replicate he]; exact ⟨⟨by omega, by omega⟩, ⟨by omega, by omega⟩⟩⟩
  rw [madeCells_two, ecells_zeros]
  exact List.take_of_length_le (by simp)
theorem edge_info : (Tryz.prog.info? 48).map (fun i => (i.zero, i.size, i.bytes)) = some (some (.agg #[.int .i64 0, .int .i64 0]), 2, 16) := by kernel_rfl
theorem run_make_edges (n : Nat) (hn : n ≤ 1099511627776) (w : World) : (Instr.makeSlice 34 (.int .i64 (n : Int)) (.int .i64 (n : Int))).run Tryz.prog w = .ok (.slice (some ⟨w.heap.size, 0, none⟩) n n) (w.alloc (.cells (madeCells #[.int .i64 0, .int .i64 0] (n * 2)) 48)) := by
  obtain ⟨i, hi, hz, hs, hb⟩ := info_parts edge_info
  have := run_make (P := Tryz.prog) (w := w) 34 48 i _ Tryz.underlying34 hi hz .i64 .i64 n n (by omega) (Int.le_refl _) (by rw [hb]; omega) (by omega)
  rw [hs] at this
  simpa [Value.cells] using this
/-- the first j places copied over -/
def copiedE (xs zs : List Ed) (j : Nat) : List Ed := xs.take j ++ zs.drop j
theorem copiedE_zero (xs zs : List Ed) : copiedE xs zs 0 = zs := by simp [copiedE]
theorem copiedE_all {xs zs : List Ed} (h : xs.length = zs.length) : copiedE xs zs xs.length = xs := by
  rw [copiedE, List.take_length, List.drop_eq_nil_of_le (by omega), List.append_nil]
theorem copiedE_step {xs zs : List Ed} {j : Nat} (hx : j < xs.length) (hz : j < zs.length) : (copiedE xs zs j).set j (nthE xs j) = copiedE xs zs (j + 1) := by
  unfold copiedE
  have hl : (xs.take j).length = j := by rw [List.length_take]; omega
  rw [List.set_append_right _ _ (by omega), hl, Nat.sub_self, List.drop_eq_getElem_cons hz, List.set_cons_zero, List.take_succ_eq_append_getElem hx, nthE_get hx, List.append_assoc]
  rfl
/-- a slice of edges in memory of its own -/
def RetE (w : World) (es : List Ed) (en : Ending) (w' : World) : Prop := ∃ A n c, en = .returned (.slice A n c) ∧ OE w' w.heap.size 48 A n c es ∧ Below w.heap.size w w'
end Go.Proofs.YtncknfhfkmmhbaaGreat
/- What the laws' own helpers do with rows: mark them, hold them against marks, compare two that read alike. No condition beyond those stated. -/
namespace Go.Proofs.YtncknfhfkmmhbaaGreat
open Go.RowKit

theorem lens_cells (zss : List (List Int)) {k : Nat} (h : k ≤ zss.length) : lens zss k = cells (zss.take k) := by
  induction k with
  | zero => simp [lens, cells]
  | succ k ih => rw [lens, ih (by omega), cells_take zss h]
theorem bulk_cells (zss : List (List Int)) : bulk zss = zss.length + cells zss := by
  unfold bulk
  rw [lens_cells zss (Nat.le_refl _), List.take_length]
theorem OI.setMid {w : World} {B : Nat} {e : TypeId} {A : Option Addr} {n c : Nat} {zs ys : List Int} {w' : World} (h : OI w B e A n c zs) (_ : OI w' B e A n c ys) (hg : w.grownBy w' (blk A)) {D : Nat} (hD : ∀ b, blk A = some b → b < D) : Mid w w' B D :=
  Mid.grown hg fun b hb => ⟨(h.os.lt hb).1, hD b hb⟩



end Go.Proofs.YtncknfhfkmmhbaaGreat
