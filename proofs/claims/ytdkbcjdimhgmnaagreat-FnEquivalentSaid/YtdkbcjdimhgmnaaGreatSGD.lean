/- Edges: what a slice of them reads as. No condition beyond those stated. -/
import Derived.Test.YtdkbcjdimhgmnaaGreatSGB
set_option linter.unusedVariables false
set_option linter.unusedSimpArgs false
namespace Go.Proofs.YtdkbcjdimhgmnaaGreat
open Go.RowKit
abbrev Ed := Int × Int
def nthE (es : List Ed) (k : Nat) : Ed := es.getD k (0, 0)
theorem nthE_get {es : List Ed} {k : Nat} (h : k < es.length) : nthE es k = es[k] := by simp [nthE, List.getD, h]
structure RE (w : World) (A : Option Addr) (n : Nat) (es : List Ed) : Prop where
  len : es.length = n
  at_ : ∀ j e, es[j]? = some e → ∃ g o, A = some ⟨g, o, none⟩ ∧ w.cell? ⟨g, o + j * 2, none⟩ = some (.int .i64 e.1) ∧ w.cell? ⟨g, o + j * 2 + 1, none⟩ = some (.int .i64 e.2) ∧ I64 e.1 ∧ I64 e.2
section
variable {w w' : World} {A : Option Addr} {n : Nat} {es : List Ed}
theorem RE.keep (h : RE w A n es) (hb : Below w.heap.size w w') : RE w' A n es :=
  ⟨h.len, fun j e he => let ⟨g, o, ha, h1, h2, h3⟩ := h.at_ j e he; ⟨g, o, ha, below_cell hb h1, below_cell hb h2, h3⟩⟩
theorem RE.drewN (h : RE w A n es) (q : Nat) : RE (w.drewN q) A n es := h.keep (below_drewn w q)
theorem RE.drawn (h : RE w A n es) (hd : Drawn w w') : RE w' A n es := h.keep hd.below
theorem RE.get (h : RE w A n es) {k : Nat} (hk : k < n) : ∃ g o, A = some ⟨g, o, none⟩ ∧ w.cell? ⟨g, o + k * 2, none⟩ = some (.int .i64 (nthE es k).1) ∧ w.cell? ⟨g, o + k * 2 + 1, none⟩ = some (.int .i64 (nthE es k).2) ∧ I64 (nthE es k).1 ∧ I64 (nthE es k).2 := by
  have hl : k < es.length := by rw [h.len]; exact hk
  rw [nthE_get hl]
  exact h.at_ k _ (List.getElem?_eq_getElem hl)
end
def upToE (xs ys : List Ed) (k : Nat) : Prop := ∀ j, j < k → nthE xs j = nthE ys j
/-! edges in memory of a call's own -/
def ecells : List Ed → List Value
  | [] => []
  | e :: r => .int .i64 e.1 :: .int .i64 e.2 :: ecells r
theorem ecells_len (es : List Ed) : (ecells es).length = es.length * 2 := by
  induction es with
  | nil => rfl
  | cons e r ih => simp [ecells, ih]; omega
theorem ecells_app (a b : List Ed) : ecells (a ++ b) = ecells a ++ ecells b := by
  induction a with
  | nil => rfl
  | cons e r ih => simp [ecells, ih]
theorem ecells_at {es : List Ed} {j : Nat} {e : Ed} (h : es[j]? = some e) : (ecells es)[j * 2]? = some (.int .i64 e.1) ∧ (ecells es)[j * 2 + 1]? = some (.int .i64 e.2) := by
  induction es generalizing j with
  | nil => simp at h
  | cons x r ih =>
    cases j with
    | zero => simp at h; subst h; simp [ecells]
    | succ j =>
      have h' : r[j]? = some e := by simpa using h
      obtain ⟨h1, h2⟩ := ih h'
      rw [show (j + 1) * 2 = j * 2 + 2 by omega]
      exact ⟨by simpa [ecells] using h1, by simpa [ecells] using h2⟩
theorem ecells_one (es : List Ed) : ∀ u ∈ ecells es, u.oneCell' = true := by
  induction es with
  | nil => intro u h; cases h
  | cons e r ih =>
    intro u h
    simp only [ecells, List.mem_cons] at h
    rcases h with rfl | rfl | h
    · rfl
    · rfl
    · exact ih u h
def All64E (es : List Ed) : Prop := ∀ e ∈ es, I64 e.1 ∧ I64 e.2
structure OE (w : World) (B : Nat) (ty : TypeId) (A : Option Addr) (n c : Nat) (es : List Ed) : Prop where
  os : OS w B ty 2 A n c (ecells es)
  all : All64E es
section
variable {w w' : World} {B : Nat} {ty : TypeId} {A : Option Addr} {n c : Nat} {es : List Ed}
theorem OE.nil_ (w : World) (B : Nat) (ty : TypeId) : OE w B ty none 0 0 [] := ⟨OS.nil_ w B ty 2, fun _ h => by cases h⟩
theorem OE.len (h : OE w B ty A n c es) : es.length = n := by have := h.os.len; rw [ecells_len] at this; omega
theorem OE.kept {r : Option Nat} (h : OE w B ty A n c es) (hg : w.grownBy w' r) (hne : blk A = none ∨ blk A ≠ r) : OE w' B ty A n c es := ⟨h.os.kept hg hne, h.all⟩
theorem OE.below (h : OE w B ty A n c es) (hb : Below w.heap.size w w') : OE w' B ty A n c es := ⟨h.os.below hb, h.all⟩
theorem OE.more {B' : Nat} (h : OE w B ty A n c es) (hB : B' ≤ B) : OE w B' ty A n c es := ⟨h.os.more hB, h.all⟩
theorem OE.cell (h : OE w B ty A n c es) {k : Nat} (hk : k < n) : ∃ g, A = some ⟨g, 0, none⟩ ∧ w.cell? ⟨g, k * 2, none⟩ = some (.int .i64 (nthE es k).1) ∧ w.cell? ⟨g, k * 2 + 1, none⟩ = some (.int .i64 (nthE es k).2) ∧
    w.frozen? ⟨g, k * 2, none⟩ = false ∧ w.frozen? ⟨g, k * 2 + 1, none⟩ = false ∧ I64 (nthE es k).1 ∧ I64 (nthE es k).2 := by
  have hl : k < es.length := by rw [h.len]; exact hk
  have he : es[k]? = some (nthE es k) := by rw [nthE_get hl]; exact List.getElem?_eq_getElem hl
  obtain ⟨h1, h2⟩ := ecells_at he
  obtain ⟨g, ha, hc, hf⟩ := h.os.cell h1
  obtain ⟨g', ha', hc', hf'⟩ := h.os.cell h2
  obtain rfl : g = g' := by rw [ha] at ha'; injection ha' with ha'; injection ha'
  exact ⟨g, ha, hc, hc', hf, hf', h.all _ (List.mem_of_getElem? he)⟩
theorem OE.reads (h : OE w B ty A n c es) : RE w A n es := by
  refine ⟨h.len, fun j e he => ?_⟩
  obtain ⟨h1, h2⟩ := ecells_at he
  obtain ⟨g, ha, hc, hf⟩ := h.os.cell h1
  obtain ⟨g', ha', hc', hf'⟩ := h.os.cell h2
  obtain rfl : g = g' := by rw [ha] at ha'; injection ha' with ha'; injection ha'
  exact ⟨g, 0, ha, by rw [Nat.zero_add]; exact hc, by rw [Nat.zero_add]; exact hc', h.all e (List.mem_of_getElem? he)⟩
end
theorem edge_info : (Tryz.prog.info? 113).map (fun i => (i.zero, i.size, i.bytes)) = some (some (.agg #[.int .i64 0, .int .i64 0]), 2, 16) := by kernel_rfl
structure OG (w : World) (B D : Nat) (A : Option Addr) (n c : Nat) (F : Option Addr) (m d : Nat) (cs : List Int) (es : List Ed) : Prop where
  oi : OI w B 2 A n c cs
  oe : OE w B 113 F m d es
  la : ∀ b, blk A = some b → b < D
  lf : ∀ b, blk F = some b → b < D
structure RG (w : World) (A : Option Addr) (n : Nat) (F : Option Addr) (m : Nat) (cs : List Int) (es : List Ed) : Prop where
  ri : RI w A n cs
  re : RE w F m es
section
variable {w w' : World} {B D B' D' : Nat} {A F : Option Addr} {n c m d : Nat} {cs : List Int} {es : List Ed}
theorem RG.keep (h : RG w A n F m cs es) (hb : Below w.heap.size w w') : RG w' A n F m cs es := ⟨h.ri.keep hb, h.re.keep hb⟩
theorem OE.setLow {ty : TypeId} (h : OE w B ty F m d es) {p : Addr} (hp : p.block < B) (u : Value) : OE (w.setCell p u) B ty F m d es := ⟨h.os.setLow hp u, h.all⟩
theorem OG.reads (h : OG w B D A n c F m d cs es) : RG w A n F m cs es := ⟨h.oi.reads, h.oe.reads⟩
theorem OG.of (h : OI w B 2 A n c cs) (k : OE w B 113 F m d es) : OG w B w.heap.size A n c F m d cs es := ⟨h, k, fun _ hb => (h.os.lt hb).2, fun _ hb => (k.os.lt hb).2⟩
end
theorem grown_set {w : World} {g p : Nat} {u : Value} : w.grownBy (w.setCell ⟨g, p, none⟩ u) (some g) :=
  ⟨rfl, rfl, rfl, by simp [World.setCell], fun k _ hk => Below.heap_setCell _ _ _ _ (fun e => hk (by rw [e]))⟩
/-! marks -/
def RetG (w : World) (cs : List Int) (es : List Ed) (en : Ending) (w' : World) : Prop :=
  ∃ A n c F m d, en = .returned (.agg #[.slice A n c, .slice F m d]) ∧ OG w' w.heap.size w'.heap.size A n c F m d cs es ∧ Below w.heap.size w w'
end Go.Proofs.YtdkbcjdimhgmnaaGreat
