/- A graph under construction; spec.l21Of. No condition beyond those stated. -/
import Derived.Test.YtncknfhfkmmhbaaGreatZBA
set_option linter.unusedVariables false
set_option linter.unusedSimpArgs false
namespace Go.Proofs.YtncknfhfkmmhbaaGreat
open Go.RowKit

structure GB (w0 wr : World) (rb gb : Nat) (A : Option Addr) (n c : Nat) (F : Option Addr) (m d : Nat) (cs : List Int) (es : List Ed) : Prop where
  b : Below w0.heap.size w0 wr
  x : Blk wr gb 36 #[.slice A n c, .slice F m d]
  r : Blk wr rb 36 #[.slice none 0 0, .slice none 0 0]
  oa : OI wr w0.heap.size 2 A n c cs
  of_ : OE wr w0.heap.size 48 F m d es
  rg : rb < gb
  wb : w0.heap.size ≤ rb
section
variable {w0 wr w' : World} {rb gb : Nat} {A : Option Addr} {n c : Nat} {F : Option Addr} {m d : Nat} {cs : List Int} {es : List Ed}
theorem GB.step (h : GB w0 wr rb gb A n c F m d cs es) (hb : Below wr.heap.size wr w') : GB w0 w' rb gb A n c F m d cs es :=
  ⟨h.b.trans (hb.mono h.b.size), h.x.after hb, h.r.after hb, h.oa.below hb, h.of_.below hb, h.rg, h.wb⟩
theorem GB.edges (h : GB w0 wr rb gb A n c F m d cs es) (hg : wr.grownBy w' (blk F)) {F' : Option Addr} {m' d' : Nat} {es' : List Ed} (ho : OE w' w0.heap.size 48 F' m' d' es') :
    GB w0 (w'.setCell ⟨gb, 1, none⟩ (.slice F' m' d')) rb gb A n c F' m' d' cs es' := by
  have hrg := h.rg
  have hwb := h.wb
  have hx := h.x.grown hg (OS.typed' h.of_.os h.x (by decide))
  have hr := h.r.grown hg (OS.typed' h.of_.os h.r (by decide))
  have hoa := h.oa.kept hg (OS.typed h.oa.os h.of_.os (by decide))
  have hb := below_own h.b hg h.b.size (fun b hb => (h.of_.os.lt hb).1)
  refine ⟨Below.setCell hb (by show w0.heap.size ≤ gb; omega) _, ?_, hr.far (by show rb ≠ gb; omega) _, ?_, ?_, hrg, hwb⟩
  · have := hx.set_ 1 (.slice F' m' d')
    simpa using this
  · exact hoa.kept grown_set (.inr fun e => OS.typed' hoa.os hx (by decide) e.symm)
  · exact ho.kept grown_set (.inr fun e => OS.typed' ho.os hx (by decide) e.symm)
theorem GB.edges0 (h : GB w0 wr rb gb A n c F m d cs es) {F' : Option Addr} {m' d' : Nat} {es' : List Ed} (ho : OE wr w0.heap.size 48 F' m' d' es') :
    GB w0 (wr.setCell ⟨gb, 1, none⟩ (.slice F' m' d')) rb gb A n c F' m' d' cs es' := h.edges (World.grownBy.refl _ _) ho
/-- what is handed back -/
theorem GB.done (h : GB w0 wr rb gb A n c F m d cs es) :
    OG ((wr.setCell ⟨rb, 0, none⟩ (.slice A n c)).setCell ⟨rb, 1, none⟩ (.slice F m d)) w0.heap.size ((wr.setCell ⟨rb, 0, none⟩ (.slice A n c)).setCell ⟨rb, 1, none⟩ (.slice F m d)).heap.size A n c F m d cs es ∧
    Below w0.heap.size w0 ((wr.setCell ⟨rb, 0, none⟩ (.slice A n c)).setCell ⟨rb, 1, none⟩ (.slice F m d)) ∧
    Blk ((wr.setCell ⟨rb, 0, none⟩ (.slice A n c)).setCell ⟨rb, 1, none⟩ (.slice F m d)) rb 36 #[.slice A n c, .slice F m d] := by
  have hrg := h.rg
  have hwb := h.wb
  have e1 : some rb ≠ blk A := OS.typed' h.oa.os h.r (by decide)
  have e2 : some rb ≠ blk F := OS.typed' h.of_.os h.r (by decide)
  have o1 := (h.oa.kept (grown_set (g := rb) (p := 0) (u := .slice A n c)) (.inr fun e => e1 e.symm)).kept (grown_set (g := rb) (p := 1) (u := .slice F m d)) (.inr fun e => e1 e.symm)
  have o2 := (h.of_.kept (grown_set (g := rb) (p := 0) (u := .slice A n c)) (.inr fun e => e2 e.symm)).kept (grown_set (g := rb) (p := 1) (u := .slice F m d)) (.inr fun e => e2 e.symm)
  exact ⟨OG.of o1 o2, Below.setCell (Below.setCell h.b (by show w0.heap.size ≤ rb; omega) _) (by show w0.heap.size ≤ rb; omega) _, by
    have := (h.r.set_ 0 (.slice A n c)).set_ 1 (.slice F m d)
    simpa using this⟩
end
theorem OE.none_ (w : World) (B : Nat) (hB : B ≤ w.heap.size) : OE (w.alloc (.cells #[] 48)) B 48 (some ⟨w.heap.size, 0, none⟩) 0 0 [] := ⟨OS.lit w B 48 2 0 #[] hB rfl (by omega), fun _ h => by cases h⟩
/-- the rows of a table so far -/
def tabU (n : Nat) (f : Nat → Nat → Bool) (i : Nat) : List Ed := (List.range i).flatMap fun (a : Nat) => (((List.range n).drop (a + 1)).filter fun (b : Nat) => f a b).map fun (b : Nat) => ((a : Int), (b : Int))
def tabV (f : Nat → Nat → Bool) (a j : Nat) : List Ed := (((List.range j).drop (a + 1)).filter fun (b : Nat) => f a b).map fun (b : Nat) => ((a : Int), (b : Int))
theorem tabU_zero (n : Nat) (f : Nat → Nat → Bool) : tabU n f 0 = [] := rfl
theorem tabU_all (n : Nat) (f : Nat → Nat → Bool) : tabU n f n = tabE n f := rfl
theorem tabU_step (n : Nat) (f : Nat → Nat → Bool) (i : Nat) : tabU n f (i + 1) = tabU n f i ++ tabV f i n := by simp [tabU, tabV, List.range_succ]
theorem tabV_start (f : Nat → Nat → Bool) (a : Nat) : tabV f a (a + 1) = [] := by
  unfold tabV
  rw [List.drop_of_length_le (by simp)]
  rfl
theorem tabV_yes {f : Nat → Nat → Bool} {a j : Nat} (h : a + 1 ≤ j) (hf : f a j = true) : tabV f a (j + 1) = tabV f a j ++ [((a : Int), (j : Int))] := by
  unfold tabV
  rw [List.range_succ, List.drop_append_of_le_length (by simp; omega), List.filter_append, List.map_append]
  simp [hf]
theorem tabV_no {f : Nat → Nat → Bool} {a j : Nat} (h : a + 1 ≤ j) (hf : f a j = false) : tabV f a (j + 1) = tabV f a j := by
  unfold tabV
  rw [List.range_succ, List.drop_append_of_le_length (by simp; omega), List.filter_append, List.map_append]
  simp [hf]
end Go.Proofs.YtncknfhfkmmhbaaGreat
/- spec.l21Relabel. No condition beyond those stated. -/
namespace Go.Proofs.YtncknfhfkmmhbaaGreat
open Go.RowKit

theorem relB_snoc (es : List Ed) (e : Ed) (p : List Int) (a b : Nat) : relB (es ++ [e]) p a b = (relB es p a b || ((nth p e.1.toNat == (a : Int) && nth p e.2.toNat == (b : Int)) || (nth p e.2.toNat == (a : Int) && nth p e.1.toNat == (b : Int)))) := by simp [relB]
theorem relB_step {es : List Ed} {p : List Int} {k : Nat} (hk : k < es.length) {x y px py : Nat} (hx : (nthE es k).1 = x) (hy : (nthE es k).2 = y) (hpx : nth p x = px) (hpy : nth p y = py) (a b : Nat) :
    (if a = py ∧ b = px then true else if a = px ∧ b = py then true else relB (es.take k) p a b) = relB (es.take (k + 1)) p a b := by
  rw [List.take_succ_eq_append_getElem hk, relB_snoc, ← nthE_get hk, hx, hy, Int.toNat_natCast, Int.toNat_natCast, hpx, hpy]
  by_cases h1 : a = py ∧ b = px
  · obtain ⟨rfl, rfl⟩ := h1
    simp
  · rw [if_neg h1]
    by_cases h2 : a = px ∧ b = py
    · obtain ⟨rfl, rfl⟩ := h2
      simp
    · rw [if_neg h2]
      have e1 : (((px : Int) == (a : Int)) && ((py : Int) == (b : Int))) = false := by
        simp; intro h3 h4; exact h2 ⟨by omega, by omega⟩
      have e2 : (((py : Int) == (a : Int)) && ((px : Int) == (b : Int))) = false := by
        simp; intro h3 h4; exact h1 ⟨by omega, by omega⟩
      rw [e1, e2]
      simp
theorem permAt {p : List Int} {n : Nat} (hp : Perm p) (hl : p.length = n) {k : Nat} (h : k < n) : ∃ q : Nat, nth p k = q ∧ q < n := by
  have := hp.bd k (by omega)
  exact ⟨(nth p k).toNat, by omega, by omega⟩
end Go.Proofs.YtncknfhfkmmhbaaGreat
