/- Graphs: what the laws' own helpers do with them. No condition beyond those stated. -/
import Derived.Test.YtncknfhfkmmhbaaGreatZAJ
import Derived.Test.YtncknfhfkmmhbaaGreatZAK
import Derived.Test.YtncknfhfkmmhbaaGreatZAE
set_option linter.unusedVariables false
set_option linter.unusedSimpArgs false
namespace Go.Proofs.YtncknfhfkmmhbaaGreat
open Go.RowKit

/-- a graph in memory of a call's own, from B on and below D -/
structure OG (w : World) (B D : Nat) (A : Option Addr) (n c : Nat) (F : Option Addr) (m d : Nat) (cs : List Int) (es : List Ed) : Prop where
  oi : OI w B 2 A n c cs
  oe : OE w B 48 F m d es
  la : ∀ b, blk A = some b → b < D
  lf : ∀ b, blk F = some b → b < D
/-- a graph that reads so -/
structure RG (w : World) (A : Option Addr) (n : Nat) (F : Option Addr) (m : Nat) (cs : List Int) (es : List Ed) : Prop where
  ri : RI w A n cs
  re : RE w F m es
section
variable {w w' : World} {B D B' D' : Nat} {A F : Option Addr} {n c m d : Nat} {cs : List Int} {es : List Ed}
theorem RG.keep (h : RG w A n F m cs es) (hb : Below w.heap.size w w') : RG w' A n F m cs es := ⟨h.ri.keep hb, h.re.keep hb⟩
theorem OE.setLow {ty : TypeId} (h : OE w B ty F m d es) {p : Addr} (hp : p.block < B) (u : Value) : OE (w.setCell p u) B ty F m d es := ⟨h.os.setLow hp u, h.all⟩
theorem OG.reads (h : OG w B D A n c F m d cs es) : RG w A n F m cs es := ⟨h.oi.reads, h.oe.reads⟩
theorem OG.mid (h : OG w B D A n c F m d cs es) (hm : Mid w w' B' D') (hd : D' ≤ B ∨ D ≤ B') : OG w' B D A n c F m d cs es :=
  ⟨h.oi.mid hm (fun b hb => by have := (h.oi.os.lt hb).1; have := h.la b hb; omega), h.oe.mid hm (fun b hb => by have := (h.oe.os.lt hb).1; have := h.lf b hb; omega), h.la, h.lf⟩
theorem OG.below (h : OG w B D A n c F m d cs es) (hb : Below w.heap.size w w') : OG w' B D A n c F m d cs es := h.mid (Mid.of_below hb (Nat.le_refl _) 0 0) (.inl (Nat.zero_le _))
theorem OG.of (h : OI w B 2 A n c cs) (k : OE w B 48 F m d es) : OG w B w.heap.size A n c F m d cs es := ⟨h, k, fun _ hb => (h.os.lt hb).2, fun _ hb => (k.os.lt hb).2⟩
theorem OG.apart (h : OG w B D A n c F m d cs es) : blk A = none ∨ blk A ≠ blk F := OS.typed h.oi.os h.oe.os (by decide)
theorem OG.apart' (h : OG w B D A n c F m d cs es) : blk F = none ∨ blk F ≠ blk A := OS.typed h.oe.os h.oi.os (by decide)
end

/-! marks -/
def marksE (k m : Nat) : List Ed := (List.range m).map fun i => (((k + 2 * i : Nat) : Int), ((k + 2 * i + 1 : Nat) : Int))
theorem marksE_len (k m : Nat) : (marksE k m).length = m := by simp [marksE]
theorem marksE_nth {k m i : Nat} (h : i < m) : nthE (marksE k m) i = (((k + 2 * i : Nat) : Int), ((k + 2 * i + 1 : Nat) : Int)) := by simp [nthE, marksE, List.getD, h]
def markedE (k : Nat) (es : List Ed) (j : Nat) : List Ed := marksE k j ++ es.drop j
theorem markedE_zero (k : Nat) (es : List Ed) : markedE k es 0 = es := by simp [markedE, marksE]
theorem markedE_all (k : Nat) (es : List Ed) : markedE k es es.length = marksE k es.length := by simp [markedE]
theorem markedE_step {k : Nat} {es : List Ed} {j : Nat} (h : j < es.length) : (markedE k es j).set j (((k + 2 * j : Nat) : Int), ((k + 2 * j + 1 : Nat) : Int)) = markedE k es (j + 1) := by
  unfold markedE
  rw [List.set_append_right _ _ (by rw [marksE_len]; exact Nat.le_refl _), marksE_len, Nat.sub_self, List.drop_eq_getElem_cons h, List.set_cons_zero]
  simp [marksE, List.range_succ]
/-- a graph in memory of its own -/
def RetG (w : World) (cs : List Int) (es : List Ed) (en : Ending) (w' : World) : Prop :=
  ∃ A n c F m d, en = .returned (.agg #[.slice A n c, .slice F m d]) ∧ OG w' w.heap.size w'.heap.size A n c F m d cs es ∧ Below w.heap.size w w'
end Go.Proofs.YtncknfhfkmmhbaaGreat
