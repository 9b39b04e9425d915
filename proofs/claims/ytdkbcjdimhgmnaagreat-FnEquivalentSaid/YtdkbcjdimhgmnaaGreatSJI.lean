/- The tables of a field: plain words and memory. No condition beyond those stated. -/
import Derived.Test.YtdkbcjdimhgmnaaGreatSJH
import Derived.Deep.DeepCutAuto
set_option linter.unusedVariables false
set_option linter.unusedSimpArgs false
set_option linter.unusedSectionVars false
namespace Go.Proofs.YtdkbcjdimhgmnaaGreat
open Go.RowKit
noncomputable def invL (p : Int) (k : Nat) (f : List Int) (q a b : Nat) : List Int := (List.range q).map fun (i : Nat) =>
  if i = 0 then 0 else if i < a then finv p k f i else if i = a ∧ finv p k f i < b then finv p k f i else 0
theorem invL_len (p : Int) (k : Nat) (f : List Int) (q a b : Nat) : (invL p k f q a b).length = q := by simp [invL]
theorem invL_nth (p : Int) (k : Nat) (f : List Int) {q a b i : Nat} (h : i < q) : nth (invL p k f q a b) i = if i = 0 then 0 else if i < a then finv p k f i else if i = a ∧ finv p k f i < b then finv p k f i else 0 := by
  unfold invL
  rw [nth_map_range, if_pos h]
section
variable {p : Int} {k : Nat} {f : List Int} (hf : FldOk p k f) {q : Nat} (hq : p ^ k = (q : Int))
include hf hq
theorem invL_zero : invL p k f q 0 0 = List.replicate q 0 := by
  refine nth_ext (by rw [invL_len]; simp) fun i hi => ?_
  rw [invL_len] at hi
  rw [invL_nth p k f hi, nth_get (zs := List.replicate q 0) (by simpa using hi), List.getElem_replicate]
  by_cases e : i = 0
  · rw [if_pos e]
  · rw [if_neg e, if_neg (by omega), if_neg (by omega)]
theorem invL_next {a : Nat} (ha : a < q) : invL p k f q a q = invL p k f q (a + 1) 0 := by
  refine nth_ext (by rw [invL_len, invL_len]) fun i hi => ?_
  rw [invL_len] at hi
  rw [invL_nth p k f hi, invL_nth p k f hi]
  by_cases e : i = 0
  · rw [if_pos e, if_pos e]
  · obtain ⟨h1, h2, -⟩ := finv_ok hf (a := (i : Int)) (by omega) (by rw [hq]; omega)
    rw [hq] at h2
    rw [if_neg e, if_neg e]
    by_cases e1 : i < a
    · rw [if_pos e1, if_pos (by omega)]
    · by_cases e2 : i = a
      · rw [if_neg e1, if_pos ⟨e2, h2⟩, if_pos (by omega)]
      · rw [if_neg e1, if_neg (by omega), if_neg (by omega), if_neg (by omega)]
theorem invL_all : invL p k f q q 0 = invQ p k f q := by
  refine nth_ext (by rw [invL_len, invQ_len]) fun i hi => ?_
  rw [invL_len] at hi
  rw [invL_nth p k f hi]
  unfold invQ
  by_cases e : i = 0
  · rw [if_pos e, nth_map_range, if_pos hi, if_pos e]
  · rw [if_neg e, nth_map_range, if_pos hi, if_neg e, if_pos hi]
theorem invL_hit {a b : Nat} (ha : a < q) (hb : b < q) (h1 : mulP p k f a b = 1) : (invL p k f q a b).set a b = invL p k f q a (b + 1) := by
  obtain ⟨p2, p61, k1, k6, hq64, hq2⟩ := hf.nums
  have a0 : a ≠ 0 := fun e => by
    rw [e, show ((0 : Nat) : Int) = 0 from rfl, mulP_zero_left (by omega)] at h1
    omega
  have he := finv_only hf (a := (a : Int)) (b := (b : Int)) (by omega) (by rw [hq]; omega) (by omega) (by rw [hq]; omega) h1
  refine nth_ext (by rw [List.length_set, invL_len, invL_len]) fun i hi => ?_
  rw [List.length_set, invL_len] at hi
  rw [nth_setI (by rw [invL_len]; exact ha), invL_nth p k f hi, invL_nth p k f hi]
  by_cases e : i = a
  · rw [if_pos e, if_neg (by omega), if_neg (by omega), if_pos ⟨e, by rw [e, ← he]; omega⟩, e]
    exact he
  · rw [if_neg e]
    by_cases e0 : i = 0
    · rw [if_pos e0, if_pos e0]
    · rw [if_neg e0, if_neg e0]
      by_cases e1 : i < a
      · rw [if_pos e1, if_pos e1]
      · rw [if_neg e1, if_neg e1, if_neg (by omega), if_neg (by omega)]
theorem invL_miss {a b : Nat} (ha : a < q) (h1 : mulP p k f a b ≠ 1) : invL p k f q a b = invL p k f q a (b + 1) := by
  refine nth_ext (by rw [invL_len, invL_len]) fun i hi => ?_
  rw [invL_len] at hi
  rw [invL_nth p k f hi, invL_nth p k f hi]
  by_cases e0 : i = 0
  · rw [if_pos e0, if_pos e0]
  · rw [if_neg e0, if_neg e0]
    by_cases e1 : i < a
    · rw [if_pos e1, if_pos e1]
    · rw [if_neg e1, if_neg e1]
      by_cases e2 : i = a
      · subst e2
        obtain ⟨h2, h3, h4⟩ := finv_ok hf (a := (i : Int)) (by omega) (by rw [hq]; omega)
        have hne : finv p k f i ≠ b := fun e => h1 (by rw [← e]; exact h4)
        by_cases e3 : finv p k f i < b
        · rw [if_pos ⟨rfl, e3⟩, if_pos ⟨rfl, by omega⟩]
        · rw [if_neg (by omega), if_neg (by omega)]
      · rw [if_neg (by omega), if_neg (by omega)]
end
theorem grown_then {w w1 w2 : World} {r : Option Nat} (h : w.grownBy w1 r) (hb : Below w.heap.size w1 w2) : w.grownBy w2 r :=
  ⟨hb.os.trans h.os, hb.tape.trans h.tape, hb.output.trans h.output, Nat.le_trans h.size hb.size, fun k hk hne => (hb.block k hk).trans (h.block k hk hne)⟩
theorem below_far {w : World} {B g p : Nat} {u : Value} (hg : B ≤ g) (hB : B ≤ w.heap.size) : Below B w (w.setCell ⟨g, p, none⟩ u) := by
  have h : w.grownBy (w.setCell ⟨g, p, none⟩ u) (some g) := grown_set
  exact ⟨h.os, h.tape, h.output, h.size, fun k hk => h.block k (by omega) (fun e => by injection e with e; omega)⟩
def apartA (A A' : Option Addr) : Prop := blk A = none ∨ blk A ≠ blk A'
theorem apartA.symm {A A' : Option Addr} (h : apartA A A') : apartA A' A := sep_symm h
structure T3 (w : World) (B : Nat) (A1 : Option Addr) (n1 c1 : Nat) (vs1 : List Sl) (Z1 : List (List Int)) (A2 : Option Addr) (n2 c2 : Nat) (vs2 : List Sl) (Z2 : List (List Int)) (A3 : Option Addr) (n3 c3 : Nat) (vs3 : List Sl) (Z3 : List (List Int)) : Prop where
  o1 : ORv w B 22 2 A1 n1 c1 vs1 Z1
  o2 : ORv w B 22 2 A2 n2 c2 vs2 Z2
  o3 : ORv w B 22 2 A3 n3 c3 vs3 Z3
  a12 : apartA A1 A2
  a23 : apartA A2 A3
  a31 : apartA A3 A1
section
variable {w w' : World} {B : Nat} {A1 : Option Addr} {n1 c1 : Nat} {vs1 : List Sl} {Z1 : List (List Int)} {A2 : Option Addr} {n2 c2 : Nat} {vs2 : List Sl} {Z2 : List (List Int)} {A3 : Option Addr} {n3 c3 : Nat} {vs3 : List Sl} {Z3 : List (List Int)}
theorem T3.rot (h : T3 w B A1 n1 c1 vs1 Z1 A2 n2 c2 vs2 Z2 A3 n3 c3 vs3 Z3) : T3 w B A2 n2 c2 vs2 Z2 A3 n3 c3 vs3 Z3 A1 n1 c1 vs1 Z1 := ⟨h.o2, h.o3, h.o1, h.a23, h.a31, h.a12⟩
theorem T3.below (h : T3 w B A1 n1 c1 vs1 Z1 A2 n2 c2 vs2 Z2 A3 n3 c3 vs3 Z3) (hb : Below w.heap.size w w') : T3 w' B A1 n1 c1 vs1 Z1 A2 n2 c2 vs2 Z2 A3 n3 c3 vs3 Z3 := ⟨h.o1.below hb, h.o2.below hb, h.o3.below hb, h.a12, h.a23, h.a31⟩
theorem ORv.lowg {w w' : World} {B : Nat} {e2 e1 : TypeId} {A : Option Addr} {n c : Nat} {vs : List Sl} {zss : List (List Int)} (h : ORv w B e2 e1 A n c vs zss) {g : Nat} (hg : w.grownBy w' (some g)) (hl : g < B) : ORv w' B e2 e1 A n c vs zss := by
  refine h.kept hg ?_ fun j v hv => ?_
  · cases e : blk A with
    | none => exact .inl rfl
    | some b => exact .inr fun e' => by injection e' with e'; have := (h.os.lt e).1; omega
  · cases e : blk v.1 with
    | none => exact .inl rfl
    | some b => exact .inr fun e' => by injection e' with e'; have := (h.row_lt hv e).1; omega
theorem T3.low (h : T3 w B A1 n1 c1 vs1 Z1 A2 n2 c2 vs2 Z2 A3 n3 c3 vs3 Z3) {g : Nat} (hg : w.grownBy w' (some g)) (hl : g < B) : T3 w' B A1 n1 c1 vs1 Z1 A2 n2 c2 vs2 Z2 A3 n3 c3 vs3 Z3 := ⟨h.o1.lowg hg hl, h.o2.lowg hg hl, h.o3.lowg hg hl, h.a12, h.a23, h.a31⟩
theorem ORv.outer {w w' : World} {B : Nat} {A A' : Option Addr} {n c n' c' : Nat} {vs vs' : List Sl} {zss zss' : List (List Int)} (h : ORv w B 22 2 A n c vs zss) (h' : ORv w B 22 2 A' n' c' vs' zss') (ha : apartA A A') (hg : w.grownBy w' (blk A')) : ORv w' B 22 2 A n c vs zss :=
  h.kept hg ha fun j v hv => by
    have hj : j < zss.length := by rw [← h.len]; exact (List.getElem?_eq_some_iff.1 hv).1
    exact OS.typed (h.rows j v _ hv (List.getElem?_eq_getElem hj)).os h'.os (by decide)
theorem apartA.fresh {A A' : Option Addr} {n c : Nat} {vs : List Sl} {zss : List (List Int)} (h : ORv w B 22 2 A n c vs zss) {Ao : Option Addr} (ha : apartA Ao A) (hf : blk A' = blk Ao ∨ ∃ q, blk A' = some q ∧ w.heap.size ≤ q) : apartA A' A := by
  unfold apartA at *
  rcases hf with e | ⟨q, e, hq⟩
  · rw [e]; exact ha
  · rw [e]
    refine .inr fun e' => ?_
    have := (h.os.lt e'.symm).2
    omega
theorem T3.push (h : T3 w B A1 n1 c1 vs1 Z1 A2 n2 c2 vs2 Z2 A3 n3 c3 vs3 Z3) {A' : Option Addr} {n' c' : Nat} {vs' : List Sl} {Z' : List (List Int)} (ho : ORv w' B 22 2 A' n' c' vs' Z') (hg : w.grownBy w' (blk A1)) (hf : blk A' = blk A1 ∨ ∃ q, blk A' = some q ∧ w.heap.size ≤ q) :
    T3 w' B A' n' c' vs' Z' A2 n2 c2 vs2 Z2 A3 n3 c3 vs3 Z3 :=
  ⟨ho, h.o2.outer h.o1 h.a12.symm hg, h.o3.outer h.o1 h.a31 hg, apartA.fresh h.o2 h.a12 hf, h.a23, (apartA.fresh h.o3 h.a31.symm hf).symm⟩
end
structure TSt (w wr : World) (t3 gi : Nat) (p : Int) (k : Nat) (f : List Int) (q : Nat) (A : Option Addr) (n c : Nat) (A1 : Option Addr) (c1 : Nat) (vs1 : List Sl) (A2 : Option Addr) (c2 : Nat) (vs2 : List Sl) (A3 : Option Addr) (c3 : Nat) (vs3 : List Sl) (a b : Nat) : Prop where
  fb : Blk wr w.heap.size 31 #[.int .i64 p, .int .i64 k, .slice A n c]
  res : Blk wr (w.heap.size + 1) 146 #[.int .i64 0, .slice none 0 0, .slice none 0 0, .slice none 0 0, .slice none 0 0]
  t : Blk wr t3 146 #[.int .i64 q, .slice A1 a c1, .slice A2 a c2, .slice A3 a c3, .slice (some ⟨gi, 0, none⟩) q q]
  inv : OI wr w.heap.size 2 (some ⟨gi, 0, none⟩) q q (invL p k f q a b)
  tt : T3 wr (gi + 1) A1 a c1 vs1 ((tblQ q (sumP p k 1)).take a) A2 a c2 vs2 ((tblQ q (sumP p k (p - 1))).take a) A3 a c3 vs3 ((tblQ q (mulP p k f)).take a)
  bel : Below w.heap.size w wr
  lt3 : w.heap.size + 2 ≤ t3
  lti : t3 < gi
section
variable {w wr w' : World} {t3 gi : Nat} {p : Int} {k : Nat} {f : List Int} {q : Nat} {A : Option Addr} {n c : Nat} {A1 : Option Addr} {c1 : Nat} {vs1 : List Sl} {A2 : Option Addr} {c2 : Nat} {vs2 : List Sl} {A3 : Option Addr} {c3 : Nat} {vs3 : List Sl} {a b : Nat}
theorem TSt.below (h : TSt w wr t3 gi p k f q A n c A1 c1 vs1 A2 c2 vs2 A3 c3 vs3 a b) (hb : Below wr.heap.size wr w') : TSt w w' t3 gi p k f q A n c A1 c1 vs1 A2 c2 vs2 A3 c3 vs3 a b :=
  ⟨h.fb.after hb, h.res.after hb, h.t.after hb, h.inv.below hb, h.tt.below hb, h.bel.trans (hb.mono h.bel.size), h.lt3, h.lti⟩
theorem TSt.low (h : TSt w wr t3 gi p k f q A n c A1 c1 vs1 A2 c2 vs2 A3 c3 vs3 a b) {b' : Nat} (hg : wr.grownBy w' (some gi)) (ho : OI w' w.heap.size 2 (some ⟨gi, 0, none⟩) q q (invL p k f q a b')) : TSt w w' t3 gi p k f q A n c A1 c1 vs1 A2 c2 vs2 A3 c3 vs3 a b' := by
  have h1 := h.lt3
  have h2 := h.lti
  refine ⟨h.fb.grown hg (fun e => by injection e with e; omega), h.res.grown hg (fun e => by injection e with e; omega), h.t.grown hg (fun e => by injection e with e; omega), ho, h.tt.low hg (Nat.lt_succ_self _), ?_, h1, h2⟩
  exact h.bel.grown hg h.bel.size (fun b hb => by injection hb with hb; omega)
end
end Go.Proofs.YtdkbcjdimhgmnaaGreat
set_option linter.unusedSectionVars false
namespace Go.Proofs.YtdkbcjdimhgmnaaGreat
open Go.RowKit
def RetTab (w : World) (p : Int) (k : Nat) (f : List Int) (q : Nat) (e : Ending) (w' : World) : Prop :=
  ∃ A1 A2 A3 A4 c1 c2 c3 c4, e = .returned (.agg #[.int .i64 q, .slice A1 q c1, .slice A2 q c2, .slice A3 q c3, .slice A4 q c4]) ∧ TabA w' p k f q A1 A2 A3 A4 ∧ Below w.heap.size w w'
structure New3 (W wx : World) (q r1 r2 r3 : Nat) (z1 z2 z3 : List Int) : Prop where
  o1 : OI wx W.heap.size 2 (some ⟨r1, 0, none⟩) q q z1
  o2 : OI wx W.heap.size 2 (some ⟨r2, 0, none⟩) q q z2
  o3 : OI wx W.heap.size 2 (some ⟨r3, 0, none⟩) q q z3
  ne : r1 ≠ r2 ∧ r2 ≠ r3 ∧ r1 ≠ r3
theorem New3.below {W wx w' : World} {q r1 r2 r3 : Nat} {z1 z2 z3 : List Int} (h : New3 W wx q r1 r2 r3 z1 z2 z3) (hb : Below wx.heap.size wx w') : New3 W w' q r1 r2 r3 z1 z2 z3 := ⟨h.o1.below hb, h.o2.below hb, h.o3.below hb, h.ne⟩
theorem New3.low {W wx w' : World} {q r1 r2 r3 : Nat} {z1 z2 z3 : List Int} (h : New3 W wx q r1 r2 r3 z1 z2 z3) {g : Nat} (hg : wx.grownBy w' (some g)) (hl : g < W.heap.size) : New3 W w' q r1 r2 r3 z1 z2 z3 :=
  ⟨h.o1.kept hg (.inr fun e => by have := (h.o1.os.lt e).1; omega), h.o2.kept hg (.inr fun e => by have := (h.o2.os.lt e).1; omega), h.o3.kept hg (.inr fun e => by have := (h.o3.os.lt e).1; omega), h.ne⟩
theorem New3.put {W wx : World} {q r1 r2 r3 : Nat} {z1 z2 z3 : List Int} (h : New3 W wx q r1 r2 r3 z1 z2 z3) (b : Nat) {x1 x2 x3 : Int} (h1 : I64 x1) (h2 : I64 x2) (h3 : I64 x3) :
    New3 W (((wx.setCell ⟨r1, b, none⟩ (.int .i64 x1)).setCell ⟨r2, b, none⟩ (.int .i64 x2)).setCell ⟨r3, b, none⟩ (.int .i64 x3)) q r1 r2 r3 (z1.set b x1) (z2.set b x2) (z3.set b x3) := by
  obtain ⟨n12, n23, n13⟩ := h.ne
  have far : ∀ {V : World} {g g' : Nat} {z : List Int} (ho : OI V W.heap.size 2 (some ⟨g, 0, none⟩) q q z) (hn : g ≠ g') (u : Value), OI (V.setCell ⟨g', b, none⟩ u) W.heap.size 2 (some ⟨g, 0, none⟩) q q z := fun ho hn u => ho.kept grown_set (.inr fun e => by simp [blk] at e; exact hn e)
  refine ⟨far (far (h.o1.set b h1) n12 _) n13 _, far ((far h.o2 n12.symm _).set b h2) n23 _, ?_, h.ne⟩
  exact (far (far h.o3 n13.symm _) n23.symm _).set b h3
theorem New3.far {W wx : World} {q r1 r2 r3 : Nat} {z1 z2 z3 : List Int} (h : New3 W wx q r1 r2 r3 z1 z2 z3) (hW : W.heap.size ≤ wx.heap.size) (b : Nat) (u1 u2 u3 : Value) :
    Below W.heap.size wx (((wx.setCell ⟨r1, b, none⟩ u1).setCell ⟨r2, b, none⟩ u2).setCell ⟨r3, b, none⟩ u3) := by
  have l1 := (h.o1.os.lt (k := r1) rfl).1
  have l2 := (h.o2.os.lt (k := r2) rfl).1
  have l3 := (h.o3.os.lt (k := r3) rfl).1
  have b1 : Below W.heap.size wx (wx.setCell ⟨r1, b, none⟩ u1) := below_far l1 hW
  have b2 : Below W.heap.size (wx.setCell ⟨r1, b, none⟩ u1) ((wx.setCell ⟨r1, b, none⟩ u1).setCell ⟨r2, b, none⟩ u2) := below_far l2 (by simpa using hW)
  have b3 : Below W.heap.size ((wx.setCell ⟨r1, b, none⟩ u1).setCell ⟨r2, b, none⟩ u2) (((wx.setCell ⟨r1, b, none⟩ u1).setCell ⟨r2, b, none⟩ u2).setCell ⟨r3, b, none⟩ u3) := below_far l3 (by simpa using hW)
  exact (b1.trans b2).trans b3
theorem New3.slots {W wx : World} {q r1 r2 r3 : Nat} {z1 z2 z3 : List Int} (h : New3 W wx q r1 r2 r3 z1 z2 z3) {b : Nat} (hb : b < q) (u1 u2 : Value) :
    wx.cell? ⟨r1, b, none⟩ = some (.int .i64 (nth z1 b)) ∧ wx.frozen? ⟨r1, b, none⟩ = false ∧
    (wx.setCell ⟨r1, b, none⟩ u1).cell? ⟨r2, b, none⟩ = some (.int .i64 (nth z2 b)) ∧ (wx.setCell ⟨r1, b, none⟩ u1).frozen? ⟨r2, b, none⟩ = false ∧
    ((wx.setCell ⟨r1, b, none⟩ u1).setCell ⟨r2, b, none⟩ u2).cell? ⟨r3, b, none⟩ = some (.int .i64 (nth z3 b)) ∧ ((wx.setCell ⟨r1, b, none⟩ u1).setCell ⟨r2, b, none⟩ u2).frozen? ⟨r3, b, none⟩ = false := by
  obtain ⟨n12, n23, n13⟩ := h.ne
  have far : ∀ {V : World} {g g' : Nat} {z : List Int} (ho : OI V W.heap.size 2 (some ⟨g, 0, none⟩) q q z) (hn : g ≠ g') (u : Value), OI (V.setCell ⟨g', b, none⟩ u) W.heap.size 2 (some ⟨g, 0, none⟩) q q z := fun ho hn u => ho.kept grown_set (.inr fun e => by simp [blk] at e; exact hn e)
  obtain ⟨g1, e1, x1, y1, -⟩ := h.o1.cell hb
  obtain ⟨g2, e2, x2, y2, -⟩ := (far h.o2 n12.symm u1).cell hb
  obtain ⟨g3, e3, x3, y3, -⟩ := (far (far h.o3 n13.symm u1) n23.symm u2).cell hb
  cases e1; cases e2; cases e3
  exact ⟨x1, y1, x2, y2, x3, y3⟩
def Cut6 (W wx : World) (q : Nat) (s5 s6 s7 : Value) : Prop := ∃ r1 r2 r3, s5 = .slice (some ⟨r1, 0, none⟩) q q ∧ s6 = .slice (some ⟨r2, 0, none⟩) q q ∧ s7 = .slice (some ⟨r3, 0, none⟩) q q ∧ New3 W wx q r1 r2 r3 (List.replicate q 0) (List.replicate q 0) (List.replicate q 0) ∧ Below W.heap.size W wx
theorem cut6_made (W : World) (q : Nat) (hq : q ≤ 64) : ∃ C, C = Obj.cells (madeCells #[.int .i64 0] q) 2 ∧
    OI (((W.alloc C).alloc C).alloc C).drew W.heap.size 2 (some ⟨W.heap.size, 0, none⟩) q q (List.replicate q 0) ∧ OI (((W.alloc C).alloc C).alloc C).drew W.heap.size 2 (some ⟨W.heap.size + 1, 0, none⟩) q q (List.replicate q 0) ∧ OI (((W.alloc C).alloc C).alloc C).drew W.heap.size 2 (some ⟨W.heap.size + 2, 0, none⟩) q q (List.replicate q 0) ∧ Below W.heap.size W (W.alloc C).drew ∧ Below W.heap.size W ((W.alloc C).alloc C).drew ∧ Below W.heap.size W (((W.alloc C).alloc C).alloc C).drew := by
  obtain ⟨C, hC⟩ : ∃ C, C = Obj.cells (madeCells #[.int .i64 0] q) 2 := ⟨_, rfl⟩
  have hd : ∀ V : World, Below V.heap.size V V.drew := fun V => by have := below_drewn V 1; simpa [← World.drew_is_drewN] using this
  have b1 := below_alloc W C
  have b2 := below_alloc (W.alloc C) C
  have b3 := below_alloc ((W.alloc C).alloc C) C
  have o1 := OI.made W W.heap.size 2 q (Nat.le_refl _) (by omega)
  have o2 := OI.made (W.alloc C) W.heap.size 2 q (by simp) (by omega)
  have o3 := OI.made ((W.alloc C).alloc C) W.heap.size 2 q (by simp; omega) (by omega)
  rw [← hC] at o1 o2 o3
  refine ⟨C, hC, ?_, ?_, ?_, ?_, ?_, ?_⟩
  · exact ((o1.below b2).below b3).below (hd _)
  · have := (o2.below b3).below (hd _)
    rw [show (W.alloc C).heap.size = W.heap.size + 1 from by simp] at this
    exact this
  · have := o3.below (hd _)
    rw [show ((W.alloc C).alloc C).heap.size = W.heap.size + 2 from by simp] at this
    exact this
  · exact b1.trans ((hd _).mono b1.size)
  · have := b1.trans (b2.mono b1.size); exact this.trans ((hd _).mono this.size)
  · have := b1.trans (b2.mono b1.size)
    have := this.trans (b3.mono this.size)
    exact this.trans ((hd _).mono this.size)
theorem app_rowR {ops : Array Oper} {rest : List Oper} {o : Oper} {a : Act} {Q : Exit → Act → World → Prop} (w : World) (hgd : o.guard = none) (s x : Operand) (ho : o.op = .call { callee := .builtin .append, args := #[s, x], argTypes := #[25, 25] })
    (B : Nat) (A : Option Addr) (n c : Nat) (vs : List Sl) (zss : List (List Int)) (hs : a.eval s = .slice A n c) (hown : ORv w B 22 2 A n c vs zss) (v : Sl) (z : List Int) (hv : OI w B 2 v.1 v.2.1 v.2.2 z) (hap : ∀ (j : Nat) (u : Sl), vs[j]? = some u → apart u v)
    (g : Nat) (hx : a.eval x = .slice (some ⟨g, 0, none⟩) 1 1) (hg : w.cell? ⟨g, 0, none⟩ = some (.slice v.1 v.2.1 v.2.2)) (hbig : n + 1 ≤ 2199023255552) (hB : B ≤ w.heap.size)
    (h : ∀ A' c' w', ORv w' B 22 2 A' (n + 1) c' (vs ++ [v]) (zss ++ [z]) → w.grownBy w' (blk A) → (blk A' = blk A ∨ ∃ k, blk A' = some k ∧ w.heap.size ≤ k) → wpList Tryz.prog ops Q rest (a.put o.dst (.slice A' (n + 1) c')) w') :
    wpList Tryz.prog ops Q (o :: rest) a w :=
  wpList_app w hgd s x 25 ho 22 (.slice none 0 0) 1 24 Tryz.underlying25 ints_info rfl (by omega) (by omega) B A n c (vs.map slv) hs hown.os (some ⟨g, 0, none⟩) 1 1 [.slice v.1 v.2.1 v.2.2] hx rfl
    (fun j u hu => by
      have hj : j = 0 := by
        have := (List.getElem?_eq_some_iff.1 hu).1
        simp at this; exact this
      subst hj
      simp at hu
      subst hu
      exact ⟨_, rfl, by rw [show (⟨g, 0, none⟩ : Addr).add 0 = ⟨g, 0, none⟩ from by simp [Addr.add]]; exact hg⟩) (fun u hu => by simp at hu; subst hu; rfl) hbig hB
    fun A' c' w' h1 h2 h3 => h A' c' w' (ORv.push' hown hv hap h2 h1) h2 (h3.imp id fun e => ⟨_, e, Nat.le_refl _⟩)
theorem OS.typedB {w : World} {B B' : Nat} {e2 e1 : TypeId} {A : Option Addr} {n c : Nat} {A' : Option Addr} {n' c' : Nat} {xs ys : List Value} {size size' : Nat} (h : OS w B e2 size A n c xs) (k : OS w B' e1 size' A' n' c' ys) (hne : e2 ≠ e1) : blk A = none ∨ blk A ≠ blk A' :=
  OS.typed (h.more (Nat.zero_le B)) (k.more (Nat.zero_le B')) hne
theorem New3.outer {W wx w' : World} {q r1 r2 r3 : Nat} {z1 z2 z3 : List Int} (h : New3 W wx q r1 r2 r3 z1 z2 z3) {B : Nat} {A : Option Addr} {n c : Nat} {xs : List Value} (ho : OS wx B 22 1 A n c xs) (hg : wx.grownBy w' (blk A)) : New3 W w' q r1 r2 r3 z1 z2 z3 :=
  ⟨h.o1.kept hg (OS.typedB h.o1.os ho (by decide)), h.o2.kept hg (OS.typedB h.o2.os ho (by decide)), h.o3.kept hg (OS.typedB h.o3.os ho (by decide)), h.ne⟩
structure LitAt (D : Nat) (wx : World) (g r q : Nat) : Prop where
  lo : D ≤ g
  b : Blk wx g 22 #[.slice (some ⟨r, 0, none⟩) q q]
theorem LitAt.new (D : Nat) (wx : World) (r q : Nat) (h : D ≤ wx.heap.size) : LitAt D (wx.alloc (.cells #[.slice (some ⟨r, 0, none⟩) q q] 22)) wx.heap.size r q := ⟨h, Blk.new _ _ _⟩
theorem LitAt.below {D : Nat} {wx w' : World} {g r q : Nat} (h : LitAt D wx g r q) (hb : Below wx.heap.size wx w') : LitAt D w' g r q := ⟨h.lo, h.b.after hb⟩
theorem LitAt.grown {D : Nat} {wx w' : World} {g r q : Nat} (h : LitAt D wx g r q) {A : Option Addr} (hg : wx.grownBy w' (blk A)) (hl : ∀ b, blk A = some b → b < D) : LitAt D w' g r q := ⟨h.lo, h.b.grown hg fun e => by have := hl _ e.symm; have := h.lo; omega⟩
theorem LitAt.cell {D : Nat} {wx : World} {g r q : Nat} (h : LitAt D wx g r q) : wx.cell? ⟨g, 0, none⟩ = some (.slice (some ⟨r, 0, none⟩) q q) := h.b.cell 0
structure M13 (w W0 wx : World) (D t3 : Nat) (p : Int) (k : Nat) (f : List Int) (q : Nat) (A : Option Addr) (n c a : Nat) (C1 : Option Addr) (d1 : Nat) (C2 : Option Addr) (d2 : Nat) (C3 : Option Addr) (d3 : Nat) (r1 r2 r3 : Nat) (z1 z2 z3 : List Int) (A1 : Option Addr) (n1 c1 : Nat) (vs1 : List Sl) (Z1 : List (List Int)) (A2 : Option Addr) (n2 c2 : Nat) (vs2 : List Sl) (Z2 : List (List Int)) (A3 : Option Addr) (n3 c3 : Nat) (vs3 : List Sl) (Z3 : List (List Int)) : Prop where
  N : New3 W0 wx q r1 r2 r3 z1 z2 z3
  tt : T3 wx (t3 + 1 + 1) A1 n1 c1 vs1 Z1 A2 n2 c2 vs2 Z2 A3 n3 c3 vs3 Z3
  fb : Blk wx w.heap.size 31 #[.int .i64 p, .int .i64 k, .slice A n c]
  res : Blk wx (w.heap.size + 1) 146 #[.int .i64 0, .slice none 0 0, .slice none 0 0, .slice none 0 0, .slice none 0 0]
  t : Blk wx t3 146 #[.int .i64 q, .slice C1 a d1, .slice C2 a d2, .slice C3 a d3, .slice (some ⟨t3 + 1, 0, none⟩) q q]
  inv : OI wx w.heap.size 2 (some ⟨t3 + 1, 0, none⟩) q q (invL p k f q (a + 1) 0)
  bel : Below w.heap.size w wx
  lt3 : w.heap.size + 2 ≤ t3
  size : D ≤ wx.heap.size
section
variable {w W0 wx w' : World} {D t3 : Nat} {p : Int} {k : Nat} {f : List Int} {q : Nat} {A : Option Addr} {n c a : Nat} {C1 : Option Addr} {d1 : Nat} {C2 : Option Addr} {d2 : Nat} {C3 : Option Addr} {d3 : Nat} {r1 r2 r3 : Nat} {z1 z2 z3 : List Int} {A1 : Option Addr} {n1 c1 : Nat} {vs1 : List Sl} {Z1 : List (List Int)} {A2 : Option Addr} {n2 c2 : Nat} {vs2 : List Sl} {Z2 : List (List Int)} {A3 : Option Addr} {n3 c3 : Nat} {vs3 : List Sl} {Z3 : List (List Int)}
theorem M13.below (h : M13 w W0 wx D t3 p k f q A n c a C1 d1 C2 d2 C3 d3 r1 r2 r3 z1 z2 z3 A1 n1 c1 vs1 Z1 A2 n2 c2 vs2 Z2 A3 n3 c3 vs3 Z3) (hb : Below wx.heap.size wx w') : M13 w W0 w' D t3 p k f q A n c a C1 d1 C2 d2 C3 d3 r1 r2 r3 z1 z2 z3 A1 n1 c1 vs1 Z1 A2 n2 c2 vs2 Z2 A3 n3 c3 vs3 Z3 :=
  ⟨h.N.below hb, h.tt.below hb, h.fb.after hb, h.res.after hb, h.t.after hb, h.inv.below hb, h.bel.trans (hb.mono h.bel.size), h.lt3, Nat.le_trans h.size hb.size⟩
theorem M13.sizeB (h : M13 w W0 wx D t3 p k f q A n c a C1 d1 C2 d2 C3 d3 r1 r2 r3 z1 z2 z3 A1 n1 c1 vs1 Z1 A2 n2 c2 vs2 Z2 A3 n3 c3 vs3 Z3) : t3 + 1 + 1 ≤ wx.heap.size := (h.inv.os.lt (k := t3 + 1) rfl).2
theorem M13.grow (h : M13 w W0 wx D t3 p k f q A n c a C1 d1 C2 d2 C3 d3 r1 r2 r3 z1 z2 z3 A1 n1 c1 vs1 Z1 A2 n2 c2 vs2 Z2 A3 n3 c3 vs3 Z3) {X : Option Addr} {xn xc : Nat} {xs : List Value} (ho : OS wx (t3 + 1 + 1) 22 1 X xn xc xs) (hg : wx.grownBy w' (blk X))
    {B1 : Option Addr} {m1 e1 : Nat} {us1 : List Sl} {Y1 : List (List Int)} {B2 : Option Addr} {m2 e2 : Nat} {us2 : List Sl} {Y2 : List (List Int)} {B3 : Option Addr} {m3 e3 : Nat} {us3 : List Sl} {Y3 : List (List Int)} (ht : T3 w' (t3 + 1 + 1) B1 m1 e1 us1 Y1 B2 m2 e2 us2 Y2 B3 m3 e3 us3 Y3) :
    M13 w W0 w' D t3 p k f q A n c a C1 d1 C2 d2 C3 d3 r1 r2 r3 z1 z2 z3 B1 m1 e1 us1 Y1 B2 m2 e2 us2 Y2 B3 m3 e3 us3 Y3 :=
  ⟨h.N.outer ho hg, ht, h.fb.grown hg (h.fb.apart ho (by decide)), h.res.grown hg (h.res.apart ho (by decide)), h.t.grown hg (h.t.apart ho (by decide)), h.inv.kept hg (OS.typedB h.inv.os ho (by decide)),
    below_own h.bel hg h.bel.size (fun b hb => by have := (ho.lt hb).1; have := h.lt3; omega), h.lt3, Nat.le_trans h.size hg.size⟩
theorem M13.push1 (h : M13 w W0 wx D t3 p k f q A n c a C1 d1 C2 d2 C3 d3 r1 r2 r3 z1 z2 z3 A1 n1 c1 vs1 Z1 A2 n2 c2 vs2 Z2 A3 n3 c3 vs3 Z3) {A' : Option Addr} {n' c' : Nat} {vs' : List Sl} {Z' : List (List Int)} (ho : ORv w' (t3 + 1 + 1) 22 2 A' n' c' vs' Z') (hg : wx.grownBy w' (blk A1)) (hf : blk A' = blk A1 ∨ ∃ q, blk A' = some q ∧ wx.heap.size ≤ q) :
    M13 w W0 w' D t3 p k f q A n c a C1 d1 C2 d2 C3 d3 r1 r2 r3 z1 z2 z3 A' n' c' vs' Z' A2 n2 c2 vs2 Z2 A3 n3 c3 vs3 Z3 := h.grow h.tt.o1.os hg (h.tt.push ho hg hf)
theorem M13.push2 (h : M13 w W0 wx D t3 p k f q A n c a C1 d1 C2 d2 C3 d3 r1 r2 r3 z1 z2 z3 A1 n1 c1 vs1 Z1 A2 n2 c2 vs2 Z2 A3 n3 c3 vs3 Z3) {A' : Option Addr} {n' c' : Nat} {vs' : List Sl} {Z' : List (List Int)} (ho : ORv w' (t3 + 1 + 1) 22 2 A' n' c' vs' Z') (hg : wx.grownBy w' (blk A2)) (hf : blk A' = blk A2 ∨ ∃ q, blk A' = some q ∧ wx.heap.size ≤ q) :
    M13 w W0 w' D t3 p k f q A n c a C1 d1 C2 d2 C3 d3 r1 r2 r3 z1 z2 z3 A1 n1 c1 vs1 Z1 A' n' c' vs' Z' A3 n3 c3 vs3 Z3 := h.grow h.tt.o2.os hg (h.tt.rot.push ho hg hf).rot.rot
theorem M13.push3 (h : M13 w W0 wx D t3 p k f q A n c a C1 d1 C2 d2 C3 d3 r1 r2 r3 z1 z2 z3 A1 n1 c1 vs1 Z1 A2 n2 c2 vs2 Z2 A3 n3 c3 vs3 Z3) {A' : Option Addr} {n' c' : Nat} {vs' : List Sl} {Z' : List (List Int)} (ho : ORv w' (t3 + 1 + 1) 22 2 A' n' c' vs' Z') (hg : wx.grownBy w' (blk A3)) (hf : blk A' = blk A3 ∨ ∃ q, blk A' = some q ∧ wx.heap.size ≤ q) :
    M13 w W0 w' D t3 p k f q A n c a C1 d1 C2 d2 C3 d3 r1 r2 r3 z1 z2 z3 A1 n1 c1 vs1 Z1 A2 n2 c2 vs2 Z2 A' n' c' vs' Z' := h.grow h.tt.o3.os hg (h.tt.rot.rot.push ho hg hf).rot
theorem M13.load (h : M13 w W0 wx D t3 p k f q A n c a C1 d1 C2 d2 C3 d3 r1 r2 r3 z1 z2 z3 A1 n1 c1 vs1 Z1 A2 n2 c2 vs2 Z2 A3 n3 c3 vs3 Z3) : wx.cell? ⟨t3, 1, none⟩ = some (.slice C1 a d1) ∧ wx.cell? ⟨t3, 2, none⟩ = some (.slice C2 a d2) ∧ wx.cell? ⟨t3, 3, none⟩ = some (.slice C3 a d3) := ⟨h.t.cell 1, h.t.cell 2, h.t.cell 3⟩
theorem M13.slots (h : M13 w W0 wx D t3 p k f q A n c a C1 d1 C2 d2 C3 d3 r1 r2 r3 z1 z2 z3 A1 n1 c1 vs1 Z1 A2 n2 c2 vs2 Z2 A3 n3 c3 vs3 Z3) :
    wx.frozen? ⟨t3, 1, none⟩ = false ∧ (wx.setCell ⟨t3, 1, none⟩ (.slice A1 n1 c1)).frozen? ⟨t3, 2, none⟩ = false ∧ ((wx.setCell ⟨t3, 1, none⟩ (.slice A1 n1 c1)).setCell ⟨t3, 2, none⟩ (.slice A2 n2 c2)).frozen? ⟨t3, 3, none⟩ = false ∧
    wx.cell? ⟨t3, 1, none⟩ = some (.slice C1 a d1) ∧ (wx.setCell ⟨t3, 1, none⟩ (.slice A1 n1 c1)).cell? ⟨t3, 2, none⟩ = some (.slice C2 a d2) ∧ ((wx.setCell ⟨t3, 1, none⟩ (.slice A1 n1 c1)).setCell ⟨t3, 2, none⟩ (.slice A2 n2 c2)).cell? ⟨t3, 3, none⟩ = some (.slice C3 a d3) :=
  ⟨h.t.frozen 1, (h.t.set_ 1 _).frozen 2, ((h.t.set_ 1 _).set_ 2 _).frozen 3, h.t.cell 1, (h.t.set_ 1 _).cell 2, ((h.t.set_ 1 _).set_ 2 _).cell 3⟩
theorem M13.done {Y1 Y2 Y3 : List (List Int)} (h : M13 w W0 wx D t3 p k f q A n c a C1 d1 C2 d2 C3 d3 r1 r2 r3 z1 z2 z3 A1 (a + 1) c1 vs1 Y1 A2 (a + 1) c2 vs2 Y2 A3 (a + 1) c3 vs3 Y3)
    (h1 : Y1 = (tblQ q (sumP p k 1)).take (a + 1)) (h2 : Y2 = (tblQ q (sumP p k (p - 1))).take (a + 1)) (h3 : Y3 = (tblQ q (mulP p k f)).take (a + 1)) :
    TSt w (((wx.setCell ⟨t3, 1, none⟩ (.slice A1 (a + 1) c1)).setCell ⟨t3, 2, none⟩ (.slice A2 (a + 1) c2)).setCell ⟨t3, 3, none⟩ (.slice A3 (a + 1) c3)) t3 (t3 + 1) p k f q A n c A1 c1 vs1 A2 c2 vs2 A3 c3 vs3 (a + 1) 0 := by
  have hl := h.lt3
  have hg : wx.grownBy (((wx.setCell ⟨t3, 1, none⟩ (.slice A1 (a + 1) c1)).setCell ⟨t3, 2, none⟩ (.slice A2 (a + 1) c2)).setCell ⟨t3, 3, none⟩ (.slice A3 (a + 1) c3)) (some t3) := (grown_set.trans grown_set).trans grown_set
  subst h1 h2 h3
  refine ⟨h.fb.grown hg (fun e => by injection e with e; omega), h.res.grown hg (fun e => by injection e with e; omega), ?_, h.inv.kept hg (.inr fun e => by simp [blk] at e), h.tt.low hg (by omega), h.bel.grown hg h.bel.size (fun b hb => by injection hb with hb; omega), hl, Nat.lt_succ_self _⟩
  have := ((h.t.set_ 1 (.slice A1 (a + 1) c1)).set_ 2 (.slice A2 (a + 1) c2)).set_ 3 (.slice A3 (a + 1) c3)
  simpa using this
end
theorem TSt.fin {w wr : World} {t3 gi : Nat} {p : Int} {k : Nat} {f : List Int} {q : Nat} {A : Option Addr} {n c : Nat} {A1 : Option Addr} {c1 : Nat} {vs1 : List Sl} {A2 : Option Addr} {c2 : Nat} {vs2 : List Sl} {A3 : Option Addr} {c3 : Nat} {vs3 : List Sl} (h : TSt w wr t3 gi p k f q A n c A1 c1 vs1 A2 c2 vs2 A3 c3 vs3 q 0) (hf : FldOk p k f) (hq : p ^ k = (q : Int)) :
    ∃ W', W' = ((((wr.setCell ⟨w.heap.size + 1, 0, none⟩ (.int .i64 q)).setCell ⟨w.heap.size + 1, 1, none⟩ (.slice A1 q c1)).setCell ⟨w.heap.size + 1, 2, none⟩ (.slice A2 q c2)).setCell ⟨w.heap.size + 1, 3, none⟩ (.slice A3 q c3)).setCell ⟨w.heap.size + 1, 4, none⟩ (.slice (some ⟨gi, 0, none⟩) q q) ∧
      Blk W' (w.heap.size + 1) 146 #[.int .i64 q, .slice A1 q c1, .slice A2 q c2, .slice A3 q c3, .slice (some ⟨gi, 0, none⟩) q q] ∧ TabA W' p k f q A1 A2 A3 (some ⟨gi, 0, none⟩) ∧ Below w.heap.size w W' := by
  refine ⟨_, rfl, ?_, ?_, ?_⟩
  · have := ((((h.res.set_ 0 (.int .i64 q)).set_ 1 (.slice A1 q c1)).set_ 2 (.slice A2 q c2)).set_ 3 (.slice A3 q c3)).set_ 4 (.slice (some ⟨gi, 0, none⟩) q q)
    simpa using this
  all_goals
    have hg : wr.grownBy (((((wr.setCell ⟨w.heap.size + 1, 0, none⟩ (.int .i64 q)).setCell ⟨w.heap.size + 1, 1, none⟩ (.slice A1 q c1)).setCell ⟨w.heap.size + 1, 2, none⟩ (.slice A2 q c2)).setCell ⟨w.heap.size + 1, 3, none⟩ (.slice A3 q c3)).setCell ⟨w.heap.size + 1, 4, none⟩ (.slice (some ⟨gi, 0, none⟩) q q)) (some (w.heap.size + 1)) := (((grown_set.trans grown_set).trans grown_set).trans grown_set).trans grown_set
    have h1 := h.lt3
    have h2 := h.lti
  · have ht := h.tt.low hg (by omega)
    have hi := h.inv.kept hg (.inr fun e => by simp [blk] at e; omega)
    rw [invL_all hf hq] at hi
    have e : ∀ F, (tblQ q F).take q = tblQ q F := fun F => by rw [List.take_of_length_le (by rw [tblQ_len]; exact Nat.le_refl _)]
    rw [e, e, e] at ht
    exact ⟨OR.reads ⟨_, ht.o1⟩, OR.reads ⟨_, ht.o2⟩, OR.reads ⟨_, ht.o3⟩, hi.reads⟩
  · exact h.bel.grown hg h.bel.size (fun b hb => by injection hb with hb; omega)
set_option maxRecDepth 100000 in
set_option maxHeartbeats 1600000 in
theorem tablesOf_any (p : Int) (k : Nat) (f : List Int) (q : Nat) (A : Option Addr) (n c : Nat) (w : World) (hq : p ^ k = (q : Int)) (hf : FldOk p k f) (hr : RI w A n f) :
    Calls Tryz.prog 97 #[.agg #[.int .i64 p, .int .i64 k, .slice A n c]] w (RetTab w p k f q) := by
  obtain ⟨p2, p61, k1, k6, hq64, hq2⟩ := hf.nums
  have hb1 := (below_alloc w (.cells #[.int .i64 p, .int .i64 k, .slice A n c] 31)).trans ((below_alloc (w.alloc (.cells #[.int .i64 p, .int .i64 k, .slice A n c] 31)) (.cells #[.int .i64 0, .slice none 0 0, .slice none 0 0, .slice none 0 0, .slice none 0 0] 146)).mono (by simp))
  have X1 := (Blk.new w 31 #[.int .i64 p, .int .i64 k, .slice A n c]).alloc (.cells #[.int .i64 0, .slice none 0 0, .slice none 0 0, .slice none 0 0, .slice none 0 0] 146)
  have X2 : Blk ((w.alloc (.cells #[.int .i64 p, .int .i64 k, .slice A n c] 31)).alloc (.cells #[.int .i64 0, .slice none 0 0, .slice none 0 0, .slice none 0 0, .slice none 0 0] 146)) (w.heap.size + 1) 146 #[.int .i64 0, .slice none 0 0, .slice none 0 0, .slice none 0 0, .slice none 0 0] := by
    have := Blk.new (w.alloc (.cells #[.int .i64 p, .int .i64 k, .slice A n c] 31)) 146 #[.int .i64 0, .slice none 0 0, .slice none 0 0, .slice none 0 0, .slice none 0 0]
    simpa using this
  have hfs := fieldSize_any p k A n c ((w.alloc (.cells #[.int .i64 p, .int .i64 k, .slice A n c] 31)).alloc (.cells #[.int .i64 0, .slice none 0 0, .slice none 0 0, .slice none 0 0, .slice none 0 0] 146)) p2 (by omega) hq64 k6
  rw [hq] at hfs
  have hmk := run_make_row' (P := Tryz.prog) 22 2 (.int .i64 0) 8 Tryz.underlying22 int_info rfl .i64 .i64 q (by omega) (by omega)
  go_enter Tryz.func97, Tryz.ntmps97
  go_wp2_with (go_at_call 53; refine hfs.mono ?_; rintro e w2 ⟨rfl, hb2⟩)
  have hw2 := hb1.trans (hb2.mono hb1.size)
  have hR0 : TSt w ((w2.alloc (.cells #[.int .i64 q, .slice none 0 0, .slice none 0 0, .slice none 0 0, .slice (some ⟨w2.heap.size + 1, 0, none⟩) q q] 146)).alloc (.cells (madeCells #[.int .i64 0] q) 2)) w2.heap.size (w2.heap.size + 1) p k f q A n c none 0 [] none 0 [] none 0 [] 0 0 := by
    have h3 := below_alloc w2 (.cells #[.int .i64 q, .slice none 0 0, .slice none 0 0, .slice none 0 0, .slice (some ⟨w2.heap.size + 1, 0, none⟩) q q] 146)
    have h4 := below_alloc (w2.alloc (.cells #[.int .i64 q, .slice none 0 0, .slice none 0 0, .slice none 0 0, .slice (some ⟨w2.heap.size + 1, 0, none⟩) q q] 146)) (.cells (madeCells #[.int .i64 0] q) 2)
    have h5 := h3.trans (h4.mono h3.size)
    have hs : w.heap.size + 2 ≤ w2.heap.size := by have := hb2.size; simpa using this
    have hon : ∀ (W : World), ORv W (w2.heap.size + 1 + 1) 22 2 none 0 0 [] [] := fun W => ⟨OS.nil_ _ _ _ _, rfl, fun j v z h => by simp at h, fun i j v u _ h => by simp at h, by decide⟩
    have hap : apartA none none := .inl rfl
    refine ⟨(X1.after hb2).after h5, (X2.after hb2).after h5, (Blk.new w2 _ _).alloc _, ?_, ⟨hon _, hon _, hon _, hap, hap, hap⟩, hw2.trans (h5.mono hw2.size), hs, Nat.lt_succ_self _⟩
    rw [invL_zero hf hq]
    have := OI.made (w2.alloc (.cells #[.int .i64 q, .slice none 0 0, .slice none 0 0, .slice none 0 0, .slice (some ⟨w2.heap.size + 1, 0, none⟩) q q] 146)) w.heap.size 2 q (by simp; omega) (by omega)
    simpa using this
  clear X1 X2 hb1 hb2 hw2 hfs
  have HF := Lib.hid hf
  have HQ := Lib.hid hq
  have HR := Lib.hid hr
  clear hf hq hr
  rw [HQ.out] at hq64 hq2
  go_loopw [4, 5, 6, 7, 8] (fun av _ _ _ _ wr => ∃ (a : Nat) (A1 : Option Addr) (c1 : Nat) (vs1 : List Sl) (A2 : Option Addr) (c2 : Nat) (vs2 : List Sl) (A3 : Option Addr) (c3 : Nat) (vs3 : List Sl), a ≤ q ∧ av = .int .i64 a ∧ TSt w wr w2.heap.size (w2.heap.size + 1) p k f q A n c A1 c1 vs1 A2 c2 vs2 A3 c3 vs3 a 0) (fun av _ _ _ _ _ => q - (intOf av).toNat)
  case atStart => exact ⟨0, _, _, _, _, _, _, _, _, _, Nat.zero_le _, rfl, hR0⟩
  case round =>
    clear hR0
    obtain ⟨a, A1, c1, vs1, A2, c2, vs2, A3, c3, vs3, haq, rfl, hT⟩ := hrel
    generalize w2.heap.size = t3 at *
    have t0 := hT.t.cell 0
    by_cases hlt : a < q
    · obtain ⟨C, hC, m1, m2, m3, mb1, mb2, mb⟩ := cut6_made wr q (by omega)
      have k1 := below_cell mb1 t0
      have k2 := below_cell mb2 t0
      have k3 := below_cell mb t0
      subst hC
      go_upto_region 6 with (fail)
      go_cut [5, 6, 7] (fun s5 s6 s7 wx => Cut6 wr wx q s5 s6 s7)
      case first =>
        go_region_held_law (fun w' => w'.cell? ⟨t3, 0, none⟩ = some (.int .i64 q)) (first | exact t0 | exact k1 | exact k2 | exact k3) (fail)
        all_goals
          go_wp2
          go_meet
          refine ⟨_, _, _, rfl, rfl, rfl, ⟨?_, ?_, ?_, ?_⟩, mb⟩
          · first | exact m1 | exact m2 | exact m3
          · first | exact m1 | exact m2 | exact m3
          · first | exact m1 | exact m2 | exact m3
          · omega
      case rest =>
        obtain ⟨r1, r2, r3, rfl, rfl, rfl, hN, hbN⟩ := hcut
        clear k1 k2 k3 m1 m2 m3 mb1 mb2 mb
        have hI0 : OI wc w.heap.size 2 (some ⟨t3 + 1, 0, none⟩) q q (invL p k f q a 0) := (hT.below hbN).inv
        have hg0 : wr.grownBy wc (some (t3 + 1)) := grownBy_of_below hbN _
        have hN0 : New3 wr wc q r1 r2 r3 (mixP (List.replicate q 0) (fun (i : Nat) => sumP p k 1 a i) 0) (mixP (List.replicate q 0) (fun (i : Nat) => sumP p k (p - 1) a i) 0) (mixP (List.replicate q 0) (fun (i : Nat) => mulP p k f a i) 0) := by
          rw [mixP_zero, mixP_zero, mixP_zero]; exact hN
        have c0 := (hT.below hbN).t.cell 0
        clear hN hbN t0
        have hlg : t3 + 1 < wr.heap.size := (hT.inv.os.lt (k := t3 + 1) rfl).2
        go_wp2
        generalize wr = W0 at *
        go_loopw [8] (fun bv wr => ∃ b : Nat, b ≤ q ∧ bv = .int .i64 b ∧ W0.grownBy wr (some (t3 + 1)) ∧ OI wr w.heap.size 2 (some ⟨t3 + 1, 0, none⟩) q q (invL p k f q a b) ∧ New3 W0 wr q r1 r2 r3 (mixP (List.replicate q 0) (fun (i : Nat) => sumP p k 1 a i) b) (mixP (List.replicate q 0) (fun (i : Nat) => sumP p k (p - 1) a i) b) (mixP (List.replicate q 0) (fun (i : Nat) => mulP p k f a i) b)) (fun bv _ => q - (intOf bv).toNat)
        case atStart => exact ⟨0, Nat.zero_le _, rfl, hg0, hI0, hN0⟩
        case round =>
          clear hg0 hI0 hN0 c0
          obtain ⟨b, hbq, rfl, hg, hI, hN⟩ := hrel
          have hTi := hT.low hg hI
          by_cases hlb : b < q
          · have c0 := hTi.t.cell 0
            obtain ⟨f0, f1, f2⟩ := hTi.fb.cells3
            have hTd := hTi.below (below_drewn wr 1)
            have hNd := hN.below (below_drewn wr 1)
            simp only [← World.drew_is_drewN] at hTd hNd
            have hFd := hTd.fb
            have hgd := grown_then hg ((below_drewn wr 1).mono hg.size)
            simp only [← World.drew_is_drewN] at hgd
            have hc1 := fun W => combine_any p k A n c a b 1 1 W p2 p61 (by rw [HQ.out]; omega) k6 (by omega) (by omega) (.inl ⟨rfl, rfl⟩)
            have hc2 := fun W => combine_any p k A n c a b (-1) (p - 1) W p2 p61 (by rw [HQ.out]; omega) k6 (by omega) (by omega) (.inr ⟨rfl, rfl⟩)
            have hc3 := fun W hr => product_any p k A n c f a b W HF.out hr (by omega) (by omega)
            obtain ⟨n1, n2, n3⟩ : w.heap.size ≠ r1 ∧ w.heap.size ≠ r2 ∧ w.heap.size ≠ r3 := by
              have h1 := (hN.o1.os.lt (k := r1) rfl).1
              have h2 := (hN.o2.os.lt (k := r2) rfl).1
              have h3 := (hN.o3.os.lt (k := r3) rfl).1
              have h4 := hT.lt3
              omega
            go_wp2
            go_region_held_law (fun w' => w'.cell? ⟨w.heap.size, 0, none⟩ = some (.int .i64 p) ∧ w'.cell? ⟨w.heap.size, 1, none⟩ = some (.int .i64 k) ∧ w'.cell? ⟨w.heap.size, 2, none⟩ = some (.slice A n c))
              (first | with_reducible exact hFd.cells3 | with_reducible exact fb3.cells3 | with_reducible exact fb4.cells3 | with_reducible exact fb5.cells3 | with_reducible exact (fb5.far n1 _).cells3 | with_reducible exact ((fb5.far n1 _).far n2 _).cells3 | with_reducible exact (((fb5.far n1 _).far n2 _).far n3 _).cells3)
              ((first
                | (go_at_call 155; with_reducible refine (hc1 _).mono ?_; rintro e w3 ⟨rfl, hb3⟩; have fb3 := hFd.after hb3; have hN3 := hNd.below hb3; have hT3 := hTd.below hb3)
                | (go_at_call 155; with_reducible refine (hc2 _).mono ?_; rintro e w4 ⟨rfl, hb4⟩; have fb4 := fb3.after hb4; have hN4 := hN3.below hb4; have hT4 := hT3.below hb4)
                | (go_at_call 156; with_reducible refine (hc3 _ (HR.out.keep hT4.bel)).mono ?_; rintro e w5 ⟨rfl, hb5⟩; have fb5 := fb4.after hb5; have hN5 := hN4.below hb5; have hT5 := hT4.below hb5; obtain ⟨x1, y1, x2, y2, x3, y3⟩ := hN5.slots hlb (.int .i64 (sumP p k 1 a b)) (.int .i64 (sumP p k (p - 1) a b)))))
            have hi1 : I64 (sumP p k 1 (a : Int) (b : Int)) := by have := sumP_bd (p := p) (by omega) k 1 (a : Int) (b : Int); rw [HQ.out] at this; exact ⟨by omega, by omega⟩
            have hi2 : I64 (sumP p k (p - 1) (a : Int) (b : Int)) := by have := sumP_bd (p := p) (by omega) k (p - 1) (a : Int) (b : Int); rw [HQ.out] at this; exact ⟨by omega, by omega⟩
            have hi3 : I64 (mulP p k f (a : Int) (b : Int)) := by have := mulP_bd (p := p) (by omega) k f (a : Int) (b : Int); rw [HQ.out] at this; exact ⟨by omega, by omega⟩
            have hN6 := hN5.put b hi1 hi2 hi3
            have hs5 : W0.heap.size ≤ w5.heap.size := by
              have h1 := hgd.size
              have h3 := hb3.size
              have h4 := hb4.size
              have h5 := hb5.size
              omega
            have hfar := hN5.far hs5 b (.int .i64 (sumP p k 1 (a : Int) (b : Int))) (.int .i64 (sumP p k (p - 1) (a : Int) (b : Int))) (.int .i64 (mulP p k f (a : Int) (b : Int)))
            have hg5 := grown_then (grown_then (grown_then hgd (hb3.mono hgd.size)) (hb4.mono (Nat.le_trans hgd.size hb3.size))) (hb5.mono (Nat.le_trans (Nat.le_trans hgd.size hb3.size) hb4.size))
            have hg6 := grown_then hg5 hfar
            have hI6 : OI _ w.heap.size 2 (some ⟨t3 + 1, 0, none⟩) q q (invL p k f q a b) := hT5.inv.belowB hfar (fun b hb => by simp [blk] at hb; omega)
            have hlen : ∀ F : Nat → Int, (mixP (List.replicate q 0) F b).set b (F b) = mixP (List.replicate q 0) F (b + 1) := fun F => mixP_set _ F (by simpa using hlb)
            rw [hlen (fun (i : Nat) => sumP p k 1 a i), hlen (fun (i : Nat) => sumP p k (p - 1) a i), hlen (fun (i : Nat) => mulP p k f a i)] at hN6
            clear x1 y1 x2 y2 x3 y3 hfar hg5 hT5 hN5 fb5 hb5 hT4 hN4 fb4 hb4 hT3 hN3 fb3 hb3 hTd hNd hFd hgd hc1 hc2 hc3 n1 n2 n3 f0 f1 f2 c0 hTi hlen hs5 hg hI hN hi1 hi2 hi3
            generalize ((w5.setCell ⟨r1, b, none⟩ (.int .i64 (sumP p k 1 (a : Int) (b : Int)))).setCell ⟨r2, b, none⟩ (.int .i64 (sumP p k (p - 1) (a : Int) (b : Int)))).setCell ⟨r3, b, none⟩ (.int .i64 (mulP p k f (a : Int) (b : Int))) = w6 at *
            obtain ⟨g3, e3, x3, -, -⟩ := hN6.o3.cell hlb
            cases e3
            rw [mixP_nth _ _ _ (by simpa using hlb), if_pos (Nat.lt_succ_self b)] at x3
            by_cases hm1 : mulP p k f (a : Int) (b : Int) = 1
            · have hit := invL_hit HF.out HQ.out hlt hlb hm1
              rw [hm1] at x3
              have c4 := (hT.low hg6 hI6).t.cell 4
              obtain ⟨gi', ei, x4, y4, -⟩ := hI6.cell hlt
              cases ei
              have hI7 := hI6.set a (u := (b : Int)) ⟨by omega, by omega⟩
              rw [hit] at hI7
              have hg7 := hg6.trans (grown_set (w := w6) (g := t3 + 1) (p := a) (u := .int .i64 b))
              have hN7 := hN6.low (grown_set (w := w6) (g := t3 + 1) (p := a) (u := .int .i64 b)) hlg
              clear hit hI6 hN6 hg6
              go_wp2
              go_roundw
              case rel => exact ⟨b + 1, by omega, by go_num, hg7, hI7, hN7⟩
              case measure => simp [intOf]; omega
            · rw [invL_miss HF.out HQ.out hlt hm1] at hI6
              have e1 : (mulP p k f (a : Int) (b : Int) == 1) = false := by simpa using hm1
              clear hm1
              go_wp2
              go_roundw
              case rel => exact ⟨b + 1, by omega, by go_num, hg6, hI6, hN6⟩
              case measure => simp [intOf]; omega
          · obtain rfl : q = b := by omega
            have c0 := (hT.low hg hI).t.cell 0
            have hlens : ∀ F : Int → Int → Int, mixP (List.replicate q 0) (fun (i : Nat) => F a i) q = row (tblQ q F) a := fun F => by
              rw [tblQ_row hlt]
              have := mixP_full (List.replicate q 0) (fun (i : Nat) => F a i)
              rw [List.length_replicate] at this
              exact this
            rw [hlens (sumP p k 1), hlens (sumP p k (p - 1)), hlens (mulP p k f)] at hN
            have hTe := hT.low hg hI
            have HT1 := Lib.hid (tblQ_take (F := sumP p k 1) hlt)
            have HT2 := Lib.hid (tblQ_take (F := sumP p k (p - 1)) hlt)
            have HT3 := Lib.hid (tblQ_take (F := mulP p k f) hlt)
            have hrow : ∀ (vs : List Sl) (A : Option Addr) (n c : Nat) (Z : List (List Int)), ORv W0 (t3 + 1 + 1) 22 2 A n c vs Z → ∀ r, W0.heap.size ≤ r → Hid (∀ (j : Nat) (u : Sl), vs[j]? = some u → apart u (some ⟨r, 0, none⟩, q, q)) := fun vs A n c Z ho r hr => Lib.hid fun j u hu => by
              cases e : blk u.1 with
              | none => exact .inl e
              | some x => exact .inr (by have := (ho.row_lt hu e).2; rw [e]; simp [blk]; omega)
            have HAP1 := hrow _ _ _ _ _ hT.tt.o1 r1 (hN.o1.os.lt (k := r1) rfl).1
            have HAP2 := hrow _ _ _ _ _ hT.tt.o2 r2 (hN.o2.os.lt (k := r2) rfl).1
            have HAP3 := hrow _ _ _ _ _ hT.tt.o3 r3 (hN.o3.os.lt (k := r3) rfl).1
            obtain ⟨D, hD⟩ : ∃ D, D = wr.heap.size := ⟨_, rfl⟩
            have HLT1 : ∀ b, blk A1 = some b → b < D := fun b hb => by rw [hD]; exact (hTe.tt.o1.os.lt hb).2
            have HLT2 : ∀ b, blk A2 = some b → b < D := fun b hb => by rw [hD]; exact (hTe.tt.o2.os.lt hb).2
            have HLT3 : ∀ b, blk A3 = some b → b < D := fun b hb => by rw [hD]; exact (hTe.tt.o3.os.lt hb).2
            have HM : M13 w W0 wr D t3 p k f q A n c a A1 c1 A2 c2 A3 c3 r1 r2 r3 _ _ _ A1 a c1 vs1 _ A2 a c2 vs2 _ A3 a c3 vs3 _ := ⟨hN, hTe.tt, hTe.fb, hTe.res, hTe.t, by rw [← invL_next HF.out HQ.out hlt]; exact hTe.inv, hTe.bel, hTe.lt3, by rw [hD]; exact Nat.le_refl _⟩
            have HM := HM.below (below_drewn wr 1)
            simp only [← World.drew_is_drewN] at HM
            have hS0 := HM.load
            obtain ⟨q1, q2, q3⟩ := hS0
            clear hrow hlens hTe hN hI hg hD
            go_wp2
            refine region_suf (P := Tryz.prog) (n := 16) (S := fun w' => w'.cell? ⟨t3, 1, none⟩ = some (.slice A1 a c1) ∧ w'.cell? ⟨t3, 2, none⟩ = some (.slice A2 a c2) ∧ w'.cell? ⟨t3, 3, none⟩ = some (.slice A3 a c3)) (by kernel_rfl) (by simp only [List.take_succ_cons, List.take_zero]; rfl) (by simp only [List.drop_succ_cons, List.drop_zero]; rfl) (by kernel_rfl) ⟨q1, q2, q3⟩ ?_
            intro hS
            clear q1 q2 q3
            refine wpAnyH_take (i := 0) (v := ?_) rfl (by kernel_rfl) (by kernel_rfl) (by kernel_rfl) (fun _ _ _ h => h) (Or.inl ⟨by rfl, ?_⟩) (by assumption) ?_
            rotate_left
            · (intro w hSw; (try dsimp only at hSw); go_simp; (try with_reducible rfl))
            simp only [Act.put, List.setIfInBounds_toArray, List.set_cons_zero, List.set_cons_succ]
            refine wpAnyH_take (i := 1) (v := ?_) rfl (by kernel_rfl) (by kernel_rfl) (by kernel_rfl) (fun _ _ _ h => h) (Or.inl ⟨by rfl, ?_⟩) (by assumption) ?_
            rotate_left
            · (intro w hSw; (try dsimp only at hSw); go_simp; (try with_reducible rfl))
            simp only [Act.put, List.setIfInBounds_toArray, List.set_cons_zero, List.set_cons_succ]
            refine wpAnyH_take (i := 2) (v := ?_) rfl (by kernel_rfl) (by kernel_rfl) (by kernel_rfl) (fun _ _ _ h => h) (Or.inl ⟨by rfl, ?_⟩) (by assumption) ?_
            rotate_left
            · (intro w hSw; (try dsimp only at hSw); go_simp; (try with_reducible rfl))
            simp only [Act.put, List.setIfInBounds_toArray, List.set_cons_zero, List.set_cons_succ]
            refine wpAnyH_take (i := 5) (v := ?_) rfl (by kernel_rfl) (by kernel_rfl) (by kernel_rfl) (fun _ _ _ h => h) (Or.inl ⟨by rfl, ?_⟩) (by assumption) ?_
            rotate_left
            · (intro w hSw; (try dsimp only at hSw); go_simp; (try with_reducible rfl))
            simp only [Act.put, List.setIfInBounds_toArray, List.set_cons_zero, List.set_cons_succ]
            refine wpAnyH_take (i := 6) (v := ?_) rfl (by kernel_rfl) (by kernel_rfl) (by kernel_rfl) (fun _ _ _ h => h) (Or.inl ⟨by rfl, ?_⟩) (by assumption) ?_
            rotate_left
            · (intro w hSw; (try dsimp only at hSw); go_simp; (try with_reducible rfl))
            simp only [Act.put, List.setIfInBounds_toArray, List.set_cons_zero, List.set_cons_succ]
            refine wpAnyH_take (i := 7) (v := ?_) rfl (by kernel_rfl) (by kernel_rfl) (by kernel_rfl) (fun _ _ _ h => h) (Or.inl ⟨by rfl, ?_⟩) (by assumption) ?_
            rotate_left
            · (intro w hSw; (try dsimp only at hSw); go_simp; (try with_reducible rfl))
            simp only [Act.put, List.setIfInBounds_toArray, List.set_cons_zero, List.set_cons_succ]
            refine wpAnyH_take (i := 10) (v := ?_) rfl (by kernel_rfl) (by kernel_rfl) (by kernel_rfl) (fun _ _ _ h => h) (Or.inl ⟨by rfl, ?_⟩) (by assumption) ?_
            rotate_left
            · (intro w hSw; (try dsimp only at hSw); go_simp; (try with_reducible rfl))
            simp only [Act.put, List.setIfInBounds_toArray, List.set_cons_zero, List.set_cons_succ]
            refine wpAnyH_take (i := 11) (v := ?_) rfl (by kernel_rfl) (by kernel_rfl) (by kernel_rfl) (fun _ _ _ h => h) (Or.inl ⟨by rfl, ?_⟩) (by assumption) ?_
            rotate_left
            · (intro w hSw; (try dsimp only at hSw); go_simp; (try with_reducible rfl))
            simp only [Act.put, List.setIfInBounds_toArray, List.set_cons_zero, List.set_cons_succ]
            refine wpAnyH_take (i := 12) (v := ?_) rfl (by kernel_rfl) (by kernel_rfl) (by kernel_rfl) (fun _ _ _ h => h) (Or.inl ⟨by rfl, ?_⟩) (by assumption) ?_
            rotate_left
            · (intro w hSw; (try dsimp only at hSw); go_simp; (try with_reducible rfl))
            simp only [Act.put, List.setIfInBounds_toArray, List.set_cons_zero, List.set_cons_succ]
            simp only [List.getElem_toArray, List.getElem_cons_succ, List.getElem_cons_zero]
            generalize wr.drew = wx0 at *
            refine wpAnyH_ready (rs := [3, 8, 13]) (by kernel_rfl) (by simp) ?_
            refine AllReadyH.cons rfl (fun K hK => ?_) (AllReadyH.cons rfl (fun K hK => ?_) (AllReadyH.cons rfl (fun K hK => ?_) AllReadyH.nil))
            · go_simp
              have HB := below_alloc wx0 (.cells #[.slice (some ⟨r1, 0, none⟩) q q] 22)
              have HL0 := LitAt.new (D := D) wx0 r1 q HM.size
              have HM := HM.below HB
              refine hK.out _ _ HM.load (fun hS => ?_)
              clear hK K HB
              generalize wx0.alloc _ = wx1 at *
              generalize wx0.heap.size = g0 at *
              refine wpAnyH_ready (rs := [4, 8, 13]) (by kernel_rfl) (by simp) ?_
              refine AllReadyH.cons rfl (fun K hK => ?_) (AllReadyH.cons rfl (fun K hK => ?_) (AllReadyH.cons rfl (fun K hK => ?_) AllReadyH.nil))
              · refine step_of_list (by rfl) ?_
                refine app_rowR _ (by rfl) (.tmp 69) (.tmp 71) (by rfl) (t3 + 1 + 1) A1 a c1 vs1 _ (by rfl) HM.tt.o1 (some ⟨r1, 0, none⟩, q, q) _ (HM.N.o1.more hlg) HAP1.out g0 (by rfl) HL0.cell (by omega) HM.sizeB ?_
                intro E1 e1c wx2 ho hg hf
                refine list_onlyK ?_
                have HM := HM.push1 ho hg hf
                clear ho hg hf
                refine hK.out _ _ HM.load (fun hS => ?_)
                clear hK K
                refine wpAnyH_take (i := 15) (v := ?_) rfl (by kernel_rfl) (by kernel_rfl) (by kernel_rfl) (fun _ _ _ h => h) (Or.inl ⟨by rfl, ?_⟩) (by assumption) ?_
                rotate_left
                · (intro w hSw; (try dsimp only at hSw); go_simp; (try with_reducible rfl))
                simp only [Act.put, List.setIfInBounds_toArray, List.set_cons_zero, List.set_cons_succ]
                simp only [List.getElem_toArray, List.getElem_cons_succ, List.getElem_cons_zero]
                refine wpAnyH_ready (rs := [8, 13]) (by kernel_rfl) (by simp) ?_
                refine AllReadyH.cons rfl (fun K hK => ?_) (AllReadyH.cons rfl (fun K hK => ?_) AllReadyH.nil)
                · go_simp
                  have HB := below_alloc wx2 (.cells #[.slice (some ⟨r2, 0, none⟩) q q] 22)
                  have HL1 := LitAt.new (D := D) wx2 r2 q HM.size
                  have HM := HM.below HB
                  refine hK.out _ _ HM.load (fun hS => ?_)
                  clear hK K HB
                  generalize wx2.alloc _ = wx3 at *
                  generalize wx2.heap.size = g1 at *
                  refine wpAnyH_ready (rs := [9, 13]) (by kernel_rfl) (by simp) ?_
                  refine AllReadyH.cons rfl (fun K hK => ?_) (AllReadyH.cons rfl (fun K hK => ?_) AllReadyH.nil)
                  · refine step_of_list (by rfl) ?_
                    refine app_rowR _ (by rfl) (.tmp 74) (.tmp 76) (by rfl) (t3 + 1 + 1) A2 a c2 vs2 _ (by rfl) HM.tt.o2 (some ⟨r2, 0, none⟩, q, q) _ (HM.N.o2.more hlg) HAP2.out g1 (by rfl) HL1.cell (by omega) HM.sizeB ?_
                    intro E2 e2c wx4 ho hg hf
                    refine list_onlyK ?_
                    have HM := HM.push2 ho hg hf
                    clear ho hg hf
                    refine hK.out _ _ HM.load (fun hS => ?_)
                    clear hK K
                    refine wpAnyH_ready (rs := [13]) (by kernel_rfl) (by simp) ?_
                    refine AllReadyH.cons rfl (fun K hK => ?_) AllReadyH.nil
                    go_simp
                    have HB := below_alloc wx4 (.cells #[.slice (some ⟨r3, 0, none⟩) q q] 22)
                    have HL2 := LitAt.new (D := D) wx4 r3 q HM.size
                    have HM := HM.below HB
                    refine hK.out _ _ HM.load (fun hS => ?_)
                    clear hK K HB
                    generalize wx4.alloc _ = wx5 at *
                    generalize wx4.heap.size = g2 at *
                    refine wpAnyH_ready (rs := [14]) (by kernel_rfl) (by simp) ?_
                    refine AllReadyH.cons rfl (fun K hK => ?_) AllReadyH.nil
                    refine step_of_list (by rfl) ?_
                    refine app_rowR _ (by rfl) (.tmp 79) (.tmp 81) (by rfl) (t3 + 1 + 1) A3 a c3 vs3 _ (by rfl) HM.tt.o3 (some ⟨r3, 0, none⟩, q, q) _ (HM.N.o3.more hlg) HAP3.out g2 (by rfl) HL2.cell (by omega) HM.sizeB ?_
                    intro E3 e3c wx6 ho hg hf
                    refine list_onlyK ?_
                    have HM := HM.push3 ho hg hf
                    clear ho hg hf
                    refine hK.out _ _ HM.load (fun hS => ?_)
                    clear hK K
                    refine wpAnyH_done (by kernel_rfl) ?_ _
                    dsimp only [atEnd]
                    obtain ⟨f1, f2, f3, e1, e2, e3⟩ := HM.slots
                    have hnx := HM.done HT1.out HT2.out HT3.out
                    clear HM HL0 HL1 HL2 hS
                    go_wp2
                    go_roundw
                    case rel => exact ⟨a + 1, _, _, _, _, _, _, _, _, _, by omega, by go_num, hnx⟩
                    case measure => simp [intOf]; omega
                  · go_simp
                    have HB := below_alloc wx3 (.cells #[.slice (some ⟨r3, 0, none⟩) q q] 22)
                    have HL2 := LitAt.new (D := D) wx3 r3 q HM.size
                    have HL1 := HL1.below HB
                    have HM := HM.below HB
                    refine hK.out _ _ HM.load (fun hS => ?_)
                    clear hK K HB
                    generalize wx3.alloc _ = wx7 at *
                    generalize wx3.heap.size = g2 at *
                    refine wpAnyH_ready (rs := [9]) (by kernel_rfl) (by simp) ?_
                    refine AllReadyH.cons rfl (fun K hK => ?_) AllReadyH.nil
                    refine step_of_list (by rfl) ?_
                    refine app_rowR _ (by rfl) (.tmp 74) (.tmp 76) (by rfl) (t3 + 1 + 1) A2 a c2 vs2 _ (by rfl) HM.tt.o2 (some ⟨r2, 0, none⟩, q, q) _ (HM.N.o2.more hlg) HAP2.out g1 (by rfl) HL1.cell (by omega) HM.sizeB ?_
                    intro E2 e2c wx8 ho hg hf
                    refine list_onlyK ?_
                    have HL2 := HL2.grown hg HLT2
                    have HM := HM.push2 ho hg hf
                    clear ho hg hf
                    refine hK.out _ _ HM.load (fun hS => ?_)
                    clear hK K
                    refine wpAnyH_ready (rs := [14]) (by kernel_rfl) (by simp) ?_
                    refine AllReadyH.cons rfl (fun K hK => ?_) AllReadyH.nil
                    refine step_of_list (by rfl) ?_
                    refine app_rowR _ (by rfl) (.tmp 79) (.tmp 81) (by rfl) (t3 + 1 + 1) A3 a c3 vs3 _ (by rfl) HM.tt.o3 (some ⟨r3, 0, none⟩, q, q) _ (HM.N.o3.more hlg) HAP3.out g2 (by rfl) HL2.cell (by omega) HM.sizeB ?_
                    intro E3 e3c wx9 ho hg hf
                    refine list_onlyK ?_
                    have HM := HM.push3 ho hg hf
                    clear ho hg hf
                    refine hK.out _ _ HM.load (fun hS => ?_)
                    clear hK K
                    refine wpAnyH_done (by kernel_rfl) ?_ _
                    dsimp only [atEnd]
                    obtain ⟨f1, f2, f3, e1, e2, e3⟩ := HM.slots
                    have hnx := HM.done HT1.out HT2.out HT3.out
                    clear HM HL0 HL1 HL2 hS
                    go_wp2
                    go_roundw
                    case rel => exact ⟨a + 1, _, _, _, _, _, _, _, _, _, by omega, by go_num, hnx⟩
                    case measure => simp [intOf]; omega
                · go_simp
                  have HB := below_alloc wx2 (.cells #[.slice (some ⟨r3, 0, none⟩) q q] 22)
                  have HL2 := LitAt.new (D := D) wx2 r3 q HM.size
                  have HM := HM.below HB
                  refine hK.out _ _ HM.load (fun hS => ?_)
                  clear hK K HB
                  generalize wx2.alloc _ = wx10 at *
                  generalize wx2.heap.size = g2 at *
                  refine wpAnyH_ready (rs := [8]) (by kernel_rfl) (by simp) ?_
                  refine AllReadyH.cons rfl (fun K hK => ?_) AllReadyH.nil
                  go_simp
                  have HB := below_alloc wx10 (.cells #[.slice (some ⟨r2, 0, none⟩) q q] 22)
                  have HL1 := LitAt.new (D := D) wx10 r2 q HM.size
                  have HL2 := HL2.below HB
                  have HM := HM.below HB
                  refine hK.out _ _ HM.load (fun hS => ?_)
                  clear hK K HB
                  generalize wx10.alloc _ = wx11 at *
                  generalize wx10.heap.size = g1 at *
                  refine wpAnyH_ready (rs := [9]) (by kernel_rfl) (by simp) ?_
                  refine AllReadyH.cons rfl (fun K hK => ?_) AllReadyH.nil
                  refine step_of_list (by rfl) ?_
                  refine app_rowR _ (by rfl) (.tmp 74) (.tmp 76) (by rfl) (t3 + 1 + 1) A2 a c2 vs2 _ (by rfl) HM.tt.o2 (some ⟨r2, 0, none⟩, q, q) _ (HM.N.o2.more hlg) HAP2.out g1 (by rfl) HL1.cell (by omega) HM.sizeB ?_
                  intro E2 e2c wx12 ho hg hf
                  refine list_onlyK ?_
                  have HL2 := HL2.grown hg HLT2
                  have HM := HM.push2 ho hg hf
                  clear ho hg hf
                  refine hK.out _ _ HM.load (fun hS => ?_)
                  clear hK K
                  refine wpAnyH_ready (rs := [14]) (by kernel_rfl) (by simp) ?_
                  refine AllReadyH.cons rfl (fun K hK => ?_) AllReadyH.nil
                  refine step_of_list (by rfl) ?_
                  refine app_rowR _ (by rfl) (.tmp 79) (.tmp 81) (by rfl) (t3 + 1 + 1) A3 a c3 vs3 _ (by rfl) HM.tt.o3 (some ⟨r3, 0, none⟩, q, q) _ (HM.N.o3.more hlg) HAP3.out g2 (by rfl) HL2.cell (by omega) HM.sizeB ?_
                  intro E3 e3c wx13 ho hg hf
                  refine list_onlyK ?_
                  have HM := HM.push3 ho hg hf
                  clear ho hg hf
                  refine hK.out _ _ HM.load (fun hS => ?_)
                  clear hK K
                  refine wpAnyH_done (by kernel_rfl) ?_ _
                  dsimp only [atEnd]
                  obtain ⟨f1, f2, f3, e1, e2, e3⟩ := HM.slots
                  have hnx := HM.done HT1.out HT2.out HT3.out
                  clear HM HL0 HL1 HL2 hS
                  go_wp2
                  go_roundw
                  case rel => exact ⟨a + 1, _, _, _, _, _, _, _, _, _, by omega, by go_num, hnx⟩
                  case measure => simp [intOf]; omega
              · go_simp
                have HB := below_alloc wx1 (.cells #[.slice (some ⟨r2, 0, none⟩) q q] 22)
                have HL1 := LitAt.new (D := D) wx1 r2 q HM.size
                have HL0 := HL0.below HB
                have HM := HM.below HB
                refine hK.out _ _ HM.load (fun hS => ?_)
                clear hK K HB
                generalize wx1.alloc _ = wx14 at *
                generalize wx1.heap.size = g1 at *
                refine wpAnyH_ready (rs := [4, 13]) (by kernel_rfl) (by simp) ?_
                refine AllReadyH.cons rfl (fun K hK => ?_) (AllReadyH.cons rfl (fun K hK => ?_) AllReadyH.nil)
                · refine step_of_list (by rfl) ?_
                  refine app_rowR _ (by rfl) (.tmp 69) (.tmp 71) (by rfl) (t3 + 1 + 1) A1 a c1 vs1 _ (by rfl) HM.tt.o1 (some ⟨r1, 0, none⟩, q, q) _ (HM.N.o1.more hlg) HAP1.out g0 (by rfl) HL0.cell (by omega) HM.sizeB ?_
                  intro E1 e1c wx15 ho hg hf
                  refine list_onlyK ?_
                  have HL1 := HL1.grown hg HLT1
                  have HM := HM.push1 ho hg hf
                  clear ho hg hf
                  refine hK.out _ _ HM.load (fun hS => ?_)
                  clear hK K
                  refine wpAnyH_take (i := 15) (v := ?_) rfl (by kernel_rfl) (by kernel_rfl) (by kernel_rfl) (fun _ _ _ h => h) (Or.inl ⟨by rfl, ?_⟩) (by assumption) ?_
                  rotate_left
                  · (intro w hSw; (try dsimp only at hSw); go_simp; (try with_reducible rfl))
                  simp only [Act.put, List.setIfInBounds_toArray, List.set_cons_zero, List.set_cons_succ]
                  simp only [List.getElem_toArray, List.getElem_cons_succ, List.getElem_cons_zero]
                  refine wpAnyH_ready (rs := [9, 13]) (by kernel_rfl) (by simp) ?_
                  refine AllReadyH.cons rfl (fun K hK => ?_) (AllReadyH.cons rfl (fun K hK => ?_) AllReadyH.nil)
                  · refine step_of_list (by rfl) ?_
                    refine app_rowR _ (by rfl) (.tmp 74) (.tmp 76) (by rfl) (t3 + 1 + 1) A2 a c2 vs2 _ (by rfl) HM.tt.o2 (some ⟨r2, 0, none⟩, q, q) _ (HM.N.o2.more hlg) HAP2.out g1 (by rfl) HL1.cell (by omega) HM.sizeB ?_
                    intro E2 e2c wx16 ho hg hf
                    refine list_onlyK ?_
                    have HM := HM.push2 ho hg hf
                    clear ho hg hf
                    refine hK.out _ _ HM.load (fun hS => ?_)
                    clear hK K
                    refine wpAnyH_ready (rs := [13]) (by kernel_rfl) (by simp) ?_
                    refine AllReadyH.cons rfl (fun K hK => ?_) AllReadyH.nil
                    go_simp
                    have HB := below_alloc wx16 (.cells #[.slice (some ⟨r3, 0, none⟩) q q] 22)
                    have HL2 := LitAt.new (D := D) wx16 r3 q HM.size
                    have HM := HM.below HB
                    refine hK.out _ _ HM.load (fun hS => ?_)
                    clear hK K HB
                    generalize wx16.alloc _ = wx17 at *
                    generalize wx16.heap.size = g2 at *
                    refine wpAnyH_ready (rs := [14]) (by kernel_rfl) (by simp) ?_
                    refine AllReadyH.cons rfl (fun K hK => ?_) AllReadyH.nil
                    refine step_of_list (by rfl) ?_
                    refine app_rowR _ (by rfl) (.tmp 79) (.tmp 81) (by rfl) (t3 + 1 + 1) A3 a c3 vs3 _ (by rfl) HM.tt.o3 (some ⟨r3, 0, none⟩, q, q) _ (HM.N.o3.more hlg) HAP3.out g2 (by rfl) HL2.cell (by omega) HM.sizeB ?_
                    intro E3 e3c wx18 ho hg hf
                    refine list_onlyK ?_
                    have HM := HM.push3 ho hg hf
                    clear ho hg hf
                    refine hK.out _ _ HM.load (fun hS => ?_)
                    clear hK K
                    refine wpAnyH_done (by kernel_rfl) ?_ _
                    dsimp only [atEnd]
                    obtain ⟨f1, f2, f3, e1, e2, e3⟩ := HM.slots
                    have hnx := HM.done HT1.out HT2.out HT3.out
                    clear HM HL0 HL1 HL2 hS
                    go_wp2
                    go_roundw
                    case rel => exact ⟨a + 1, _, _, _, _, _, _, _, _, _, by omega, by go_num, hnx⟩
                    case measure => simp [intOf]; omega
                  · go_simp
                    have HB := below_alloc wx15 (.cells #[.slice (some ⟨r3, 0, none⟩) q q] 22)
                    have HL2 := LitAt.new (D := D) wx15 r3 q HM.size
                    have HL1 := HL1.below HB
                    have HM := HM.below HB
                    refine hK.out _ _ HM.load (fun hS => ?_)
                    clear hK K HB
                    generalize wx15.alloc _ = wx19 at *
                    generalize wx15.heap.size = g2 at *
                    refine wpAnyH_ready (rs := [9]) (by kernel_rfl) (by simp) ?_
                    refine AllReadyH.cons rfl (fun K hK => ?_) AllReadyH.nil
                    refine step_of_list (by rfl) ?_
                    refine app_rowR _ (by rfl) (.tmp 74) (.tmp 76) (by rfl) (t3 + 1 + 1) A2 a c2 vs2 _ (by rfl) HM.tt.o2 (some ⟨r2, 0, none⟩, q, q) _ (HM.N.o2.more hlg) HAP2.out g1 (by rfl) HL1.cell (by omega) HM.sizeB ?_
                    intro E2 e2c wx20 ho hg hf
                    refine list_onlyK ?_
                    have HL2 := HL2.grown hg HLT2
                    have HM := HM.push2 ho hg hf
                    clear ho hg hf
                    refine hK.out _ _ HM.load (fun hS => ?_)
                    clear hK K
                    refine wpAnyH_ready (rs := [14]) (by kernel_rfl) (by simp) ?_
                    refine AllReadyH.cons rfl (fun K hK => ?_) AllReadyH.nil
                    refine step_of_list (by rfl) ?_
                    refine app_rowR _ (by rfl) (.tmp 79) (.tmp 81) (by rfl) (t3 + 1 + 1) A3 a c3 vs3 _ (by rfl) HM.tt.o3 (some ⟨r3, 0, none⟩, q, q) _ (HM.N.o3.more hlg) HAP3.out g2 (by rfl) HL2.cell (by omega) HM.sizeB ?_
                    intro E3 e3c wx21 ho hg hf
                    refine list_onlyK ?_
                    have HM := HM.push3 ho hg hf
                    clear ho hg hf
                    refine hK.out _ _ HM.load (fun hS => ?_)
                    clear hK K
                    refine wpAnyH_done (by kernel_rfl) ?_ _
                    dsimp only [atEnd]
                    obtain ⟨f1, f2, f3, e1, e2, e3⟩ := HM.slots
                    have hnx := HM.done HT1.out HT2.out HT3.out
                    clear HM HL0 HL1 HL2 hS
                    go_wp2
                    go_roundw
                    case rel => exact ⟨a + 1, _, _, _, _, _, _, _, _, _, by omega, by go_num, hnx⟩
                    case measure => simp [intOf]; omega
                · go_simp
                  have HB := below_alloc wx14 (.cells #[.slice (some ⟨r3, 0, none⟩) q q] 22)
                  have HL2 := LitAt.new (D := D) wx14 r3 q HM.size
                  have HL0 := HL0.below HB
                  have HL1 := HL1.below HB
                  have HM := HM.below HB
                  refine hK.out _ _ HM.load (fun hS => ?_)
                  clear hK K HB
                  generalize wx14.alloc _ = wx22 at *
                  generalize wx14.heap.size = g2 at *
                  refine wpAnyH_ready (rs := [4]) (by kernel_rfl) (by simp) ?_
                  refine AllReadyH.cons rfl (fun K hK => ?_) AllReadyH.nil
                  refine step_of_list (by rfl) ?_
                  refine app_rowR _ (by rfl) (.tmp 69) (.tmp 71) (by rfl) (t3 + 1 + 1) A1 a c1 vs1 _ (by rfl) HM.tt.o1 (some ⟨r1, 0, none⟩, q, q) _ (HM.N.o1.more hlg) HAP1.out g0 (by rfl) HL0.cell (by omega) HM.sizeB ?_
                  intro E1 e1c wx23 ho hg hf
                  refine list_onlyK ?_
                  have HL1 := HL1.grown hg HLT1
                  have HL2 := HL2.grown hg HLT1
                  have HM := HM.push1 ho hg hf
                  clear ho hg hf
                  refine hK.out _ _ HM.load (fun hS => ?_)
                  clear hK K
                  refine wpAnyH_take (i := 15) (v := ?_) rfl (by kernel_rfl) (by kernel_rfl) (by kernel_rfl) (fun _ _ _ h => h) (Or.inl ⟨by rfl, ?_⟩) (by assumption) ?_
                  rotate_left
                  · (intro w hSw; (try dsimp only at hSw); go_simp; (try with_reducible rfl))
                  simp only [Act.put, List.setIfInBounds_toArray, List.set_cons_zero, List.set_cons_succ]
                  simp only [List.getElem_toArray, List.getElem_cons_succ, List.getElem_cons_zero]
                  refine wpAnyH_ready (rs := [9]) (by kernel_rfl) (by simp) ?_
                  refine AllReadyH.cons rfl (fun K hK => ?_) AllReadyH.nil
                  refine step_of_list (by rfl) ?_
                  refine app_rowR _ (by rfl) (.tmp 74) (.tmp 76) (by rfl) (t3 + 1 + 1) A2 a c2 vs2 _ (by rfl) HM.tt.o2 (some ⟨r2, 0, none⟩, q, q) _ (HM.N.o2.more hlg) HAP2.out g1 (by rfl) HL1.cell (by omega) HM.sizeB ?_
                  intro E2 e2c wx24 ho hg hf
                  refine list_onlyK ?_
                  have HL2 := HL2.grown hg HLT2
                  have HM := HM.push2 ho hg hf
                  clear ho hg hf
                  refine hK.out _ _ HM.load (fun hS => ?_)
                  clear hK K
                  refine wpAnyH_ready (rs := [14]) (by kernel_rfl) (by simp) ?_
                  refine AllReadyH.cons rfl (fun K hK => ?_) AllReadyH.nil
                  refine step_of_list (by rfl) ?_
                  refine app_rowR _ (by rfl) (.tmp 79) (.tmp 81) (by rfl) (t3 + 1 + 1) A3 a c3 vs3 _ (by rfl) HM.tt.o3 (some ⟨r3, 0, none⟩, q, q) _ (HM.N.o3.more hlg) HAP3.out g2 (by rfl) HL2.cell (by omega) HM.sizeB ?_
                  intro E3 e3c wx25 ho hg hf
                  refine list_onlyK ?_
                  have HM := HM.push3 ho hg hf
                  clear ho hg hf
                  refine hK.out _ _ HM.load (fun hS => ?_)
                  clear hK K
                  refine wpAnyH_done (by kernel_rfl) ?_ _
                  dsimp only [atEnd]
                  obtain ⟨f1, f2, f3, e1, e2, e3⟩ := HM.slots
                  have hnx := HM.done HT1.out HT2.out HT3.out
                  clear HM HL0 HL1 HL2 hS
                  go_wp2
                  go_roundw
                  case rel => exact ⟨a + 1, _, _, _, _, _, _, _, _, _, by omega, by go_num, hnx⟩
                  case measure => simp [intOf]; omega
              · go_simp
                have HB := below_alloc wx1 (.cells #[.slice (some ⟨r3, 0, none⟩) q q] 22)
                have HL2 := LitAt.new (D := D) wx1 r3 q HM.size
                have HL0 := HL0.below HB
                have HM := HM.below HB
                refine hK.out _ _ HM.load (fun hS => ?_)
                clear hK K HB
                generalize wx1.alloc _ = wx26 at *
                generalize wx1.heap.size = g2 at *
                refine wpAnyH_ready (rs := [4, 8]) (by kernel_rfl) (by simp) ?_
                refine AllReadyH.cons rfl (fun K hK => ?_) (AllReadyH.cons rfl (fun K hK => ?_) AllReadyH.nil)
                · refine step_of_list (by rfl) ?_
                  refine app_rowR _ (by rfl) (.tmp 69) (.tmp 71) (by rfl) (t3 + 1 + 1) A1 a c1 vs1 _ (by rfl) HM.tt.o1 (some ⟨r1, 0, none⟩, q, q) _ (HM.N.o1.more hlg) HAP1.out g0 (by rfl) HL0.cell (by omega) HM.sizeB ?_
                  intro E1 e1c wx27 ho hg hf
                  refine list_onlyK ?_
                  have HL2 := HL2.grown hg HLT1
                  have HM := HM.push1 ho hg hf
                  clear ho hg hf
                  refine hK.out _ _ HM.load (fun hS => ?_)
                  clear hK K
                  refine wpAnyH_take (i := 15) (v := ?_) rfl (by kernel_rfl) (by kernel_rfl) (by kernel_rfl) (fun _ _ _ h => h) (Or.inl ⟨by rfl, ?_⟩) (by assumption) ?_
                  rotate_left
                  · (intro w hSw; (try dsimp only at hSw); go_simp; (try with_reducible rfl))
                  simp only [Act.put, List.setIfInBounds_toArray, List.set_cons_zero, List.set_cons_succ]
                  simp only [List.getElem_toArray, List.getElem_cons_succ, List.getElem_cons_zero]
                  refine wpAnyH_ready (rs := [8]) (by kernel_rfl) (by simp) ?_
                  refine AllReadyH.cons rfl (fun K hK => ?_) AllReadyH.nil
                  go_simp
                  have HB := below_alloc wx27 (.cells #[.slice (some ⟨r2, 0, none⟩) q q] 22)
                  have HL1 := LitAt.new (D := D) wx27 r2 q HM.size
                  have HL2 := HL2.below HB
                  have HM := HM.below HB
                  refine hK.out _ _ HM.load (fun hS => ?_)
                  clear hK K HB
                  generalize wx27.alloc _ = wx28 at *
                  generalize wx27.heap.size = g1 at *
                  refine wpAnyH_ready (rs := [9]) (by kernel_rfl) (by simp) ?_
                  refine AllReadyH.cons rfl (fun K hK => ?_) AllReadyH.nil
                  refine step_of_list (by rfl) ?_
                  refine app_rowR _ (by rfl) (.tmp 74) (.tmp 76) (by rfl) (t3 + 1 + 1) A2 a c2 vs2 _ (by rfl) HM.tt.o2 (some ⟨r2, 0, none⟩, q, q) _ (HM.N.o2.more hlg) HAP2.out g1 (by rfl) HL1.cell (by omega) HM.sizeB ?_
                  intro E2 e2c wx29 ho hg hf
                  refine list_onlyK ?_
                  have HL2 := HL2.grown hg HLT2
                  have HM := HM.push2 ho hg hf
                  clear ho hg hf
                  refine hK.out _ _ HM.load (fun hS => ?_)
                  clear hK K
                  refine wpAnyH_ready (rs := [14]) (by kernel_rfl) (by simp) ?_
                  refine AllReadyH.cons rfl (fun K hK => ?_) AllReadyH.nil
                  refine step_of_list (by rfl) ?_
                  refine app_rowR _ (by rfl) (.tmp 79) (.tmp 81) (by rfl) (t3 + 1 + 1) A3 a c3 vs3 _ (by rfl) HM.tt.o3 (some ⟨r3, 0, none⟩, q, q) _ (HM.N.o3.more hlg) HAP3.out g2 (by rfl) HL2.cell (by omega) HM.sizeB ?_
                  intro E3 e3c wx30 ho hg hf
                  refine list_onlyK ?_
                  have HM := HM.push3 ho hg hf
                  clear ho hg hf
                  refine hK.out _ _ HM.load (fun hS => ?_)
                  clear hK K
                  refine wpAnyH_done (by kernel_rfl) ?_ _
                  dsimp only [atEnd]
                  obtain ⟨f1, f2, f3, e1, e2, e3⟩ := HM.slots
                  have hnx := HM.done HT1.out HT2.out HT3.out
                  clear HM HL0 HL1 HL2 hS
                  go_wp2
                  go_roundw
                  case rel => exact ⟨a + 1, _, _, _, _, _, _, _, _, _, by omega, by go_num, hnx⟩
                  case measure => simp [intOf]; omega
                · go_simp
                  have HB := below_alloc wx26 (.cells #[.slice (some ⟨r2, 0, none⟩) q q] 22)
                  have HL1 := LitAt.new (D := D) wx26 r2 q HM.size
                  have HL0 := HL0.below HB
                  have HL2 := HL2.below HB
                  have HM := HM.below HB
                  refine hK.out _ _ HM.load (fun hS => ?_)
                  clear hK K HB
                  generalize wx26.alloc _ = wx31 at *
                  generalize wx26.heap.size = g1 at *
                  refine wpAnyH_ready (rs := [4]) (by kernel_rfl) (by simp) ?_
                  refine AllReadyH.cons rfl (fun K hK => ?_) AllReadyH.nil
                  refine step_of_list (by rfl) ?_
                  refine app_rowR _ (by rfl) (.tmp 69) (.tmp 71) (by rfl) (t3 + 1 + 1) A1 a c1 vs1 _ (by rfl) HM.tt.o1 (some ⟨r1, 0, none⟩, q, q) _ (HM.N.o1.more hlg) HAP1.out g0 (by rfl) HL0.cell (by omega) HM.sizeB ?_
                  intro E1 e1c wx32 ho hg hf
                  refine list_onlyK ?_
                  have HL1 := HL1.grown hg HLT1
                  have HL2 := HL2.grown hg HLT1
                  have HM := HM.push1 ho hg hf
                  clear ho hg hf
                  refine hK.out _ _ HM.load (fun hS => ?_)
                  clear hK K
                  refine wpAnyH_take (i := 15) (v := ?_) rfl (by kernel_rfl) (by kernel_rfl) (by kernel_rfl) (fun _ _ _ h => h) (Or.inl ⟨by rfl, ?_⟩) (by assumption) ?_
                  rotate_left
                  · (intro w hSw; (try dsimp only at hSw); go_simp; (try with_reducible rfl))
                  simp only [Act.put, List.setIfInBounds_toArray, List.set_cons_zero, List.set_cons_succ]
                  simp only [List.getElem_toArray, List.getElem_cons_succ, List.getElem_cons_zero]
                  refine wpAnyH_ready (rs := [9]) (by kernel_rfl) (by simp) ?_
                  refine AllReadyH.cons rfl (fun K hK => ?_) AllReadyH.nil
                  refine step_of_list (by rfl) ?_
                  refine app_rowR _ (by rfl) (.tmp 74) (.tmp 76) (by rfl) (t3 + 1 + 1) A2 a c2 vs2 _ (by rfl) HM.tt.o2 (some ⟨r2, 0, none⟩, q, q) _ (HM.N.o2.more hlg) HAP2.out g1 (by rfl) HL1.cell (by omega) HM.sizeB ?_
                  intro E2 e2c wx33 ho hg hf
                  refine list_onlyK ?_
                  have HL2 := HL2.grown hg HLT2
                  have HM := HM.push2 ho hg hf
                  clear ho hg hf
                  refine hK.out _ _ HM.load (fun hS => ?_)
                  clear hK K
                  refine wpAnyH_ready (rs := [14]) (by kernel_rfl) (by simp) ?_
                  refine AllReadyH.cons rfl (fun K hK => ?_) AllReadyH.nil
                  refine step_of_list (by rfl) ?_
                  refine app_rowR _ (by rfl) (.tmp 79) (.tmp 81) (by rfl) (t3 + 1 + 1) A3 a c3 vs3 _ (by rfl) HM.tt.o3 (some ⟨r3, 0, none⟩, q, q) _ (HM.N.o3.more hlg) HAP3.out g2 (by rfl) HL2.cell (by omega) HM.sizeB ?_
                  intro E3 e3c wx34 ho hg hf
                  refine list_onlyK ?_
                  have HM := HM.push3 ho hg hf
                  clear ho hg hf
                  refine hK.out _ _ HM.load (fun hS => ?_)
                  clear hK K
                  refine wpAnyH_done (by kernel_rfl) ?_ _
                  dsimp only [atEnd]
                  obtain ⟨f1, f2, f3, e1, e2, e3⟩ := HM.slots
                  have hnx := HM.done HT1.out HT2.out HT3.out
                  clear HM HL0 HL1 HL2 hS
                  go_wp2
                  go_roundw
                  case rel => exact ⟨a + 1, _, _, _, _, _, _, _, _, _, by omega, by go_num, hnx⟩
                  case measure => simp [intOf]; omega
            · go_simp
              have HB := below_alloc wx0 (.cells #[.slice (some ⟨r2, 0, none⟩) q q] 22)
              have HL1 := LitAt.new (D := D) wx0 r2 q HM.size
              have HM := HM.below HB
              refine hK.out _ _ HM.load (fun hS => ?_)
              clear hK K HB
              generalize wx0.alloc _ = wx35 at *
              generalize wx0.heap.size = g1 at *
              refine wpAnyH_ready (rs := [3, 13]) (by kernel_rfl) (by simp) ?_
              refine AllReadyH.cons rfl (fun K hK => ?_) (AllReadyH.cons rfl (fun K hK => ?_) AllReadyH.nil)
              · go_simp
                have HB := below_alloc wx35 (.cells #[.slice (some ⟨r1, 0, none⟩) q q] 22)
                have HL0 := LitAt.new (D := D) wx35 r1 q HM.size
                have HL1 := HL1.below HB
                have HM := HM.below HB
                refine hK.out _ _ HM.load (fun hS => ?_)
                clear hK K HB
                generalize wx35.alloc _ = wx36 at *
                generalize wx35.heap.size = g0 at *
                refine wpAnyH_ready (rs := [4, 13]) (by kernel_rfl) (by simp) ?_
                refine AllReadyH.cons rfl (fun K hK => ?_) (AllReadyH.cons rfl (fun K hK => ?_) AllReadyH.nil)
                · refine step_of_list (by rfl) ?_
                  refine app_rowR _ (by rfl) (.tmp 69) (.tmp 71) (by rfl) (t3 + 1 + 1) A1 a c1 vs1 _ (by rfl) HM.tt.o1 (some ⟨r1, 0, none⟩, q, q) _ (HM.N.o1.more hlg) HAP1.out g0 (by rfl) HL0.cell (by omega) HM.sizeB ?_
                  intro E1 e1c wx37 ho hg hf
                  refine list_onlyK ?_
                  have HL1 := HL1.grown hg HLT1
                  have HM := HM.push1 ho hg hf
                  clear ho hg hf
                  refine hK.out _ _ HM.load (fun hS => ?_)
                  clear hK K
                  refine wpAnyH_take (i := 15) (v := ?_) rfl (by kernel_rfl) (by kernel_rfl) (by kernel_rfl) (fun _ _ _ h => h) (Or.inl ⟨by rfl, ?_⟩) (by assumption) ?_
                  rotate_left
                  · (intro w hSw; (try dsimp only at hSw); go_simp; (try with_reducible rfl))
                  simp only [Act.put, List.setIfInBounds_toArray, List.set_cons_zero, List.set_cons_succ]
                  simp only [List.getElem_toArray, List.getElem_cons_succ, List.getElem_cons_zero]
                  refine wpAnyH_ready (rs := [9, 13]) (by kernel_rfl) (by simp) ?_
                  refine AllReadyH.cons rfl (fun K hK => ?_) (AllReadyH.cons rfl (fun K hK => ?_) AllReadyH.nil)
                  · refine step_of_list (by rfl) ?_
                    refine app_rowR _ (by rfl) (.tmp 74) (.tmp 76) (by rfl) (t3 + 1 + 1) A2 a c2 vs2 _ (by rfl) HM.tt.o2 (some ⟨r2, 0, none⟩, q, q) _ (HM.N.o2.more hlg) HAP2.out g1 (by rfl) HL1.cell (by omega) HM.sizeB ?_
                    intro E2 e2c wx38 ho hg hf
                    refine list_onlyK ?_
                    have HM := HM.push2 ho hg hf
                    clear ho hg hf
                    refine hK.out _ _ HM.load (fun hS => ?_)
                    clear hK K
                    refine wpAnyH_ready (rs := [13]) (by kernel_rfl) (by simp) ?_
                    refine AllReadyH.cons rfl (fun K hK => ?_) AllReadyH.nil
                    go_simp
                    have HB := below_alloc wx38 (.cells #[.slice (some ⟨r3, 0, none⟩) q q] 22)
                    have HL2 := LitAt.new (D := D) wx38 r3 q HM.size
                    have HM := HM.below HB
                    refine hK.out _ _ HM.load (fun hS => ?_)
                    clear hK K HB
                    generalize wx38.alloc _ = wx39 at *
                    generalize wx38.heap.size = g2 at *
                    refine wpAnyH_ready (rs := [14]) (by kernel_rfl) (by simp) ?_
                    refine AllReadyH.cons rfl (fun K hK => ?_) AllReadyH.nil
                    refine step_of_list (by rfl) ?_
                    refine app_rowR _ (by rfl) (.tmp 79) (.tmp 81) (by rfl) (t3 + 1 + 1) A3 a c3 vs3 _ (by rfl) HM.tt.o3 (some ⟨r3, 0, none⟩, q, q) _ (HM.N.o3.more hlg) HAP3.out g2 (by rfl) HL2.cell (by omega) HM.sizeB ?_
                    intro E3 e3c wx40 ho hg hf
                    refine list_onlyK ?_
                    have HM := HM.push3 ho hg hf
                    clear ho hg hf
                    refine hK.out _ _ HM.load (fun hS => ?_)
                    clear hK K
                    refine wpAnyH_done (by kernel_rfl) ?_ _
                    dsimp only [atEnd]
                    obtain ⟨f1, f2, f3, e1, e2, e3⟩ := HM.slots
                    have hnx := HM.done HT1.out HT2.out HT3.out
                    clear HM HL0 HL1 HL2 hS
                    go_wp2
                    go_roundw
                    case rel => exact ⟨a + 1, _, _, _, _, _, _, _, _, _, by omega, by go_num, hnx⟩
                    case measure => simp [intOf]; omega
                  · go_simp
                    have HB := below_alloc wx37 (.cells #[.slice (some ⟨r3, 0, none⟩) q q] 22)
                    have HL2 := LitAt.new (D := D) wx37 r3 q HM.size
                    have HL1 := HL1.below HB
                    have HM := HM.below HB
                    refine hK.out _ _ HM.load (fun hS => ?_)
                    clear hK K HB
                    generalize wx37.alloc _ = wx41 at *
                    generalize wx37.heap.size = g2 at *
                    refine wpAnyH_ready (rs := [9]) (by kernel_rfl) (by simp) ?_
                    refine AllReadyH.cons rfl (fun K hK => ?_) AllReadyH.nil
                    refine step_of_list (by rfl) ?_
                    refine app_rowR _ (by rfl) (.tmp 74) (.tmp 76) (by rfl) (t3 + 1 + 1) A2 a c2 vs2 _ (by rfl) HM.tt.o2 (some ⟨r2, 0, none⟩, q, q) _ (HM.N.o2.more hlg) HAP2.out g1 (by rfl) HL1.cell (by omega) HM.sizeB ?_
                    intro E2 e2c wx42 ho hg hf
                    refine list_onlyK ?_
                    have HL2 := HL2.grown hg HLT2
                    have HM := HM.push2 ho hg hf
                    clear ho hg hf
                    refine hK.out _ _ HM.load (fun hS => ?_)
                    clear hK K
                    refine wpAnyH_ready (rs := [14]) (by kernel_rfl) (by simp) ?_
                    refine AllReadyH.cons rfl (fun K hK => ?_) AllReadyH.nil
                    refine step_of_list (by rfl) ?_
                    refine app_rowR _ (by rfl) (.tmp 79) (.tmp 81) (by rfl) (t3 + 1 + 1) A3 a c3 vs3 _ (by rfl) HM.tt.o3 (some ⟨r3, 0, none⟩, q, q) _ (HM.N.o3.more hlg) HAP3.out g2 (by rfl) HL2.cell (by omega) HM.sizeB ?_
                    intro E3 e3c wx43 ho hg hf
                    refine list_onlyK ?_
                    have HM := HM.push3 ho hg hf
                    clear ho hg hf
                    refine hK.out _ _ HM.load (fun hS => ?_)
                    clear hK K
                    refine wpAnyH_done (by kernel_rfl) ?_ _
                    dsimp only [atEnd]
                    obtain ⟨f1, f2, f3, e1, e2, e3⟩ := HM.slots
                    have hnx := HM.done HT1.out HT2.out HT3.out
                    clear HM HL0 HL1 HL2 hS
                    go_wp2
                    go_roundw
                    case rel => exact ⟨a + 1, _, _, _, _, _, _, _, _, _, by omega, by go_num, hnx⟩
                    case measure => simp [intOf]; omega
                · go_simp
                  have HB := below_alloc wx36 (.cells #[.slice (some ⟨r3, 0, none⟩) q q] 22)
                  have HL2 := LitAt.new (D := D) wx36 r3 q HM.size
                  have HL0 := HL0.below HB
                  have HL1 := HL1.below HB
                  have HM := HM.below HB
                  refine hK.out _ _ HM.load (fun hS => ?_)
                  clear hK K HB
                  generalize wx36.alloc _ = wx44 at *
                  generalize wx36.heap.size = g2 at *
                  refine wpAnyH_ready (rs := [4]) (by kernel_rfl) (by simp) ?_
                  refine AllReadyH.cons rfl (fun K hK => ?_) AllReadyH.nil
                  refine step_of_list (by rfl) ?_
                  refine app_rowR _ (by rfl) (.tmp 69) (.tmp 71) (by rfl) (t3 + 1 + 1) A1 a c1 vs1 _ (by rfl) HM.tt.o1 (some ⟨r1, 0, none⟩, q, q) _ (HM.N.o1.more hlg) HAP1.out g0 (by rfl) HL0.cell (by omega) HM.sizeB ?_
                  intro E1 e1c wx45 ho hg hf
                  refine list_onlyK ?_
                  have HL1 := HL1.grown hg HLT1
                  have HL2 := HL2.grown hg HLT1
                  have HM := HM.push1 ho hg hf
                  clear ho hg hf
                  refine hK.out _ _ HM.load (fun hS => ?_)
                  clear hK K
                  refine wpAnyH_take (i := 15) (v := ?_) rfl (by kernel_rfl) (by kernel_rfl) (by kernel_rfl) (fun _ _ _ h => h) (Or.inl ⟨by rfl, ?_⟩) (by assumption) ?_
                  rotate_left
                  · (intro w hSw; (try dsimp only at hSw); go_simp; (try with_reducible rfl))
                  simp only [Act.put, List.setIfInBounds_toArray, List.set_cons_zero, List.set_cons_succ]
                  simp only [List.getElem_toArray, List.getElem_cons_succ, List.getElem_cons_zero]
                  refine wpAnyH_ready (rs := [9]) (by kernel_rfl) (by simp) ?_
                  refine AllReadyH.cons rfl (fun K hK => ?_) AllReadyH.nil
                  refine step_of_list (by rfl) ?_
                  refine app_rowR _ (by rfl) (.tmp 74) (.tmp 76) (by rfl) (t3 + 1 + 1) A2 a c2 vs2 _ (by rfl) HM.tt.o2 (some ⟨r2, 0, none⟩, q, q) _ (HM.N.o2.more hlg) HAP2.out g1 (by rfl) HL1.cell (by omega) HM.sizeB ?_
                  intro E2 e2c wx46 ho hg hf
                  refine list_onlyK ?_
                  have HL2 := HL2.grown hg HLT2
                  have HM := HM.push2 ho hg hf
                  clear ho hg hf
                  refine hK.out _ _ HM.load (fun hS => ?_)
                  clear hK K
                  refine wpAnyH_ready (rs := [14]) (by kernel_rfl) (by simp) ?_
                  refine AllReadyH.cons rfl (fun K hK => ?_) AllReadyH.nil
                  refine step_of_list (by rfl) ?_
                  refine app_rowR _ (by rfl) (.tmp 79) (.tmp 81) (by rfl) (t3 + 1 + 1) A3 a c3 vs3 _ (by rfl) HM.tt.o3 (some ⟨r3, 0, none⟩, q, q) _ (HM.N.o3.more hlg) HAP3.out g2 (by rfl) HL2.cell (by omega) HM.sizeB ?_
                  intro E3 e3c wx47 ho hg hf
                  refine list_onlyK ?_
                  have HM := HM.push3 ho hg hf
                  clear ho hg hf
                  refine hK.out _ _ HM.load (fun hS => ?_)
                  clear hK K
                  refine wpAnyH_done (by kernel_rfl) ?_ _
                  dsimp only [atEnd]
                  obtain ⟨f1, f2, f3, e1, e2, e3⟩ := HM.slots
                  have hnx := HM.done HT1.out HT2.out HT3.out
                  clear HM HL0 HL1 HL2 hS
                  go_wp2
                  go_roundw
                  case rel => exact ⟨a + 1, _, _, _, _, _, _, _, _, _, by omega, by go_num, hnx⟩
                  case measure => simp [intOf]; omega
              · go_simp
                have HB := below_alloc wx35 (.cells #[.slice (some ⟨r3, 0, none⟩) q q] 22)
                have HL2 := LitAt.new (D := D) wx35 r3 q HM.size
                have HL1 := HL1.below HB
                have HM := HM.below HB
                refine hK.out _ _ HM.load (fun hS => ?_)
                clear hK K HB
                generalize wx35.alloc _ = wx48 at *
                generalize wx35.heap.size = g2 at *
                refine wpAnyH_ready (rs := [3]) (by kernel_rfl) (by simp) ?_
                refine AllReadyH.cons rfl (fun K hK => ?_) AllReadyH.nil
                go_simp
                have HB := below_alloc wx48 (.cells #[.slice (some ⟨r1, 0, none⟩) q q] 22)
                have HL0 := LitAt.new (D := D) wx48 r1 q HM.size
                have HL1 := HL1.below HB
                have HL2 := HL2.below HB
                have HM := HM.below HB
                refine hK.out _ _ HM.load (fun hS => ?_)
                clear hK K HB
                generalize wx48.alloc _ = wx49 at *
                generalize wx48.heap.size = g0 at *
                refine wpAnyH_ready (rs := [4]) (by kernel_rfl) (by simp) ?_
                refine AllReadyH.cons rfl (fun K hK => ?_) AllReadyH.nil
                refine step_of_list (by rfl) ?_
                refine app_rowR _ (by rfl) (.tmp 69) (.tmp 71) (by rfl) (t3 + 1 + 1) A1 a c1 vs1 _ (by rfl) HM.tt.o1 (some ⟨r1, 0, none⟩, q, q) _ (HM.N.o1.more hlg) HAP1.out g0 (by rfl) HL0.cell (by omega) HM.sizeB ?_
                intro E1 e1c wx50 ho hg hf
                refine list_onlyK ?_
                have HL1 := HL1.grown hg HLT1
                have HL2 := HL2.grown hg HLT1
                have HM := HM.push1 ho hg hf
                clear ho hg hf
                refine hK.out _ _ HM.load (fun hS => ?_)
                clear hK K
                refine wpAnyH_take (i := 15) (v := ?_) rfl (by kernel_rfl) (by kernel_rfl) (by kernel_rfl) (fun _ _ _ h => h) (Or.inl ⟨by rfl, ?_⟩) (by assumption) ?_
                rotate_left
                · (intro w hSw; (try dsimp only at hSw); go_simp; (try with_reducible rfl))
                simp only [Act.put, List.setIfInBounds_toArray, List.set_cons_zero, List.set_cons_succ]
                simp only [List.getElem_toArray, List.getElem_cons_succ, List.getElem_cons_zero]
                refine wpAnyH_ready (rs := [9]) (by kernel_rfl) (by simp) ?_
                refine AllReadyH.cons rfl (fun K hK => ?_) AllReadyH.nil
                refine step_of_list (by rfl) ?_
                refine app_rowR _ (by rfl) (.tmp 74) (.tmp 76) (by rfl) (t3 + 1 + 1) A2 a c2 vs2 _ (by rfl) HM.tt.o2 (some ⟨r2, 0, none⟩, q, q) _ (HM.N.o2.more hlg) HAP2.out g1 (by rfl) HL1.cell (by omega) HM.sizeB ?_
                intro E2 e2c wx51 ho hg hf
                refine list_onlyK ?_
                have HL2 := HL2.grown hg HLT2
                have HM := HM.push2 ho hg hf
                clear ho hg hf
                refine hK.out _ _ HM.load (fun hS => ?_)
                clear hK K
                refine wpAnyH_ready (rs := [14]) (by kernel_rfl) (by simp) ?_
                refine AllReadyH.cons rfl (fun K hK => ?_) AllReadyH.nil
                refine step_of_list (by rfl) ?_
                refine app_rowR _ (by rfl) (.tmp 79) (.tmp 81) (by rfl) (t3 + 1 + 1) A3 a c3 vs3 _ (by rfl) HM.tt.o3 (some ⟨r3, 0, none⟩, q, q) _ (HM.N.o3.more hlg) HAP3.out g2 (by rfl) HL2.cell (by omega) HM.sizeB ?_
                intro E3 e3c wx52 ho hg hf
                refine list_onlyK ?_
                have HM := HM.push3 ho hg hf
                clear ho hg hf
                refine hK.out _ _ HM.load (fun hS => ?_)
                clear hK K
                refine wpAnyH_done (by kernel_rfl) ?_ _
                dsimp only [atEnd]
                obtain ⟨f1, f2, f3, e1, e2, e3⟩ := HM.slots
                have hnx := HM.done HT1.out HT2.out HT3.out
                clear HM HL0 HL1 HL2 hS
                go_wp2
                go_roundw
                case rel => exact ⟨a + 1, _, _, _, _, _, _, _, _, _, by omega, by go_num, hnx⟩
                case measure => simp [intOf]; omega
            · go_simp
              have HB := below_alloc wx0 (.cells #[.slice (some ⟨r3, 0, none⟩) q q] 22)
              have HL2 := LitAt.new (D := D) wx0 r3 q HM.size
              have HM := HM.below HB
              refine hK.out _ _ HM.load (fun hS => ?_)
              clear hK K HB
              generalize wx0.alloc _ = wx53 at *
              generalize wx0.heap.size = g2 at *
              refine wpAnyH_ready (rs := [3, 8]) (by kernel_rfl) (by simp) ?_
              refine AllReadyH.cons rfl (fun K hK => ?_) (AllReadyH.cons rfl (fun K hK => ?_) AllReadyH.nil)
              · go_simp
                have HB := below_alloc wx53 (.cells #[.slice (some ⟨r1, 0, none⟩) q q] 22)
                have HL0 := LitAt.new (D := D) wx53 r1 q HM.size
                have HL2 := HL2.below HB
                have HM := HM.below HB
                refine hK.out _ _ HM.load (fun hS => ?_)
                clear hK K HB
                generalize wx53.alloc _ = wx54 at *
                generalize wx53.heap.size = g0 at *
                refine wpAnyH_ready (rs := [4, 8]) (by kernel_rfl) (by simp) ?_
                refine AllReadyH.cons rfl (fun K hK => ?_) (AllReadyH.cons rfl (fun K hK => ?_) AllReadyH.nil)
                · refine step_of_list (by rfl) ?_
                  refine app_rowR _ (by rfl) (.tmp 69) (.tmp 71) (by rfl) (t3 + 1 + 1) A1 a c1 vs1 _ (by rfl) HM.tt.o1 (some ⟨r1, 0, none⟩, q, q) _ (HM.N.o1.more hlg) HAP1.out g0 (by rfl) HL0.cell (by omega) HM.sizeB ?_
                  intro E1 e1c wx55 ho hg hf
                  refine list_onlyK ?_
                  have HL2 := HL2.grown hg HLT1
                  have HM := HM.push1 ho hg hf
                  clear ho hg hf
                  refine hK.out _ _ HM.load (fun hS => ?_)
                  clear hK K
                  refine wpAnyH_take (i := 15) (v := ?_) rfl (by kernel_rfl) (by kernel_rfl) (by kernel_rfl) (fun _ _ _ h => h) (Or.inl ⟨by rfl, ?_⟩) (by assumption) ?_
                  rotate_left
                  · (intro w hSw; (try dsimp only at hSw); go_simp; (try with_reducible rfl))
                  simp only [Act.put, List.setIfInBounds_toArray, List.set_cons_zero, List.set_cons_succ]
                  simp only [List.getElem_toArray, List.getElem_cons_succ, List.getElem_cons_zero]
                  refine wpAnyH_ready (rs := [8]) (by kernel_rfl) (by simp) ?_
                  refine AllReadyH.cons rfl (fun K hK => ?_) AllReadyH.nil
                  go_simp
                  have HB := below_alloc wx55 (.cells #[.slice (some ⟨r2, 0, none⟩) q q] 22)
                  have HL1 := LitAt.new (D := D) wx55 r2 q HM.size
                  have HL2 := HL2.below HB
                  have HM := HM.below HB
                  refine hK.out _ _ HM.load (fun hS => ?_)
                  clear hK K HB
                  generalize wx55.alloc _ = wx56 at *
                  generalize wx55.heap.size = g1 at *
                  refine wpAnyH_ready (rs := [9]) (by kernel_rfl) (by simp) ?_
                  refine AllReadyH.cons rfl (fun K hK => ?_) AllReadyH.nil
                  refine step_of_list (by rfl) ?_
                  refine app_rowR _ (by rfl) (.tmp 74) (.tmp 76) (by rfl) (t3 + 1 + 1) A2 a c2 vs2 _ (by rfl) HM.tt.o2 (some ⟨r2, 0, none⟩, q, q) _ (HM.N.o2.more hlg) HAP2.out g1 (by rfl) HL1.cell (by omega) HM.sizeB ?_
                  intro E2 e2c wx57 ho hg hf
                  refine list_onlyK ?_
                  have HL2 := HL2.grown hg HLT2
                  have HM := HM.push2 ho hg hf
                  clear ho hg hf
                  refine hK.out _ _ HM.load (fun hS => ?_)
                  clear hK K
                  refine wpAnyH_ready (rs := [14]) (by kernel_rfl) (by simp) ?_
                  refine AllReadyH.cons rfl (fun K hK => ?_) AllReadyH.nil
                  refine step_of_list (by rfl) ?_
                  refine app_rowR _ (by rfl) (.tmp 79) (.tmp 81) (by rfl) (t3 + 1 + 1) A3 a c3 vs3 _ (by rfl) HM.tt.o3 (some ⟨r3, 0, none⟩, q, q) _ (HM.N.o3.more hlg) HAP3.out g2 (by rfl) HL2.cell (by omega) HM.sizeB ?_
                  intro E3 e3c wx58 ho hg hf
                  refine list_onlyK ?_
                  have HM := HM.push3 ho hg hf
                  clear ho hg hf
                  refine hK.out _ _ HM.load (fun hS => ?_)
                  clear hK K
                  refine wpAnyH_done (by kernel_rfl) ?_ _
                  dsimp only [atEnd]
                  obtain ⟨f1, f2, f3, e1, e2, e3⟩ := HM.slots
                  have hnx := HM.done HT1.out HT2.out HT3.out
                  clear HM HL0 HL1 HL2 hS
                  go_wp2
                  go_roundw
                  case rel => exact ⟨a + 1, _, _, _, _, _, _, _, _, _, by omega, by go_num, hnx⟩
                  case measure => simp [intOf]; omega
                · go_simp
                  have HB := below_alloc wx54 (.cells #[.slice (some ⟨r2, 0, none⟩) q q] 22)
                  have HL1 := LitAt.new (D := D) wx54 r2 q HM.size
                  have HL0 := HL0.below HB
                  have HL2 := HL2.below HB
                  have HM := HM.below HB
                  refine hK.out _ _ HM.load (fun hS => ?_)
                  clear hK K HB
                  generalize wx54.alloc _ = wx59 at *
                  generalize wx54.heap.size = g1 at *
                  refine wpAnyH_ready (rs := [4]) (by kernel_rfl) (by simp) ?_
                  refine AllReadyH.cons rfl (fun K hK => ?_) AllReadyH.nil
                  refine step_of_list (by rfl) ?_
                  refine app_rowR _ (by rfl) (.tmp 69) (.tmp 71) (by rfl) (t3 + 1 + 1) A1 a c1 vs1 _ (by rfl) HM.tt.o1 (some ⟨r1, 0, none⟩, q, q) _ (HM.N.o1.more hlg) HAP1.out g0 (by rfl) HL0.cell (by omega) HM.sizeB ?_
                  intro E1 e1c wx60 ho hg hf
                  refine list_onlyK ?_
                  have HL1 := HL1.grown hg HLT1
                  have HL2 := HL2.grown hg HLT1
                  have HM := HM.push1 ho hg hf
                  clear ho hg hf
                  refine hK.out _ _ HM.load (fun hS => ?_)
                  clear hK K
                  refine wpAnyH_take (i := 15) (v := ?_) rfl (by kernel_rfl) (by kernel_rfl) (by kernel_rfl) (fun _ _ _ h => h) (Or.inl ⟨by rfl, ?_⟩) (by assumption) ?_
                  rotate_left
                  · (intro w hSw; (try dsimp only at hSw); go_simp; (try with_reducible rfl))
                  simp only [Act.put, List.setIfInBounds_toArray, List.set_cons_zero, List.set_cons_succ]
                  simp only [List.getElem_toArray, List.getElem_cons_succ, List.getElem_cons_zero]
                  refine wpAnyH_ready (rs := [9]) (by kernel_rfl) (by simp) ?_
                  refine AllReadyH.cons rfl (fun K hK => ?_) AllReadyH.nil
                  refine step_of_list (by rfl) ?_
                  refine app_rowR _ (by rfl) (.tmp 74) (.tmp 76) (by rfl) (t3 + 1 + 1) A2 a c2 vs2 _ (by rfl) HM.tt.o2 (some ⟨r2, 0, none⟩, q, q) _ (HM.N.o2.more hlg) HAP2.out g1 (by rfl) HL1.cell (by omega) HM.sizeB ?_
                  intro E2 e2c wx61 ho hg hf
                  refine list_onlyK ?_
                  have HL2 := HL2.grown hg HLT2
                  have HM := HM.push2 ho hg hf
                  clear ho hg hf
                  refine hK.out _ _ HM.load (fun hS => ?_)
                  clear hK K
                  refine wpAnyH_ready (rs := [14]) (by kernel_rfl) (by simp) ?_
                  refine AllReadyH.cons rfl (fun K hK => ?_) AllReadyH.nil
                  refine step_of_list (by rfl) ?_
                  refine app_rowR _ (by rfl) (.tmp 79) (.tmp 81) (by rfl) (t3 + 1 + 1) A3 a c3 vs3 _ (by rfl) HM.tt.o3 (some ⟨r3, 0, none⟩, q, q) _ (HM.N.o3.more hlg) HAP3.out g2 (by rfl) HL2.cell (by omega) HM.sizeB ?_
                  intro E3 e3c wx62 ho hg hf
                  refine list_onlyK ?_
                  have HM := HM.push3 ho hg hf
                  clear ho hg hf
                  refine hK.out _ _ HM.load (fun hS => ?_)
                  clear hK K
                  refine wpAnyH_done (by kernel_rfl) ?_ _
                  dsimp only [atEnd]
                  obtain ⟨f1, f2, f3, e1, e2, e3⟩ := HM.slots
                  have hnx := HM.done HT1.out HT2.out HT3.out
                  clear HM HL0 HL1 HL2 hS
                  go_wp2
                  go_roundw
                  case rel => exact ⟨a + 1, _, _, _, _, _, _, _, _, _, by omega, by go_num, hnx⟩
                  case measure => simp [intOf]; omega
              · go_simp
                have HB := below_alloc wx53 (.cells #[.slice (some ⟨r2, 0, none⟩) q q] 22)
                have HL1 := LitAt.new (D := D) wx53 r2 q HM.size
                have HL2 := HL2.below HB
                have HM := HM.below HB
                refine hK.out _ _ HM.load (fun hS => ?_)
                clear hK K HB
                generalize wx53.alloc _ = wx63 at *
                generalize wx53.heap.size = g1 at *
                refine wpAnyH_ready (rs := [3]) (by kernel_rfl) (by simp) ?_
                refine AllReadyH.cons rfl (fun K hK => ?_) AllReadyH.nil
                go_simp
                have HB := below_alloc wx63 (.cells #[.slice (some ⟨r1, 0, none⟩) q q] 22)
                have HL0 := LitAt.new (D := D) wx63 r1 q HM.size
                have HL1 := HL1.below HB
                have HL2 := HL2.below HB
                have HM := HM.below HB
                refine hK.out _ _ HM.load (fun hS => ?_)
                clear hK K HB
                generalize wx63.alloc _ = wx64 at *
                generalize wx63.heap.size = g0 at *
                refine wpAnyH_ready (rs := [4]) (by kernel_rfl) (by simp) ?_
                refine AllReadyH.cons rfl (fun K hK => ?_) AllReadyH.nil
                refine step_of_list (by rfl) ?_
                refine app_rowR _ (by rfl) (.tmp 69) (.tmp 71) (by rfl) (t3 + 1 + 1) A1 a c1 vs1 _ (by rfl) HM.tt.o1 (some ⟨r1, 0, none⟩, q, q) _ (HM.N.o1.more hlg) HAP1.out g0 (by rfl) HL0.cell (by omega) HM.sizeB ?_
                intro E1 e1c wx65 ho hg hf
                refine list_onlyK ?_
                have HL1 := HL1.grown hg HLT1
                have HL2 := HL2.grown hg HLT1
                have HM := HM.push1 ho hg hf
                clear ho hg hf
                refine hK.out _ _ HM.load (fun hS => ?_)
                clear hK K
                refine wpAnyH_take (i := 15) (v := ?_) rfl (by kernel_rfl) (by kernel_rfl) (by kernel_rfl) (fun _ _ _ h => h) (Or.inl ⟨by rfl, ?_⟩) (by assumption) ?_
                rotate_left
                · (intro w hSw; (try dsimp only at hSw); go_simp; (try with_reducible rfl))
                simp only [Act.put, List.setIfInBounds_toArray, List.set_cons_zero, List.set_cons_succ]
                simp only [List.getElem_toArray, List.getElem_cons_succ, List.getElem_cons_zero]
                refine wpAnyH_ready (rs := [9]) (by kernel_rfl) (by simp) ?_
                refine AllReadyH.cons rfl (fun K hK => ?_) AllReadyH.nil
                refine step_of_list (by rfl) ?_
                refine app_rowR _ (by rfl) (.tmp 74) (.tmp 76) (by rfl) (t3 + 1 + 1) A2 a c2 vs2 _ (by rfl) HM.tt.o2 (some ⟨r2, 0, none⟩, q, q) _ (HM.N.o2.more hlg) HAP2.out g1 (by rfl) HL1.cell (by omega) HM.sizeB ?_
                intro E2 e2c wx66 ho hg hf
                refine list_onlyK ?_
                have HL2 := HL2.grown hg HLT2
                have HM := HM.push2 ho hg hf
                clear ho hg hf
                refine hK.out _ _ HM.load (fun hS => ?_)
                clear hK K
                refine wpAnyH_ready (rs := [14]) (by kernel_rfl) (by simp) ?_
                refine AllReadyH.cons rfl (fun K hK => ?_) AllReadyH.nil
                refine step_of_list (by rfl) ?_
                refine app_rowR _ (by rfl) (.tmp 79) (.tmp 81) (by rfl) (t3 + 1 + 1) A3 a c3 vs3 _ (by rfl) HM.tt.o3 (some ⟨r3, 0, none⟩, q, q) _ (HM.N.o3.more hlg) HAP3.out g2 (by rfl) HL2.cell (by omega) HM.sizeB ?_
                intro E3 e3c wx67 ho hg hf
                refine list_onlyK ?_
                have HM := HM.push3 ho hg hf
                clear ho hg hf
                refine hK.out _ _ HM.load (fun hS => ?_)
                clear hK K
                refine wpAnyH_done (by kernel_rfl) ?_ _
                dsimp only [atEnd]
                obtain ⟨f1, f2, f3, e1, e2, e3⟩ := HM.slots
                have hnx := HM.done HT1.out HT2.out HT3.out
                clear HM HL0 HL1 HL2 hS
                go_wp2
                go_roundw
                case rel => exact ⟨a + 1, _, _, _, _, _, _, _, _, _, by omega, by go_num, hnx⟩
                case measure => simp [intOf]; omega
    · obtain rfl : a = q := by omega
      have t1 := hT.t.cell 1
      have t2 := hT.t.cell 2
      have t3' := hT.t.cell 3
      have t4 := hT.t.cell 4
      have s0 := hT.res.frozen 0
      have s1 := hT.res.frozen 1
      have s2 := hT.res.frozen 2
      have s3 := hT.res.frozen 3
      have s4 := hT.res.frozen 4
      have r0 := hT.res.cell 0
      have r1 := hT.res.cell 1
      have r2 := hT.res.cell 2
      have r3 := hT.res.cell 3
      have r4 := hT.res.cell 4
      obtain ⟨W', hW', hB, hTab, hbel⟩ := hT.fin HF.out HQ.out
      go_wp2
      clear t0 t1 t2 t3' t4 r0 r1 r2 r3 r4 s0 s1 s2 s3 s4
      rw [← hW']
      refine bodyPost_ret (results_cell_row (P := Tryz.prog) rfl _ _ (w.heap.size + 1) 146 _ (0, 0) _ rfl hB Tryz.underlying146 rfl (by kernel_rfl)) rfl ?_
      exact ⟨_, _, _, _, _, _, _, _, rfl, hTab, hbel⟩
end Go.Proofs.YtdkbcjdimhgmnaaGreat
