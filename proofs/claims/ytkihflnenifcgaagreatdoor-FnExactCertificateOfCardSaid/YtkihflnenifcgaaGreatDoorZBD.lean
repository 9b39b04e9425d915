/- The state of a search in memory. No condition beyond those stated. -/
import Derived.Test.YtkihflnenifcgaaGreatDoorZAY
import Derived.Test.YtkihflnenifcgaaGreatDoorZBC
import Derived.Test.YtkihflnenifcgaaGreatDoorZAW
import Derived.Test.YtkihflnenifcgaaGreatDoorZAP
import Derived.Test.YtkihflnenifcgaaGreatDoorZAS
import Derived.Deep.QuietTactic
import Derived.BigQuiet
set_option linter.unusedVariables false
set_option linter.unusedSimpArgs false
namespace Go.Proofs.YtkihflnenifcgaaGreatDoor
open Go.RowKit

/-- all blocks so far but two are the same -/
structure Kp (pb : Nat) (r : Option Nat) (w w' : World) : Prop where
  size : w.heap.size ≤ w'.heap.size
  block : ∀ k, k < w.heap.size → k ≠ pb → some k ≠ r → w'.heap[k]? = w.heap[k]?
/-- a slice's block is another's, or none, or one made since -/
def Fresh (A' A : Option Addr) (n : Nat) : Prop := blk A' = blk A ∨ blk A' = none ∨ ∃ k, blk A' = some k ∧ n ≤ k
theorem Fresh.refl (A : Option Addr) (n : Nat) : Fresh A A n := .inl rfl
theorem Fresh.trans {A B C : Option Addr} {n m : Nat} (h : Fresh B A n) (k : Fresh C B m) (hm : n ≤ m) : Fresh C A n := by
  rcases k with k | k | ⟨b, k, h1⟩
  · rcases h with h | h | ⟨b, h, h1⟩
    · exact .inl (k.trans h)
    · exact .inr (.inl (k.trans h))
    · exact .inr (.inr ⟨b, k.trans h, h1⟩)
  · exact .inr (.inl k)
  · exact .inr (.inr ⟨b, k, Nat.le_trans hm h1⟩)
section
variable {pb : Nat} {r r' : Option Nat} {w w' w'' : World} {B : Nat} {e : TypeId} {size : Nat} {A : Option Addr} {n c : Nat}
theorem Kp.refl (pb : Nat) (r : Option Nat) (w : World) : Kp pb r w w := ⟨Nat.le_refl _, fun _ _ _ _ => rfl⟩
theorem Kp.of_below (hb : Below w.heap.size w w') : Kp pb r w w' := ⟨hb.size, fun k hk _ _ => hb.block k hk⟩
theorem Kp.of_set (i : Nat) (u : Value) : Kp pb r w (w.setCell ⟨pb, i, none⟩ u) := ⟨by simp [World.setCell], fun k _ h _ => Below.heap_setCell _ _ _ _ h⟩
theorem Kp.of_grown (hg : w.grownBy w' r) : Kp pb r w w' := ⟨hg.size, fun k hk _ hr => hg.block k hk hr⟩
theorem Kp.trans (h : Kp pb r w w') (k : Kp pb r' w' w'') (hr : r' = r ∨ r' = none ∨ ∃ b, r' = some b ∧ w.heap.size ≤ b) : Kp pb r w w'' :=
  ⟨Nat.le_trans h.size k.size, fun b hb h1 h2 => by
    rw [k.block b (Nat.lt_of_lt_of_le hb h.size) h1 (fun e => by
      rcases hr with hr | hr | ⟨b', hr, hl⟩
      · exact h2 (e.trans hr)
      · rw [hr] at e; cases e
      · rw [hr] at e; injection e with e; omega)]
    exact h.block b hb h1 h2⟩
theorem Kp.trans' {A A' : Option Addr} (h : Kp pb (blk A) w w') (k : Kp pb (blk A') w' w'') (hr : Fresh A' A w.heap.size) : Kp pb (blk A) w w'' := h.trans k hr
theorem OS.kp {xs : List Value} (h : OS w B e size A n c xs) (k : Kp pb r w w') (h1 : some pb ≠ blk A) (h2 : blk A = none ∨ blk A ≠ r) : OS w' B e size A n c xs := by
  refine ⟨h.1, ?_⟩
  rcases h.2 with h3 | ⟨g, cap, cur, hv, hB, hg, q⟩
  · exact .inl h3
  · refine .inr ⟨g, cap, cur, hv, hB, ?_, q⟩
    injection hv with ha
    have hb : blk A = some g := by rw [ha]; rfl
    rw [k.block g (Array.getElem?_eq_some_iff.1 hg).1 (fun e => h1 (by rw [hb, e])) (fun e => by
      rcases h2 with h2 | h2
      · rw [hb] at h2; cases h2
      · exact h2 (by rw [hb]; exact e))]
    exact hg
theorem OI.kp {zs : List Int} (h : OI w B e A n c zs) (k : Kp pb r w w') (h1 : some pb ≠ blk A) (h2 : blk A = none ∨ blk A ≠ r) : OI w' B e A n c zs := ⟨h.os.kp k h1 h2, h.all⟩
end
/-- rows that read so, their headers in a row that a call owns -/
structure BV (w : World) (B : Nat) (A : Option Addr) (n c : Nat) (vs : List Sl) (zss : List (List Int)) : Prop where
  os : OS w B 24 1 A n c (vs.map slv)
  len : vs.length = zss.length
  rows : ∀ (j : Nat) (v : Sl) (z : List Int), vs[j]? = some v → zss[j]? = some z → OI w B 2 v.1 v.2.1 v.2.2 z
section
variable {w w' : World} {B : Nat} {A : Option Addr} {n c : Nat} {vs : List Sl} {zss : List (List Int)}
theorem BV.nil_ (w : World) (B : Nat) : BV w B none 0 0 [] [] := ⟨OS.nil_ _ _ _ _, rfl, fun _ _ _ h => by simp at h⟩
theorem BV.slen (h : BV w B A n c vs zss) : zss.length = n := by have := h.os.len; have := h.len; simp at *; omega
theorem BV.below (h : BV w B A n c vs zss) (hb : Below w.heap.size w w') : BV w' B A n c vs zss := ⟨h.os.below hb, h.len, fun j v z hv hz => (h.rows j v z hv hz).below hb⟩
theorem BV.setLow (h : BV w B A n c vs zss) {p : Addr} (hp : p.block < B) (u : Value) : BV (w.setCell p u) B A n c vs zss := ⟨h.os.setLow hp u, h.len, fun j v z hv hz => (h.rows j v z hv hz).setLow hp u⟩
theorem BV.push (h : BV w B A n c vs zss) {v : Sl} {z : List Int} (ho : OI w B 2 v.1 v.2.1 v.2.2 z) {A' : Option Addr} {c' : Nat} (hg : w.grownBy w' (blk A)) (hos : OS w' B 24 1 A' (n + 1) c' (vs.map slv ++ [.slice v.1 v.2.1 v.2.2])) :
    BV w' B A' (n + 1) c' (vs ++ [v]) (zss ++ [z]) := by
  refine ⟨by simpa [slv] using hos, by simp [h.len], fun j u y hu hy => ?_⟩
  rw [List.getElem?_append] at hu hy
  rw [h.len] at hu
  split at hu
  · rename_i hj
    rw [if_pos hj] at hy
    exact (h.rows j u y hu hy).kept hg (OS.typed (h.rows j u y hu hy).os h.os (by decide))
  · rename_i hj
    rw [if_neg hj] at hy
    have e : j - zss.length = 0 := by
      have := (List.getElem?_eq_some_iff.1 hu).1
      simp at this; omega
    rw [e] at hu hy
    simp at hu hy
    subst hu; subst hy
    exact ho.kept hg (OS.typed ho.os h.os (by decide))
theorem BV.reads (h : BV w B A n c vs zss) : RR w A n zss := by
  refine ⟨h.slen, fun j z hz => ?_⟩
  have hj : j < vs.length := by rw [h.len]; exact (List.getElem?_eq_some_iff.1 hz).1
  have hv := List.getElem?_eq_getElem hj
  obtain ⟨g, ha, hc, hf⟩ := h.os.cell (j := j) (u := slv vs[j]) (by rw [List.getElem?_map, hv]; rfl)
  have ho := h.rows j _ z hv hz
  have hadd : (⟨g, 0, none⟩ : Addr).add j = ⟨g, j, none⟩ := by unfold Addr.add; split <;> simp_all
  refine ⟨⟨g, 0, none⟩, _, ha, by rw [hadd]; exact hc, _, _, _, rfl, ho.os.cap.1, ho.os.cap.2, ho.reads⟩
end
/-- no row lies in this block -/
def Afar (vs : List Sl) (FA : Option Addr) : Prop := ∀ (j : Nat) (v : Sl), vs[j]? = some v → blk v.1 = none ∨ blk v.1 ≠ blk FA
theorem Afar.nil_ (FA : Option Addr) : Afar [] FA := fun _ _ h => by simp at h
theorem Afar.push {vs : List Sl} {FA : Option Addr} (h : Afar vs FA) {v : Sl} (hv : blk v.1 = none ∨ blk v.1 ≠ blk FA) : Afar (vs ++ [v]) FA := fun j u hu => by
  rw [List.getElem?_append] at hu
  split at hu
  · exact h j u hu
  · have := List.mem_of_getElem? hu
    rw [List.mem_singleton.1 this]
    exact hv
theorem far_of_new {w w' : World} {B B' : Nat} {e e' : TypeId} {A A' : Option Addr} {n c n' c' : Nat} {zs ys : List Int} (h : OI w B e A n c zs) (k : OI w' B' e' A' n' c' ys) (hB : w.heap.size ≤ B') : blk A = none ∨ blk A ≠ blk A' := by
  cases hA : blk A with
  | none => exact .inl rfl
  | some b =>
    refine .inr fun e => ?_
    have h1 := h.os.lt hA
    have h2 := k.os.lt e.symm
    omega
theorem far_of_old {w w' : World} {B B' : Nat} {e e' : TypeId} {A A' : Option Addr} {n c n' c' : Nat} {zs ys : List Int} (h : OI w B e A n c zs) (k : OI w' B' e' A' n' c' ys) (hB : w'.heap.size ≤ B) : blk A = none ∨ blk A ≠ blk A' := by
  cases hA : blk A with
  | none => exact .inl rfl
  | some b =>
    refine .inr fun e => ?_
    have h1 := h.os.lt hA
    have h2 := k.os.lt e.symm
    omega
theorem far_none (A : Option Addr) : blk A = none ∨ blk A ≠ blk none := by
  cases A <;> simp [blk]
/-- what a search has found, in memory; its block of state is the first one behind w0 -/
structure SB (w0 w : World) (BA : Option Addr) (bn bc : Nat) (FA : Option Addr) (fn fk : Nat) (FF : Option Addr) (fm fd : Nat) (s : St) : Prop where
  b : Below w0.heap.size w0 w
  lt : w0.heap.size < w.heap.size
  best : ∃ vs, BV w (w0.heap.size + 1) BA bn bc vs s.best ∧ Afar vs FA
  fc : OI w (w0.heap.size + 1) 2 FA fn fk s.fc
  fe : OE w (w0.heap.size + 1) 65 FF fm fd s.fe
  lc : s.fc.length ≤ 4096
  le_ : s.fe.length ≤ 1048576
section
variable {w0 w w' : World} {BA : Option Addr} {bn bc : Nat} {FA : Option Addr} {fn fk : Nat} {FF : Option Addr} {fm fd : Nat} {s s' : St}
theorem SB.step (h : SB w0 w BA bn bc FA fn fk FF fm fd s) (hb : Below w.heap.size w w') : SB w0 w' BA bn bc FA fn fk FF fm fd s :=
  ⟨h.b.trans (hb.mono h.b.size), Nat.lt_of_lt_of_le h.lt hb.size, let ⟨vs, hv, ha⟩ := h.best; ⟨vs, hv.below hb, ha⟩, h.fc.below hb, h.fe.below hb, h.lc, h.le_⟩
theorem SB.set (h : SB w0 w BA bn bc FA fn fk FF fm fd s) (i : Nat) (u : Value) : SB w0 (w.setCell ⟨w0.heap.size, i, none⟩ u) BA bn bc FA fn fk FF fm fd s :=
  ⟨Below.setCell h.b (p := ⟨w0.heap.size, i, none⟩) (Nat.le_refl _) u, by simpa [World.setCell] using h.lt, let ⟨vs, hv, ha⟩ := h.best; ⟨vs, hv.setLow (Nat.lt_succ_self _) u, ha⟩, h.fc.setLow (Nat.lt_succ_self _) u, h.fe.setLow (Nat.lt_succ_self _) u, h.lc, h.le_⟩
theorem SB.re (h : SB w0 w BA bn bc FA fn fk FF fm fd s) (h1 : s'.best = s.best) (h2 : s'.fc = s.fc) (h3 : s'.fe = s.fe) : SB w0 w BA bn bc FA fn fk FF fm fd s' :=
  ⟨h.b, h.lt, by rw [h1]; exact h.best, by rw [h2]; exact h.fc, by rw [h3]; exact h.fe, by rw [h2]; exact h.lc, by rw [h3]; exact h.le_⟩
end
end Go.Proofs.YtkihflnenifcgaaGreatDoor
/- The state of the reference's search in memory. No condition beyond those stated. -/
namespace Go.Proofs.YtkihflnenifcgaaGreatDoor
open Go.RowKit

def fcells (A : Option Addr) (n c : Nat) (F : Option Addr) (m d : Nat) (N : Option Addr) (nn cN : Nat) (BA : Option Addr) (bn bc : Nat) (FA : Option Addr) (fn fk : Nat) (FF : Option Addr) (fm fd : Nat) (s : St) : Array Value :=
  #[.slice A n c, .slice F m d, .slice N nn cN, .slice FA fn fk, .slice FF fm fd, .slice BA bn bc, .int .i64 (s.nodes : Int), .int .i64 (s.leaves : Int), .int .i64 ((s.nodes + s.left : Nat) : Int), .bool s.spent]
/-- the whole state: its block, and what it leads to -/
structure RFd (w0 w : World) (A : Option Addr) (n c : Nat) (F : Option Addr) (m d : Nat) (N : Option Addr) (nn cN : Nat) (BA : Option Addr) (bn bc : Nat) (FA : Option Addr) (fn fk : Nat) (FF : Option Addr) (fm fd : Nat) (s : St) : Prop where
  x : Blk w w0.heap.size 76 (fcells A n c F m d N nn cN BA bn bc FA fn fk FF fm fd s)
  sb : SB w0 w BA bn bc FA fn fk FF fm fd s
section
variable {w0 w w' : World} {A : Option Addr} {n c : Nat} {F : Option Addr} {m d : Nat} {N : Option Addr} {nn cN : Nat} {BA : Option Addr} {bn bc : Nat} {FA : Option Addr} {fn fk : Nat} {FF : Option Addr} {fm fd : Nat} {s s' : St}
theorem RFd.step (h : RFd w0 w A n c F m d N nn cN BA bn bc FA fn fk FF fm fd s) (hb : Below w.heap.size w w') : RFd w0 w' A n c F m d N nn cN BA bn bc FA fn fk FF fm fd s := ⟨h.x.after hb, h.sb.step hb⟩
theorem RFd.cells (h : RFd w0 w A n c F m d N nn cN BA bn bc FA fn fk FF fm fd s) :
    (w.cell? ⟨w0.heap.size, 0, none⟩ = some (.slice A n c) ∧ w.cell? ⟨w0.heap.size, 1, none⟩ = some (.slice F m d) ∧ w.cell? ⟨w0.heap.size, 2, none⟩ = some (.slice N nn cN) ∧ w.cell? ⟨w0.heap.size, 3, none⟩ = some (.slice FA fn fk) ∧ w.cell? ⟨w0.heap.size, 4, none⟩ = some (.slice FF fm fd)) ∧
    w.cell? ⟨w0.heap.size, 5, none⟩ = some (.slice BA bn bc) ∧ w.cell? ⟨w0.heap.size, 6, none⟩ = some (.int .i64 (s.nodes : Int)) ∧ w.cell? ⟨w0.heap.size, 7, none⟩ = some (.int .i64 (s.leaves : Int)) ∧ w.cell? ⟨w0.heap.size, 8, none⟩ = some (.int .i64 ((s.nodes + s.left : Nat) : Int)) ∧ w.cell? ⟨w0.heap.size, 9, none⟩ = some (.bool s.spent) :=
  ⟨⟨h.x.cell 0, h.x.cell 1, h.x.cell 2, h.x.cell 3, h.x.cell 4⟩, h.x.cell 5, h.x.cell 6, h.x.cell 7, h.x.cell 8, h.x.cell 9⟩
theorem RFd.frozen (h : RFd w0 w A n c F m d N nn cN BA bn bc FA fn fk FF fm fd s) (i : Nat) : w.frozen? ⟨w0.heap.size, i, none⟩ = false := h.x.frozen i
theorem RFd.leaves (h : RFd w0 w A n c F m d N nn cN BA bn bc FA fn fk FF fm fd s) {u : Int} (k : Nat) (hu : u = (k : Int)) : RFd w0 (w.setCell ⟨w0.heap.size, 7, none⟩ (.int .i64 u)) A n c F m d N nn cN BA bn bc FA fn fk FF fm fd { s with leaves := k } :=
  ⟨by rw [hu]; exact h.x.set_ 7 _, (h.sb.set 7 _).re rfl rfl rfl⟩
theorem RFd.nodes (h : RFd w0 w A n c F m d N nn cN BA bn bc FA fn fk FF fm fd s) {u : Int} (hu : u = ((s.nodes + 1 : Nat) : Int)) (hl : s.left ≠ 0) : RFd w0 (w.setCell ⟨w0.heap.size, 6, none⟩ (.int .i64 u)) A n c F m d N nn cN BA bn bc FA fn fk FF fm fd { s with left := s.left - 1, nodes := s.nodes + 1 } :=
  ⟨by
    have e : fcells A n c F m d N nn cN BA bn bc FA fn fk FF fm fd { s with left := s.left - 1, nodes := s.nodes + 1 } = (fcells A n c F m d N nn cN BA bn bc FA fn fk FF fm fd s).setIfInBounds 6 (.int .i64 u) := by
      rw [hu]
      unfold fcells
      rw [show s.nodes + 1 + (s.left - 1) = s.nodes + s.left by omega]
      rfl
    rw [e]
    exact h.x.set_ 6 _, (h.sb.set 6 _).re rfl rfl rfl⟩
theorem RFd.spent_ (h : RFd w0 w A n c F m d N nn cN BA bn bc FA fn fk FF fm fd s) (b : Bool) : RFd w0 (w.setCell ⟨w0.heap.size, 9, none⟩ (.bool b)) A n c F m d N nn cN BA bn bc FA fn fk FF fm fd { s with spent := b } :=
  ⟨h.x.set_ 9 _, (h.sb.set 9 _).re rfl rfl rfl⟩
/-- another form, and none found yet -/
theorem RFd.form (h : RFd w0 w A n c F m d N nn cN BA bn bc FA fn fk FF fm fd s) {A1 : Option Addr} {n1 c1 : Nat} {F1 : Option Addr} {m1 d1 : Nat} {cs : List Int} {es : List Ed} (h1 : OI w (w0.heap.size + 1) 2 A1 n1 c1 cs) (h2 : OE w (w0.heap.size + 1) 65 F1 m1 d1 es) (h3 : cs.length ≤ 4096) (h4 : es.length ≤ 1048576) {g : Nat} (hg : g = w.heap.size) :
    RFd w0 ((((w.setCell ⟨w0.heap.size, 3, none⟩ (.slice A1 n1 c1)).setCell ⟨w0.heap.size, 4, none⟩ (.slice F1 m1 d1)).alloc (.cells #[] 24)).setCell ⟨w0.heap.size, 5, none⟩ (.slice (some ⟨g, 0, none⟩) 0 0)) A n c F m d N nn cN (some ⟨g, 0, none⟩) 0 0 A1 n1 c1 F1 m1 d1 { s with fc := cs, fe := es, best := [] } := by
  have hlt : w0.heap.size < w0.heap.size + 1 := Nat.lt_succ_self _
  have k := ((h.sb.set 3 (.slice A1 n1 c1)).set 4 (.slice F1 m1 d1))
  have hx := ((h.x.set_ 3 (.slice A1 n1 c1)).set_ 4 (.slice F1 m1 d1))
  have g1 := (h1.setLow hlt (p := ⟨w0.heap.size, 3, none⟩) (.slice A1 n1 c1)).setLow hlt (p := ⟨w0.heap.size, 4, none⟩) (.slice F1 m1 d1)
  have g2 := (h2.setLow hlt (p := ⟨w0.heap.size, 3, none⟩) (.slice A1 n1 c1)).setLow hlt (p := ⟨w0.heap.size, 4, none⟩) (.slice F1 m1 d1)
  have hsz : ((w.setCell ⟨w0.heap.size, 3, none⟩ (.slice A1 n1 c1)).setCell ⟨w0.heap.size, 4, none⟩ (.slice F1 m1 d1)).heap.size = w.heap.size := by simp [World.setCell]
  rw [← hsz] at hg
  generalize (w.setCell ⟨w0.heap.size, 3, none⟩ (.slice A1 n1 c1)).setCell ⟨w0.heap.size, 4, none⟩ (.slice F1 m1 d1) = V at *
  subst hg
  have k2 := k.step (below_alloc V (.cells #[] 24))
  have k3 := k2.set 5 (.slice (some ⟨V.heap.size, 0, none⟩) 0 0)
  have ho := OS.lit V (w0.heap.size + 1) 24 1 0 #[] k.lt rfl (by omega)
  refine ⟨?_, ⟨k3.b, k3.lt, ⟨[], ⟨?_, rfl, fun _ _ _ h => by simp at h⟩, Afar.nil_ _⟩, ?_, ?_, h3, h4⟩⟩
  · have := (hx.alloc (.cells #[] 24)).set_ 5 (.slice (some ⟨V.heap.size, 0, none⟩) 0 0)
    exact this
  · exact ho.setLow hlt _
  · exact (g1.alloc _).setLow hlt _
  · exact (g2.alloc _).setLow hlt _
/-- one more found -/
theorem RFd.push (h : RFd w0 w A n c F m d N nn cN BA bn bc FA fn fk FF fm fd s) {v : Sl} {z : List Int} (ho : OI w (w0.heap.size + 1) 2 v.1 v.2.1 v.2.2 z) {vs : List Sl} (hv : BV w (w0.heap.size + 1) BA bn bc vs s.best) (ha : Afar vs FA) (hva : blk v.1 = none ∨ blk v.1 ≠ blk FA) {A' : Option Addr} {c' : Nat} (hg : w.grownBy w' (blk BA)) (hos : OS w' (w0.heap.size + 1) 24 1 A' (bn + 1) c' (vs.map slv ++ [.slice v.1 v.2.1 v.2.2])) :
    RFd w0 (w'.setCell ⟨w0.heap.size, 5, none⟩ (.slice A' (bn + 1) c')) A n c F m d N nn cN A' (bn + 1) c' FA fn fk FF fm fd { s with best := s.best ++ [z] } := by
  have hlt : w0.heap.size < w0.heap.size + 1 := Nat.lt_succ_self _
  have hx := h.x.grown hg (OS.typed' hv.os h.x (by decide))
  have hb := below_own h.sb.b hg h.sb.b.size (fun b hb => by have := (hv.os.lt hb).1; omega)
  have hb' := hv.push ho hg hos
  refine ⟨?_, ⟨Below.setCell hb (p := ⟨w0.heap.size, 5, none⟩) (Nat.le_refl _) _, ?_, ⟨_, hb'.setLow hlt _, ha.push hva⟩, (h.sb.fc.kept hg (OS.typed h.sb.fc.os hv.os (by decide))).setLow hlt _, (h.sb.fe.kept hg (OS.typed h.sb.fe.os hv.os (by decide))).setLow hlt _, h.sb.lc, h.sb.le_⟩⟩
  · have := hx.set_ 5 (.slice A' (bn + 1) c')
    exact this
  · have := hg.size
    have := h.sb.lt
    simp [World.setCell]
    omega
end
end Go.Proofs.YtkihflnenifcgaaGreatDoor
/- The cell that a search splits, on both sides. No condition beyond those stated. -/
namespace Go.Proofs.YtkihflnenifcgaaGreatDoor
open Go.RowKit

/-- the vertices of the cell that is split -/
def vL (cells : List Int) : List Int := if tgtP cells < 0 then [] else vertsP cells (tgtP cells)
theorem vL_none {cells : List Int} (h : ∀ c : Nat, c < cells.length → cells.count (c : Int) < 2) : vL cells = [] := by rw [vL, if_pos (by rw [tgtP_none h]; omega)]
theorem vL_some {cells : List Int} {c : Nat} (hc : c < cells.length) (h2 : 2 ≤ cells.count (c : Int)) (hl : ∀ d : Nat, d < c → cells.count (d : Int) < 2) : vL cells = vertsP cells c := by
  rw [vL, tgtP_val hc h2 hl, if_neg (by omega)]
def fewTo (cells : List Int) (k : Nat) : Prop := ∀ d : Nat, d < k → cells.count (d : Int) < 2
theorem fewTo_zero (cells : List Int) : fewTo cells 0 := fun _ h => absurd h (by omega)
theorem fewTo_step {cells : List Int} {k : Nat} (h : fewTo cells k) (hk : ¬ 1 < (vertsP cells (k : Int)).length) : fewTo cells (k + 1) := fun d hd => by
  rcases Nat.lt_succ_iff_lt_or_eq.1 hd with h' | h'
  · exact h d h'
  · rw [h', ← vertsP_count]; omega
theorem vT_more (cells : List Int) (t : Int) (k : Nat) : vT cells t (k + 1) = if nth cells k = t then vT cells t k ++ [(k : Int)] else vT cells t k := vT_step cells t k
set_option maxRecDepth 100000 in
set_option maxHeartbeats 1000000 in
theorem target_any (A : Option Addr) (n c : Nat) (cells : List Int) (w : World) (ha : RI w A n cells) (hn : n ≤ 1048576) :
    Calls Tryz.prog 71 #[.slice A n c] w (RetI w 2 (vL cells)) := by
  have hla := Lib.hid ha.len
  go_enter Tryz.func71, Tryz.ntmps71
  go_wp2
  go_loopw [9] (fun i wr => ∃ k : Nat, k ≤ n ∧ i = .int .i64 k ∧ Below w.heap.size w wr ∧ fewTo cells k) (fun i _ => n - (intOf i).toNat)
  case atStart => exact ⟨0, Nat.zero_le _, rfl, Below.refl _ _, fewTo_zero _⟩
  case round =>
    obtain ⟨k, hk, rfl, hw, hf⟩ := hrel
    by_cases hlt : k < n
    · have HF := Lib.hid hf; clear hf
      have hsz := hw.size
      go_wp2
      obtain ⟨wo, rfl⟩ : ∃ wo : World, wo = wr := ⟨_, rfl⟩
      go_loopw [4, 14] (fun v i w2 => ∃ (j m : Nat) (A' : Option Addr) (c' : Nat), j ≤ n ∧ i = .int .i64 j ∧ v = .slice A' m c' ∧ OI w2 w.heap.size 2 A' m c' (vT cells k j) ∧ Below w.heap.size w w2) (fun _ i _ => n - (intOf i).toNat)
      case atStart => exact ⟨0, 0, _, _, Nat.zero_le _, rfl, rfl, OI.nil_ _ _ _, hw⟩
      case round =>
        obtain ⟨j, m, A', c', hj, rfl, rfl, ho, hw2⟩ := hrel
        by_cases hjl : j < n
        · obtain ⟨a, rfl, hca, hia⟩ := (ha.keep hw2).get hjl
          have hm : m ≤ n := by have := ho.len; have := vT_len cells k j; omega
          by_cases he : nth cells j = k
          · have he' : (nth cells j == (k : Int)) = true := by simp [he]
            have HV := Lib.hid (show vT cells k (j + 1) = vT cells k j ++ [(j : Int)] by rw [vT_more, if_pos he])
            rw [he] at hca
            clear he he' hia
            have hkk : ((k : Int) == (k : Int)) = true := by simp
            go_wp2_with (at_builtin; refine app_int _ rfl _ _ rfl w.heap.size A' m c' (vT cells k j) rfl ho (j : Int) _ rfl (by simp) ⟨by omega, by omega⟩ (by omega) hw2.size ?_; intro A2 c2 w3 ho3 hg3 hn3)
            have hw3 := below_own hw2 hg3 hw2.size (fun b hb => (ho.os.lt hb).1)
            clear ho hg3 hn3 hca
            go_roundw
            case rel => exact ⟨j + 1, _, _, _, by omega, by go_num, rfl, by rw [HV.out]; exact ho3, hw3⟩
            case measure => simp [intOf]; omega
          · have he' : (nth cells j == (k : Int)) = false := by simp [he]
            have HV := Lib.hid (show vT cells k (j + 1) = vT cells k j by rw [vT_more, if_neg he])
            clear he
            go_wp2
            go_roundw
            case rel => exact ⟨j + 1, _, _, _, by omega, by go_num, rfl, by rw [HV.out]; exact ho, hw2⟩
            case measure => simp [intOf]; omega
        · have HJ := Lib.hid (show vT cells k j = vertsP cells k by rw [show j = cells.length by rw [hla.out]; omega]; exact vT_all cells k)
          rw [HJ.out] at ho
          have hml := Lib.hid ho.len
          by_cases h1 : 1 < m
          · have HR := Lib.hid (show vL cells = vertsP cells k from vL_some (by rw [hla.out]; exact hlt) (by rw [← vertsP_count, hml.out]; omega) HF.out)
            clear hlt hk hj
            have hm9 : (m : Int) > 1 := by omega
            go_wp2
            go_ret
            exact ⟨_, _, _, rfl, by rw [HR.out]; exact ho, hw2⟩
          · have HN := Lib.hid (fewTo_step HF.out (by rw [hml.out]; exact h1))
            go_wp2
            go_roundw
            case rel => exact ⟨k + 1, by omega, by go_num, hw2, HN.out⟩
            case measure => simp [intOf]; omega
    · have HR := Lib.hid (show vL cells = [] from vL_none (by rw [hla.out]; intro d hd; exact hf d (by omega)))
      clear hf
      go_wp2
      go_ret
      exact ⟨none, 0, 0, rfl, by rw [HR.out]; exact OI.nil_ _ _ _, hw⟩
/-- the pairs of places that have been looked at -/
def pairTo (u v a b : Nat) : Prop := b < a ∧ (a < u ∨ (a = u ∧ b < v))
def TgtTo (cells : List Int) (u v : Nat) (out : Int) : Prop :=
  (out = -1 ∧ ∀ a b, pairTo u v a b → nth cells a ≠ nth cells b) ∨
  (0 ≤ out ∧ (∃ a b, pairTo u v a b ∧ nth cells a = nth cells b ∧ nth cells a = out) ∧ ∀ a b, pairTo u v a b → nth cells a = nth cells b → out ≤ nth cells a)
theorem tgtTo_zero (cells : List Int) : TgtTo cells 0 0 (-1) := .inl ⟨rfl, fun a b h => by unfold pairTo at h; omega⟩
theorem pairTo_step {u v a b : Nat} (h : pairTo u (v + 1) a b) : pairTo u v a b ∨ (a = u ∧ b = v) := by unfold pairTo at *; omega
theorem pairTo_more {u v a b : Nat} (h : pairTo u v a b) : pairTo u (v + 1) a b := by unfold pairTo at *; omega
theorem tgtTo_new {cells : List Int} {u v : Nat} {out : Int} (h : TgtTo cells u v out) (hv : v < u) (he : nth cells u = nth cells v) (h0 : 0 ≤ nth cells u) (hc : out < 0 ∨ nth cells u < out) : TgtTo cells u (v + 1) (nth cells u) := by
  refine .inr ⟨h0, ⟨u, v, by unfold pairTo; omega, he, rfl⟩, fun a b hp hq => ?_⟩
  rcases pairTo_step hp with h1 | ⟨rfl, rfl⟩
  · rcases h with ⟨_, h2⟩ | ⟨h2, _, h3⟩
    · exact absurd hq (h2 a b h1)
    · have := h3 a b h1 hq
      omega
  · omega
theorem tgtTo_old {cells : List Int} {u v : Nat} {out : Int} (h : TgtTo cells u v out) (hc : nth cells u ≠ nth cells v ∨ (0 ≤ out ∧ out ≤ nth cells u)) : TgtTo cells u (v + 1) out := by
  rcases h with ⟨h1, h2⟩ | ⟨h1, ⟨a, b, h2, h3⟩, h4⟩
  · refine .inl ⟨h1, fun a b hp => ?_⟩
    rcases pairTo_step hp with h3 | ⟨rfl, rfl⟩
    · exact h2 a b h3
    · rcases hc with hc | hc
      · exact hc
      · omega
  · refine .inr ⟨h1, ⟨a, b, pairTo_more h2, h3⟩, fun a b hp hq => ?_⟩
    rcases pairTo_step hp with h5 | ⟨rfl, rfl⟩
    · exact h4 a b h5 hq
    · rcases hc with hc | hc
      · exact absurd hq hc
      · exact hc.2
theorem tgtTo_next {cells : List Int} {u : Nat} {out : Int} (h : TgtTo cells u u out) : TgtTo cells (u + 1) 0 out := by
  have e : ∀ a b, pairTo (u + 1) 0 a b ↔ pairTo u u a b := fun a b => by unfold pairTo; omega
  unfold TgtTo at *
  simp only [e]
  exact h
theorem tgtTo_range {cells : List Int} {u v : Nat} {out : Int} (h : TgtTo cells u v out) : -1 ≤ out := by
  rcases h with ⟨h1, _⟩ | ⟨h1, _⟩ <;> omega
theorem tgtTo_end {n : Nat} {cells : List Int} {out : Int} (hc : Cells n cells) (h : TgtTo cells n 0 out) : tgtP cells = out := by
  rcases h with ⟨h1, h2⟩ | ⟨h1, ⟨a, b, h2, h3, h5⟩, h4⟩
  · rw [h1]
    refine tgtP_none fun c _ => ?_
    rcases Nat.lt_or_ge (cells.count (c : Int)) 2 with h3 | h3
    · exact h3
    · exfalso
      obtain ⟨u, v, h4, h5, h6, h7⟩ := two_count h3
      exact h2 u v (by unfold pairTo; rw [hc.len] at h5; omega) (h6.trans h7.symm)
  · have ha : a < n := by unfold pairTo at h2; omega
    have hb := hc.bd a ha
    have e : out = (out.toNat : Int) := by omega
    rw [e]
    refine tgtP_val (by rw [hc.len]; omega) ?_ fun d hd => ?_
    · rw [← e, ← h5]
      exact count_two (by unfold pairTo at h2; omega) (by rw [hc.len]; exact ha) h3
    · rcases Nat.lt_or_ge (cells.count (d : Int)) 2 with h6 | h6
      · exact h6
      · exfalso
        obtain ⟨u, v, h7, h8, h9, h10⟩ := two_count h6
        have := h4 u v (by unfold pairTo; rw [hc.len] at h8; omega) (h9.trans h10.symm)
        omega
set_option maxRecDepth 100000 in
set_option maxHeartbeats 2000000 in
theorem l22Target_any (A : Option Addr) (n c : Nat) (cells : List Int) (w : World) (ha : RI w A n cells) (hn : n ≤ 1048576) (hc : Cells n cells) :
    Calls Tryz.prog 121 #[.slice A n c] w (Quiet w (.int .i64 (tgtP cells))) := by
  have HC := Lib.hid hc; clear hc
  go_enter Tryz.func121, Tryz.ntmps121
  go_wp2
  go_loopw [3, 4] (fun o i wr => ∃ (k : Nat) (out : Int), k ≤ n ∧ i = .int .i64 k ∧ o = .int .i64 out ∧ Drawn w wr ∧ TgtTo cells k 0 out) (fun _ i _ => n - (intOf i).toNat)
  case atStart => exact ⟨0, _, Nat.zero_le _, rfl, rfl, Drawn.refl _, tgtTo_zero _⟩
  case round =>
    obtain ⟨k, out, hk, rfl, rfl, hd, ht⟩ := hrel
    by_cases hlt : k < n
    · have HT := Lib.hid ht; clear ht
      go_wp2
      obtain ⟨wo, rfl⟩ : ∃ wo : World, wo = wr := ⟨_, rfl⟩
      go_loopw [3, 5] (fun o i w2 => ∃ (j : Nat) (out : Int), j ≤ k ∧ i = .int .i64 j ∧ o = .int .i64 out ∧ Drawn w w2 ∧ TgtTo cells k j out) (fun _ i _ => k - (intOf i).toNat)
      case atStart => exact ⟨0, _, Nat.zero_le _, rfl, rfl, hd, HT.out⟩
      case round =>
        obtain ⟨j, o2, hj, rfl, rfl, hd2, ht2⟩ := hrel
        have hrg := tgtTo_range ht2
        by_cases hjl : j < k
        · obtain ⟨a, rfl, hcu, hiu⟩ := (ha.drawn hd2).get hlt
          obtain ⟨a', e', hcv, hiv⟩ := (ha.drawn hd2).get (k := j) (by omega)
          injection e' with e'
          subst e'
          obtain ⟨b1, b2⟩ := HC.out.bd k hlt
          by_cases he : nth cells k = nth cells j
          · have he1 : (nth cells k == nth cells j) = true := by simp [he]
            by_cases h0 : o2 < 0
            · have HN := Lib.hid (tgtTo_new ht2 hjl he b1 (.inl h0))
              clear ht2 he
              go_wp2
              go_quiet (fail)
              go_wp2
              go_roundw
              case rel => exact ⟨j + 1, _, by omega, by go_num, rfl, hd2.more _, HN.out⟩
              case measure => simp [intOf]; omega
            · have h0' : decide (o2 < 0) = false := by simpa using h0
              have h0'' : 0 ≤ o2 := by omega
              by_cases h1 : nth cells k < o2
              · have HN := Lib.hid (tgtTo_new ht2 hjl he b1 (.inr h1))
                clear ht2 he
                go_wp2
                go_quiet (fail)
                go_wp2
                go_roundw
                case rel => exact ⟨j + 1, _, by omega, by go_num, rfl, hd2.more _, HN.out⟩
                case measure => simp [intOf]; omega
              · have h1' : decide (nth cells k < o2) = false := by simpa using h1
                have HN := Lib.hid (tgtTo_old (u := k) (v := j) ht2 (.inr ⟨h0'', by omega⟩))
                clear ht2 he
                go_wp2
                go_quiet (fail)
                go_wp2
                go_roundw
                case rel => exact ⟨j + 1, _, by omega, by go_num, rfl, hd2.more _, HN.out⟩
                case measure => simp [intOf]; omega
          · have he1 : (nth cells k == nth cells j) = false := by simp [he]
            have HN := Lib.hid (tgtTo_old (u := k) (v := j) ht2 (.inl he))
            clear ht2 he
            go_wp2
            go_quiet (fail)
            go_wp2
            go_roundw
            case rel => exact ⟨j + 1, _, by omega, by go_num, rfl, hd2.more _, HN.out⟩
            case measure => simp [intOf]; omega
        · obtain rfl : j = k := by omega
          have HN := Lib.hid (tgtTo_next ht2)
          clear ht2
          go_wp2
          go_roundw
          case rel => exact ⟨j + 1, _, by omega, by go_num, rfl, hd2, HN.out⟩
          case measure => simp [intOf]; omega
    · obtain rfl : k = n := by omega
      have HN := Lib.hid (tgtTo_end HC.out ht)
      clear ht
      go_wp2
      go_ret
      exact ⟨ret_int HN.out.symm, hd⟩
end Go.Proofs.YtkihflnenifcgaaGreatDoor
