/- Refinement to the end: the program's side. No condition beyond those stated. -/
import Derived.Test.YtncknfhfkmmhbaaGreatZBG
import Derived.Test.YtncknfhfkmmhbaaGreatZBI
import Derived.Test.YtncknfhfkmmhbaaGreatZBD
import Derived.Test.YtncknfhfkmmhbaaGreatZAN
import Derived.Test.YtncknfhfkmmhbaaGreatZAF
import Derived.Test.YtncknfhfkmmhbaaGreatZAH
import Derived.Deep.QuietTactic
import Derived.BigQuiet
import Derived.Test.YtncknfhfkmmhbaaGreatZBF
import Derived.Test.YtncknfhfkmmhbaaGreatZBB
set_option linter.unusedVariables false
set_option linter.unusedSimpArgs false
namespace Go.Proofs.YtncknfhfkmmhbaaGreat
open Go.RowKit

theorem RI.unique {w : World} {A : Option Addr} {n : Nat} {zs ys : List Int} (h : RI w A n zs) (k : RI w A n ys) : zs = ys := by
  refine nth_ext (by rw [h.len, k.len]) fun j hj => ?_
  rw [h.len] at hj
  obtain ⟨a, e1, h1, _⟩ := h.get hj
  obtain ⟨b, e2, h2, _⟩ := k.get hj
  rw [e1] at e2
  injection e2 with e2
  subst e2
  rw [h1] at h2
  injection h2 with h2
  injection h2
/-- what a slice of numbers reads as -/
noncomputable def readL (w : World) (v : Value) : List Int := @dite _ (∃ zs A n c, v = .slice A n c ∧ RI w A n zs) (Classical.propDecidable _) (fun h => h.choose) (fun _ => [])
theorem readL_eq {w : World} {A : Option Addr} {n c : Nat} {zs : List Int} (h : RI w A n zs) : readL w (.slice A n c) = zs := by
  have hex : ∃ zs A' n' c', Value.slice A n c = .slice A' n' c' ∧ RI w A' n' zs := ⟨zs, A, n, c, rfl, h⟩
  unfold readL
  rw [dif_pos hex]
  obtain ⟨A', n', c', e, h'⟩ := hex.choose_spec
  injection e with e1 e2 e3
  subst e1; subst e2
  exact h'.unique h
set_option maxRecDepth 100000 in
set_option maxHeartbeats 1000000 in
theorem refine_any (L : Option Addr) (n c : Nat) (near : List (List Int)) (A : Option Addr) (d : Nat) (cells : List Int) (w : World) (ha : RR w L n near) (hc : RI w A n cells) (hn : n ≤ 4096) (hnr : Nears n near) :
    Calls Tryz.prog 56 #[.slice L n c, .slice A n d] w (RetI w 2 (refP near cells)) := by
  have hlc := Lib.hid hc.len
  have HN := Lib.hid hnr; clear hnr
  go_enter Tryz.func56, Tryz.ntmps56
  go_wp2
  go_loopw [1] (fun v wr => ∃ (cur : List Int) (A' : Option Addr) (c' : Nat), v = .slice A' n c' ∧ RI wr A' n cur ∧ Below w.heap.size w wr ∧ cur.length = n ∧ refP near cells = refP near cur) (fun v wr => n + 1 - manyP (readL wr v))
  case atStart => exact ⟨cells, _, _, rfl, hc, Below.refl _ _, hlc.out, rfl⟩
  case round =>
    obtain ⟨cur, A', c', rfl, hcu, hw, hcl, hr⟩ := hrel
    have HCL := Lib.hid hcl
    have HR := Lib.hid hr
    have HRD := Lib.hid (readL_eq (c := c') hcu)
    have hmono := roundP_many (near := near) (cells := cur)
    have hle := manyP_le (roundP near cur)
    rw [roundP_len, hcl] at hle
    clear hcl hr
    go_wp2_with fail
    refine (refineOnce_any L n c near A' c' cur wr (ha.keep hw) hcu hn HN.out).mono ?_
    rintro e w3 ⟨A3, n3, c3, rfl, ho3, hb3⟩
    obtain rfl : n3 = n := by rw [← ho3.len, roundP_len, HCL.out]
    have hw3 := below_then hw hb3
    have ho3' := ho3.more hw.size
    have hcu3 := hcu.keep hb3
    clear hcu hb3 ho3 hw
    go_wp2_with fail
    refine (cellCount_any A3 n3 c3 (roundP near cur) w3 ho3'.reads (by omega)).mono ?_
    rintro e w4 ⟨rfl, hb4⟩
    have hcu4 := hcu3.keep hb4
    have ho4 := ho3'.below hb4
    have hw4 := below_then hw3 hb4
    clear hcu3 hb4 ho3' hw3
    go_wp2_with fail
    refine (cellCount_any A' n3 c' cur w4 hcu4 (by omega)).mono ?_
    rintro e w5 ⟨rfl, hb5⟩
    have ho5 := ho4.below hb5
    have hw5 := below_then hw4 hb5
    clear hcu4 hb5 ho4 hw4
    by_cases he : manyP (roundP near cur) = manyP cur
    · have HM := Lib.hid (refP_done (near := near) (cells := cur) he)
      rw [he]
      have hee : (((manyP cur : Nat) : Int) == ((manyP cur : Nat) : Int)) = true := by simp
      clear he
      go_wp2
      go_ret
      exact ⟨_, _, _, rfl, by rw [HR.out, HM.out]; exact ho5, hw5⟩
    · have HM := Lib.hid (refP_more (near := near) (cells := cur) he)
      have hq : manyP cur < manyP (roundP near cur) := by omega
      have hee : (((manyP (roundP near cur) : Nat) : Int) == ((manyP cur : Nat) : Int)) = false := by simp; omega
      have HRD2 := Lib.hid (readL_eq (c := c3) ho5.reads)
      clear he
      go_wp2
      go_roundw
      case rel => exact ⟨_, _, _, rfl, ho5.reads, hw5, by rw [roundP_len]; exact HCL.out, by rw [HR.out]; exact HM.out⟩
      case measure => rw [HRD.out, HRD2.out]; omega
end Go.Proofs.YtncknfhfkmmhbaaGreat
/- spec.l21Many. No condition beyond those stated. -/
namespace Go.Proofs.YtncknfhfkmmhbaaGreat
open Go.RowKit

end Go.Proofs.YtncknfhfkmmhbaaGreat
/- Refinement to the end: the reference's side. No condition beyond those stated. -/
namespace Go.Proofs.YtncknfhfkmmhbaaGreat
open Go.RowKit

end Go.Proofs.YtncknfhfkmmhbaaGreat
/- The state of a search in memory. No condition beyond those stated. -/
namespace Go.Proofs.YtncknfhfkmmhbaaGreat
open Go.RowKit

/-- all blocks so far but two are the same -/
structure Kp (pb : Nat) (r : Option Nat) (w w' : World) : Prop where
  size : w.heap.size ≤ w'.heap.size
  block : ∀ k, k < w.heap.size → k ≠ pb → some k ≠ r → w'.heap[k]? = w.heap[k]?
/-- a slice's block is another's, or none, or one made since -/
def Fresh (A' A : Option Addr) (n : Nat) : Prop := blk A' = blk A ∨ blk A' = none ∨ ∃ k, blk A' = some k ∧ n ≤ k
theorem Fresh.refl (A : Option Addr) (n : Nat) : Fresh A A n := .inl rfl
theorem Fresh.trans {A B C : Option Addr} {n m : Nat} (h : Fresh B A n) (k : Fresh C B m) (hm : n ≤ m) : Fresh C A n := by
  rcases k with k | k | ⟨b, k, h1⟩
  · rcases h with h | h | ⟨b, h, h1⟩
    · exact .inl (k.trans h)
    · exact .inr (.inl (k.trans h))
    · exact .inr (.inr ⟨b, k.trans h, h1⟩)
  · exact .inr (.inl k)
  · exact .inr (.inr ⟨b, k, Nat.le_trans hm h1⟩)
section
variable {pb : Nat} {r r' : Option Nat} {w w' w'' : World} {B : Nat} {e : TypeId} {size : Nat} {A : Option Addr} {n c : Nat}
theorem Kp.refl (pb : Nat) (r : Option Nat) (w : World) : Kp pb r w w := ⟨Nat.le_refl _, fun _ _ _ _ => rfl⟩
theorem Kp.of_below (hb : Below w.heap.size w w') : Kp pb r w w' := ⟨hb.size, fun k hk _ _ => hb.block k hk⟩
theorem Kp.of_set (i : Nat) (u : Value) : Kp pb r w (w.setCell ⟨pb, i, none⟩ u) := ⟨by simp [World.setCell], fun k _ h _ => Below.heap_setCell _ _ _ _ h⟩
theorem Kp.of_grown (hg : w.grownBy w' r) : Kp pb r w w' := ⟨hg.size, fun k hk _ hr => hg.block k hk hr⟩
theorem Kp.trans (h : Kp pb r w w') (k : Kp pb r' w' w'') (hr : r' = r ∨ r' = none ∨ ∃ b, r' = some b ∧ w.heap.size ≤ b) : Kp pb r w w'' :=
  ⟨Nat.le_trans h.size k.size, fun b hb h1 h2 => by
    rw [k.block b (Nat.lt_of_lt_of_le hb h.size) h1 (fun e => by
      rcases hr with hr | hr | ⟨b', hr, hl⟩
      · exact h2 (e.trans hr)
      · rw [hr] at e; cases e
      · rw [hr] at e; injection e with e; omega)]
    exact h.block b hb h1 h2⟩
theorem Kp.trans' {A A' : Option Addr} (h : Kp pb (blk A) w w') (k : Kp pb (blk A') w' w'') (hr : Fresh A' A w.heap.size) : Kp pb (blk A) w w'' := h.trans k hr
theorem OS.kp {xs : List Value} (h : OS w B e size A n c xs) (k : Kp pb r w w') (h1 : some pb ≠ blk A) (h2 : blk A = none ∨ blk A ≠ r) : OS w' B e size A n c xs := by
  refine ⟨h.1, ?_⟩
  rcases h.2 with h3 | ⟨g, cap, cur, hv, hB, hg, q⟩
  · exact .inl h3
  · refine .inr ⟨g, cap, cur, hv, hB, ?_, q⟩
    injection hv with ha
    have hb : blk A = some g := by rw [ha]; rfl
    rw [k.block g (Array.getElem?_eq_some_iff.1 hg).1 (fun e => h1 (by rw [hb, e])) (fun e => by
      rcases h2 with h2 | h2
      · rw [hb] at h2; cases h2
      · exact h2 (by rw [hb]; exact e))]
    exact hg
theorem OI.kp {zs : List Int} (h : OI w B e A n c zs) (k : Kp pb r w w') (h1 : some pb ≠ blk A) (h2 : blk A = none ∨ blk A ≠ r) : OI w' B e A n c zs := ⟨h.os.kp k h1 h2, h.all⟩
end
/-- rows that read so, their headers in a row that a call owns -/
structure BV (w : World) (B : Nat) (A : Option Addr) (n c : Nat) (vs : List Sl) (zss : List (List Int)) : Prop where
  os : OS w B 33 1 A n c (vs.map slv)
  len : vs.length = zss.length
  rows : ∀ (j : Nat) (v : Sl) (z : List Int), vs[j]? = some v → zss[j]? = some z → OI w B 2 v.1 v.2.1 v.2.2 z
section
variable {w w' : World} {B : Nat} {A : Option Addr} {n c : Nat} {vs : List Sl} {zss : List (List Int)}
theorem BV.nil_ (w : World) (B : Nat) : BV w B none 0 0 [] [] := ⟨OS.nil_ _ _ _ _, rfl, fun _ _ _ h => by simp at h⟩
theorem BV.slen (h : BV w B A n c vs zss) : zss.length = n := by have := h.os.len; have := h.len; simp at *; omega
theorem BV.below (h : BV w B A n c vs zss) (hb : Below w.heap.size w w') : BV w' B A n c vs zss := ⟨h.os.below hb, h.len, fun j v z hv hz => (h.rows j v z hv hz).below hb⟩
theorem BV.setLow (h : BV w B A n c vs zss) {p : Addr} (hp : p.block < B) (u : Value) : BV (w.setCell p u) B A n c vs zss := ⟨h.os.setLow hp u, h.len, fun j v z hv hz => (h.rows j v z hv hz).setLow hp u⟩
theorem BV.push (h : BV w B A n c vs zss) {v : Sl} {z : List Int} (ho : OI w B 2 v.1 v.2.1 v.2.2 z) {A' : Option Addr} {c' : Nat} (hg : w.grownBy w' (blk A)) (hos : OS w' B 33 1 A' (n + 1) c' (vs.map slv ++ [.slice v.1 v.2.1 v.2.2])) :
    BV w' B A' (n + 1) c' (vs ++ [v]) (zss ++ [z]) := by
  refine ⟨by simpa [slv] using hos, by simp [h.len], fun j u y hu hy => ?_⟩
  rw [List.getElem?_append] at hu hy
  rw [h.len] at hu
  split at hu
  · rename_i hj
    rw [if_pos hj] at hy
    exact (h.rows j u y hu hy).kept hg (OS.typed (h.rows j u y hu hy).os h.os (by decide))
  · rename_i hj
    rw [if_neg hj] at hy
    have e : j - zss.length = 0 := by
      have := (List.getElem?_eq_some_iff.1 hu).1
      simp at this; omega
    rw [e] at hu hy
    simp at hu hy
    subst hu; subst hy
    exact ho.kept hg (OS.typed ho.os h.os (by decide))
theorem BV.reads (h : BV w B A n c vs zss) : RR w A n zss := by
  refine ⟨h.slen, fun j z hz => ?_⟩
  have hj : j < vs.length := by rw [h.len]; exact (List.getElem?_eq_some_iff.1 hz).1
  have hv := List.getElem?_eq_getElem hj
  obtain ⟨g, ha, hc, hf⟩ := h.os.cell (j := j) (u := slv vs[j]) (by rw [List.getElem?_map, hv]; rfl)
  have ho := h.rows j _ z hv hz
  have hadd : (⟨g, 0, none⟩ : Addr).add j = ⟨g, j, none⟩ := by unfold Addr.add; split <;> simp_all
  refine ⟨⟨g, 0, none⟩, _, ha, by rw [hadd]; exact hc, _, _, _, rfl, ho.os.cap.1, ho.os.cap.2, ho.reads⟩
end
/-- no row lies in this block -/
def Afar (vs : List Sl) (FA : Option Addr) : Prop := ∀ (j : Nat) (v : Sl), vs[j]? = some v → blk v.1 = none ∨ blk v.1 ≠ blk FA
theorem Afar.nil_ (FA : Option Addr) : Afar [] FA := fun _ _ h => by simp at h
theorem Afar.push {vs : List Sl} {FA : Option Addr} (h : Afar vs FA) {v : Sl} (hv : blk v.1 = none ∨ blk v.1 ≠ blk FA) : Afar (vs ++ [v]) FA := fun j u hu => by
  rw [List.getElem?_append] at hu
  split at hu
  · exact h j u hu
  · have := List.mem_of_getElem? hu
    rw [List.mem_singleton.1 this]
    exact hv
theorem far_of_new {w w' : World} {B B' : Nat} {e e' : TypeId} {A A' : Option Addr} {n c n' c' : Nat} {zs ys : List Int} (h : OI w B e A n c zs) (k : OI w' B' e' A' n' c' ys) (hB : w.heap.size ≤ B') : blk A = none ∨ blk A ≠ blk A' := by
  cases hA : blk A with
  | none => exact .inl rfl
  | some b =>
    refine .inr fun e => ?_
    have h1 := h.os.lt hA
    have h2 := k.os.lt e.symm
    omega
theorem far_of_old {w w' : World} {B B' : Nat} {e e' : TypeId} {A A' : Option Addr} {n c n' c' : Nat} {zs ys : List Int} (h : OI w B e A n c zs) (k : OI w' B' e' A' n' c' ys) (hB : w'.heap.size ≤ B) : blk A = none ∨ blk A ≠ blk A' := by
  cases hA : blk A with
  | none => exact .inl rfl
  | some b =>
    refine .inr fun e => ?_
    have h1 := h.os.lt hA
    have h2 := k.os.lt e.symm
    omega
theorem far_none (A : Option Addr) : blk A = none ∨ blk A ≠ blk none := by
  cases A <;> simp [blk]
/-- what a search has found, in memory; its block of state is the first one behind w0 -/
structure SB (w0 w : World) (BA : Option Addr) (bn bc : Nat) (FA : Option Addr) (fn fk : Nat) (FF : Option Addr) (fm fd : Nat) (s : St) : Prop where
  b : Below w0.heap.size w0 w
  lt : w0.heap.size < w.heap.size
  best : ∃ vs, BV w (w0.heap.size + 1) BA bn bc vs s.best ∧ Afar vs FA
  fc : OI w (w0.heap.size + 1) 2 FA fn fk s.fc
  fe : OE w (w0.heap.size + 1) 48 FF fm fd s.fe
  lc : s.fc.length ≤ 4096
  le_ : s.fe.length ≤ 1048576
section
variable {w0 w w' : World} {BA : Option Addr} {bn bc : Nat} {FA : Option Addr} {fn fk : Nat} {FF : Option Addr} {fm fd : Nat} {s s' : St}
theorem SB.step (h : SB w0 w BA bn bc FA fn fk FF fm fd s) (hb : Below w.heap.size w w') : SB w0 w' BA bn bc FA fn fk FF fm fd s :=
  ⟨h.b.trans (hb.mono h.b.size), Nat.lt_of_lt_of_le h.lt hb.size, let ⟨vs, hv, ha⟩ := h.best; ⟨vs, hv.below hb, ha⟩, h.fc.below hb, h.fe.below hb, h.lc, h.le_⟩
theorem SB.set (h : SB w0 w BA bn bc FA fn fk FF fm fd s) (i : Nat) (u : Value) : SB w0 (w.setCell ⟨w0.heap.size, i, none⟩ u) BA bn bc FA fn fk FF fm fd s :=
  ⟨Below.setCell h.b (p := ⟨w0.heap.size, i, none⟩) (Nat.le_refl _) u, by simpa [World.setCell] using h.lt, let ⟨vs, hv, ha⟩ := h.best; ⟨vs, hv.setLow (Nat.lt_succ_self _) u, ha⟩, h.fc.setLow (Nat.lt_succ_self _) u, h.fe.setLow (Nat.lt_succ_self _) u, h.lc, h.le_⟩
theorem SB.re (h : SB w0 w BA bn bc FA fn fk FF fm fd s) (h1 : s'.best = s.best) (h2 : s'.fc = s.fc) (h3 : s'.fe = s.fe) : SB w0 w BA bn bc FA fn fk FF fm fd s' :=
  ⟨h.b, h.lt, by rw [h1]; exact h.best, by rw [h2]; exact h.fc, by rw [h3]; exact h.fe, by rw [h2]; exact h.lc, by rw [h3]; exact h.le_⟩
end
end Go.Proofs.YtncknfhfkmmhbaaGreat
/- The state of the reference's search in memory. No condition beyond those stated. -/
namespace Go.Proofs.YtncknfhfkmmhbaaGreat
open Go.RowKit
end Go.Proofs.YtncknfhfkmmhbaaGreat
