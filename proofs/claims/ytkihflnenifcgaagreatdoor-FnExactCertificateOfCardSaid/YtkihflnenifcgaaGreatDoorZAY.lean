/- Comparing two forms of a graph, both sides. No condition beyond those stated. -/
import Derived.Test.YtkihflnenifcgaaGreatDoorZAX
import Derived.Deep.RegionHeldLaw
import Derived.Test.YtkihflnenifcgaaGreatDoorZAV
import Derived.Test.YtkihflnenifcgaaGreatDoorZAC
import Derived.Deep.QuietTactic
import Derived.BigQuiet
import Derived.Shelf.SlGeneric
import Derived.Shelf.SlSortCmp.Whole1
import Derived.Shelf.SlSortCmp.NoneTotal
import Derived.Ground.SlsfProg
import Derived.Shelf.SlCmpFuncs.BinarySearchFunc
import Derived.Ground.SlsgProg
import Derived.Test.YtkihflnenifcgaaGreatDoorProg
set_option linter.unusedVariables false
set_option linter.unusedSimpArgs false
namespace Go.Proofs.YtkihflnenifcgaaGreatDoor
open Go.RowKit

theorem cmpF_ne {c1 c2 : List Int} {e1 e2 : List Ed} (h : cmpL c1 c2 ≠ 0) : cmpF c1 e1 c2 e2 = cmpL c1 c2 := by rw [cmpF, if_pos h]
theorem cmpF_eq {c1 c2 : List Int} {e1 e2 : List Ed} (h : cmpL c1 c2 = 0) : cmpF c1 e1 c2 e2 = cmpL (flatE e1) (flatE e2) := by rw [cmpF, if_neg (by simp [h])]
theorem flatE_len (es : List Ed) : (flatE es).length = 2 * es.length := by
  induction es with
  | nil => rfl
  | cons e r ih =>
    have : flatE (e :: r) = [e.1, e.2] ++ flatE r := rfl
    rw [this]; simp; omega
set_option maxRecDepth 100000 in
set_option maxHeartbeats 4000000 in
theorem compareForms_any (A : Option Addr) (n c : Nat) (F : Option Addr) (m d : Nat) (cs : List Int) (es : List Ed) (A' : Option Addr) (n' c' : Nat) (F' : Option Addr) (m' d' : Nat) (cs' : List Int) (es' : List Ed) (w : World) (ha : RG w A n F m cs es) (hb : RG w A' n' F' m' cs' es') (hn : n ≤ 4096) (hn' : n' ≤ 4096) (hm : m ≤ 1048576) (hm' : m' ≤ 1048576) :
    Calls Tryz.prog 95 #[.agg #[.slice A n c, .slice F m d], .agg #[.slice A' n' c', .slice F' m' d']] w (fun e w' => e = .returned (.int .i64 (cmpF cs es cs' es')) ∧ Below w.heap.size w w') := by
  have hb1 := below_then (below_alloc w (.cells #[.slice A n c, .slice F m d] 27)) (below_alloc _ (.cells #[.slice A' n' c', .slice F' m' d'] 27))
  have X := (Blk.new w 27 #[.slice A n c, .slice F m d]).alloc (.cells #[.slice A' n' c', .slice F' m' d'] 27)
  have Y : Blk ((w.alloc (.cells #[.slice A n c, .slice F m d] 27)).alloc (.cells #[.slice A' n' c', .slice F' m' d'] 27)) (w.heap.size + 1) 27 #[.slice A' n' c', .slice F' m' d'] := by
    have := Blk.new (w.alloc (.cells #[.slice A n c, .slice F m d] 27)) 27 #[.slice A' n' c', .slice F' m' d']
    simpa using this
  generalize hW : (w.alloc (.cells #[.slice A n c, .slice F m d] 27)).alloc (.cells #[.slice A' n' c', .slice F' m' d'] 27) = W at *
  have haW := ha.keep hb1
  have hbW := hb.keep hb1
  obtain ⟨x0, x1⟩ := X.cells2
  obtain ⟨y0, y1⟩ := Y.cells2
  have hl1 := flatE_len es
  have hl2 := flatE_len es'
  have hle := haW.re.len
  have hle' := hbW.re.len
  have hsc := fun W => slicesCompare_any A A' n n' c c' cs cs' W
  clear X Y
  by_cases h : cmpL cs cs' = 0
  · have HC := Lib.hid (cmpF_eq (e1 := es) (e2 := es') h)
    have h' : (cmpL cs cs' != 0) = false := by simp [h]
    go_enter Tryz.func95, Tryz.ntmps95
    go_wp2_with (go_at_call 98; refine (hsc W haW.ri hbW.ri (by omega) (by omega)).mono ?_; rintro e w2 ⟨rfl, rfl⟩; rw [h])
    have hf1 := fun (W' : World) (hb : Below W.heap.size W W') => flat_any F m d es W' (haW.re.keep hb) hm
    have hf2 := fun (W' : World) (hb : Below W.heap.size W W') => flat_any F' m' d' es' W' (hbW.re.keep hb) hm'
    have HF1 := Lib.hid hf1
    have HF2 := Lib.hid hf2
    clear hf1 hf2 hsc
    have x1' := x1
    have y1' := y1
    clear x0 y0 x1 y1 hW hl1 hl2 hle hle' h' h
    go_region_held_law (fun w' => Below W.heap.size W w' ∧ w'.cell? ⟨w.heap.size, 1, none⟩ = some (.slice F m d) ∧ w'.cell? ⟨w.heap.size + 1, 1, none⟩ = some (.slice F' m' d'))
      (first | exact ⟨below_drewn _ 1, x1', y1'⟩ | exact ⟨by assumption, below_cell (by assumption) x1', below_cell (by assumption) y1'⟩)
      (first
        | (go_at_call 126; (with_reducible refine (HF1.out _ ?_).mono ?_); (exact below_drewn _ 1); rintro e w3 ⟨A3, n3, c3, rfl, ho3, hb3⟩; have hX3 : Below W.heap.size W w3 := (below_drewn _ 1).trans (hb3.mono (Nat.le_refl _)))
        | (go_at_call 126; (with_reducible refine (HF2.out _ ?_).mono ?_); (exact hX3); rintro e w4 ⟨A4, n4, c4, rfl, ho4, hb4⟩; have hX4 : Below W.heap.size W w4 := hX3.trans (hb4.mono hX3.size); have ho3' := ho3.below hb4)
        | (go_at_call 98; (with_reducible refine (slicesCompare_any _ _ _ _ _ _ _ _ _ ho3'.reads ho4.reads ?_ ?_).mono ?_); (have := ho3'.os.cap; omega); (have := ho4.os.cap; omega); rintro e w5 ⟨rfl, rfl⟩))
    go_wp2
    go_ret
    exact ⟨by rw [HC.out]; rfl, hb1.trans (hX4.mono hb1.size)⟩
  · have HC := Lib.hid (cmpF_ne (e1 := es) (e2 := es') h)
    have h' : (cmpL cs cs' != 0) = true := by simp [h]
    clear h
    go_enter Tryz.func95, Tryz.ntmps95
    go_wp2_with (go_at_call 98; refine (hsc W haW.ri hbW.ri (by omega) (by omega)).mono ?_; rintro e w2 ⟨rfl, rfl⟩)
    go_ret
    exact ⟨by rw [HC.out]; rfl, hb1⟩
set_option maxRecDepth 100000 in
set_option maxHeartbeats 4000000 in
theorem l22Compare_any (A : Option Addr) (n c : Nat) (F : Option Addr) (m d : Nat) (cs : List Int) (es : List Ed) (A' : Option Addr) (n' c' : Nat) (F' : Option Addr) (m' d' : Nat) (cs' : List Int) (es' : List Ed) (w : World) (ha : RG w A n F m cs es) (hb : RG w A' n' F' m' cs' es') (hn : n ≤ 4096) (hn' : n' ≤ 4096) (hm : m ≤ 1048576) (hm' : m' ≤ 1048576) :
    Calls Tryz.prog 123 #[.agg #[.slice A n c, .slice F m d], .agg #[.slice A' n' c', .slice F' m' d']] w (fun e w' => e = .returned (.int .i64 (cmpF cs es cs' es')) ∧ Below w.heap.size w w') := by
  have hb1 := below_then (below_alloc w (.cells #[.slice A n c, .slice F m d] 27)) (below_alloc _ (.cells #[.slice A' n' c', .slice F' m' d'] 27))
  have X := (Blk.new w 27 #[.slice A n c, .slice F m d]).alloc (.cells #[.slice A' n' c', .slice F' m' d'] 27)
  have Y : Blk ((w.alloc (.cells #[.slice A n c, .slice F m d] 27)).alloc (.cells #[.slice A' n' c', .slice F' m' d'] 27)) (w.heap.size + 1) 27 #[.slice A' n' c', .slice F' m' d'] := by
    have := Blk.new (w.alloc (.cells #[.slice A n c, .slice F m d] 27)) 27 #[.slice A' n' c', .slice F' m' d']
    simpa using this
  generalize hW : (w.alloc (.cells #[.slice A n c, .slice F m d] 27)).alloc (.cells #[.slice A' n' c', .slice F' m' d'] 27) = W at *
  have haW := ha.keep hb1
  have hbW := hb.keep hb1
  obtain ⟨x0, x1⟩ := X.cells2
  obtain ⟨y0, y1⟩ := Y.cells2
  have hl1 := flatE_len es
  have hl2 := flatE_len es'
  have hle := haW.re.len
  have hle' := hbW.re.len
  have hsc := fun W => compareLists_any A A' n n' c c' cs cs' W
  clear X Y
  by_cases h : cmpL cs cs' = 0
  · have HC := Lib.hid (cmpF_eq (e1 := es) (e2 := es') h)
    have h' : (cmpL cs cs' != 0) = false := by simp [h]
    go_enter Tryz.func123, Tryz.ntmps123
    go_wp2_with (go_at_call 145; refine (hsc W haW.ri hbW.ri (by omega) (by omega)).mono ?_; rintro e w2 ⟨rfl, ⟨q2, rfl⟩⟩; rw [h])
    have hWq : Below W.heap.size W (W.drewN q2) := below_drewn W q2
    generalize hV : W.drewN q2 = V at *
    have x0 := below_cell hWq x0
    have x1 := below_cell hWq x1
    have y0 := below_cell hWq y0
    have y1 := below_cell hWq y1
    have hV1 := hb1.trans (hWq.mono hb1.size)
    have haV := haW.keep hWq
    have hbV := hbW.keep hWq
    have hf1 := fun (W' : World) (hb : Below V.heap.size V W') => l22Flat_any A n c F m d es W' (haV.re.keep hb) hm
    have hf2 := fun (W' : World) (hb : Below V.heap.size V W') => l22Flat_any A' n' c' F' m' d' es' W' (hbV.re.keep hb) hm'
    have HF1 := Lib.hid hf1
    have HF2 := Lib.hid hf2
    clear hf1 hf2 hsc hV hW hWq haW hbW hl1 hl2 hle hle' h' h
    go_region_held_law (fun w' => Below V.heap.size V w' ∧ w'.cell? ⟨w.heap.size, 0, none⟩ = some (.slice A n c) ∧ w'.cell? ⟨w.heap.size, 1, none⟩ = some (.slice F m d) ∧ w'.cell? ⟨w.heap.size + 1, 0, none⟩ = some (.slice A' n' c') ∧ w'.cell? ⟨w.heap.size + 1, 1, none⟩ = some (.slice F' m' d'))
      (first | exact keep4 (below_drewn _ 1) x0 x1 y0 y1 | exact keep4 (by assumption) x0 x1 y0 y1)
      (first
        | (go_at_call 146; (with_reducible refine (HF1.out _ ?_).mono ?_); (exact below_drewn _ 1); rintro e w3 ⟨A3, n3, c3, rfl, ho3, hb3⟩; have hX3 : Below V.heap.size V w3 := (below_drewn _ 1).trans (hb3.mono (Nat.le_refl _)))
        | (go_at_call 146; (with_reducible refine (HF2.out _ ?_).mono ?_); (exact hX3); rintro e w4 ⟨A4, n4, c4, rfl, ho4, hb4⟩; have hX4 : Below V.heap.size V w4 := hX3.trans (hb4.mono hX3.size); have ho3' := ho3.below hb4)
        | (go_at_call 145; (with_reducible refine (compareLists_any _ _ _ _ _ _ _ _ _ ho3'.reads ho4.reads ?_ ?_).mono ?_); (have := ho3'.os.cap; omega); (have := ho4.os.cap; omega); rintro e w5 ⟨rfl, hd5⟩; have hX5 : Below V.heap.size V w5 := hX4.trans (hd5.below.mono hX4.size)))
    go_wp2
    go_ret
    exact ⟨by rw [HC.out]; rfl, hV1.trans (hX5.mono hV1.size)⟩
  · have HC := Lib.hid (cmpF_ne (e1 := es) (e2 := es') h)
    have h' : (cmpL cs cs' != 0) = true := by simp [h]
    clear h
    go_enter Tryz.func123, Tryz.ntmps123
    go_wp2_with (go_at_call 145; refine (hsc W haW.ri hbW.ri (by omega) (by omega)).mono ?_; rintro e w2 ⟨rfl, ⟨q2, rfl⟩⟩)
    go_ret
    exact ⟨by rw [HC.out]; rfl, hb1.trans (below_drewn' _ _ _)⟩
end Go.Proofs.YtkihflnenifcgaaGreatDoor
/- slices.CompactFunc on slices of numbers, in a row that a call owns. No condition beyond those stated. -/
namespace Go.Proofs.YtkihflnenifcgaaGreatDoor
open Go.RowKit

def noneSameR (zs : List (List Int)) (k : Nat) : Prop := ∀ (i : Nat), i + 1 < k → row zs (i + 1) ≠ row zs i
theorem noneSameR_step {zs : List (List Int)} {k : Nat} (h : noneSameR zs k) (hk : 0 < k) (hne : row zs k ≠ row zs (k - 1)) : noneSameR zs (k + 1) := fun i hi => by
  rcases Nat.lt_succ_iff_lt_or_eq.1 hi with h1 | h1
  · exact h i h1
  · have e : i = k - 1 := by omega
    subst e
    rw [show k - 1 + 1 = k by omega]
    exact hne
theorem noneSameR_comp {zs : List (List Int)} (h : noneSameR zs zs.length) : comp zs = zs := comp_same fun k hk => by
  have := h k hk
  rwa [row_get hk, row_get (by omega)] at this
theorem compTR_start {zs : List (List Int)} {k : Nat} (h : noneSameR zs (k + 1)) (hk : k + 1 < zs.length) (he : row zs (k + 1) = row zs k) : CompT zs zs (k + 1) (k + 1 + 1) := by
  rw [row_get hk, row_get (by omega)] at he
  refine CompT.start hk (fun i hi hd => ?_) he
  have := h i (by omega)
  rwa [row_get hd, row_get (by omega)] at this
theorem compTR_same {d z : List (List Int)} {k j : Nat} (h : CompT d z k (j + 1)) (hj : j + 1 < d.length) (he : row d (j + 1) = row d j) : CompT d z k (j + 1 + 1) := by
  rw [row_get hj, row_get (by omega)] at he
  exact h.same hj he
theorem compTR_new {d z : List (List Int)} {k j : Nat} (h : CompT d z k (j + 1)) (hj : j + 1 < d.length) (he : row d (j + 1) ≠ row d j) : CompT d (z.set k (row d (j + 1))) (k + 1) (j + 1 + 1) := by
  rw [row_get hj, row_get (by omega)] at he
  rw [row_get hj]
  exact h.new hj he
/-- what is kept stood in the row before, in that order -/
structure SubT {α : Type} (Z Y : List α) (q j : Nat) : Prop where
  sub : (Y.take q).Sublist (Z.take j)
  rest : ∀ i, j ≤ i + 1 → Y[i]? = Z[i]?
theorem SubT.start {α : Type} (Z : List α) (q j : Nat) (h : q ≤ j) : SubT Z Z q j := ⟨List.take_sublist_take_left h, fun _ _ => rfl⟩
theorem SubT.same {α : Type} {Z Y : List α} {q j : Nat} (h : SubT Z Y q j) : SubT Z Y q (j + 1) := ⟨h.sub.trans (List.take_sublist_take_left (Nat.le_succ j)), fun i hi => h.rest i (by omega)⟩
theorem SubT.new {α : Type} {Z Y : List α} {q j : Nat} {p : α} (h : SubT Z Y q j) (hp : Y[j]? = some p) (hqj : q < j) : SubT Z (Y.set q p) (q + 1) (j + 1) := by
  have hz := (h.rest j (by omega)).symm.trans hp
  obtain ⟨hjl, rfl⟩ := List.getElem?_eq_some_iff.1 hz
  have hyl := (List.getElem?_eq_some_iff.1 hp).1
  refine ⟨?_, fun i hi => ?_⟩
  · rw [List.take_succ_eq_append_getElem (by simp; omega), List.take_set_of_le (by omega), List.take_succ_eq_append_getElem hjl]
    refine List.Sublist.append h.sub ?_
    simp
  · rw [List.getElem?_set_ne (by omega)]
    exact h.rest i (by omega)
theorem SubT.done {α : Type} {Z Y : List α} {q j : Nat} (h : SubT Z Y q j) : (Y.take q).Sublist Z := h.sub.trans (List.take_sublist _ _)
abbrev PL := Sl × List Int
/-- slices in a row of the call's own, what they read as beside them -/
structure PV (w : World) (B : Nat) (e2 : TypeId) (g n c : Nat) (Z : List PL) : Prop where
  os : OS w B e2 1 (some ⟨g, 0, none⟩) n c (Z.map fun p => slv p.1)
  rows : ∀ p ∈ Z, p.1.2.1 ≤ p.1.2.2 ∧ p.1.2.2 ≤ 9223372036854775807 ∧ RI w p.1.1 p.1.2.1 p.2 ∧ blk p.1.1 ≠ some g
section
variable {w w' : World} {B : Nat} {e2 : TypeId} {g n c : Nat} {Z : List PL}
theorem RI.kept {A : Option Addr} {m : Nat} {z : List Int} (h : RI w A m z) (hg : w.grownBy w' (some g)) (hne : blk A ≠ some g) : RI w' A m z :=
  ⟨h.len, fun j x hx => by
    obtain ⟨ad, u, ha, hc, he⟩ := RS.at_ h j x hx
    refine ⟨ad, u, ha, ?_, he⟩
    have hb := block_lt hc
    have hblk : (ad.add j).block ≠ g := fun e => hne (by rw [ha]; simp [blk]; rw [← add_block ad j]; exact e)
    have := hg.block _ hb (by intro e; injection e with e; exact hblk e)
    unfold World.cell? at hc ⊢
    rw [this]
    exact hc⟩
theorem PV.len (h : PV w B e2 g n c Z) : Z.length = n := by have := h.os.len; simpa using this
theorem PV.drewN (h : PV w B e2 g n c Z) (q : Nat) : PV (w.drewN q) B e2 g n c Z := ⟨h.os.drewN q, fun p hp => let ⟨a, b, d, e⟩ := h.rows p hp; ⟨a, b, d.keep (below_drewn w q), e⟩⟩
theorem PV.get (h : PV w B e2 g n c Z) {k : Nat} (hk : k < n) : ∃ p, Z[k]? = some p ∧ w.cell? ⟨g, k, none⟩ = some (.slice p.1.1 p.1.2.1 p.1.2.2) ∧ w.frozen? ⟨g, k, none⟩ = false ∧
    p.1.2.1 ≤ p.1.2.2 ∧ p.1.2.2 ≤ 9223372036854775807 ∧ RI w p.1.1 p.1.2.1 p.2 ∧ p.2 = row (Z.map (·.2)) k := by
  have hl : k < Z.length := by rw [h.len]; exact hk
  have hz := List.getElem?_eq_getElem hl
  obtain ⟨g', e1, hc, hf⟩ := h.os.cell (j := k) (u := slv Z[k].1) (by rw [List.getElem?_map, hz]; rfl)
  injection e1 with e1
  injection e1 with e1
  subst e1
  obtain ⟨a, b, d, _⟩ := h.rows _ (List.getElem_mem hl)
  exact ⟨_, hz, hc, hf, a, b, d, by rw [row_get (by simpa using hl)]; simp⟩
theorem PV.set (h : PV w B e2 g n c Z) (q : Nat) {p : PL} (hp : p ∈ Z) : PV (w.setCell ⟨g, q, none⟩ (.slice p.1.1 p.1.2.1 p.1.2.2)) B e2 g n c (Z.set q p) := by
  refine ⟨?_, fun u hu => ?_⟩
  · have := h.os.set q (slv p.1)
    rwa [show (Z.map fun p => slv p.1).set q (slv p.1) = (Z.set q p).map fun p => slv p.1 by rw [List.map_set]] at this
  · have hu' : u ∈ Z := (List.mem_or_eq_of_mem_set hu).elim id (fun e => e ▸ hp)
    obtain ⟨a, b, d, e⟩ := h.rows u hu'
    exact ⟨a, b, d.kept (grown_set (g := g)) e, e⟩
theorem PV.cut {k : Nat} (h : PV w B e2 g n c Z) (hg : w.grownBy w' (some g)) (ho : OS w' B e2 1 (some ⟨g, 0, none⟩) k c ((Z.map fun p => slv p.1).take k)) : PV w' B e2 g k c (Z.take k) :=
  ⟨by rwa [← List.map_take] at ho, fun p hp => let ⟨a, b, d, e⟩ := h.rows p (List.mem_of_mem_take hp); ⟨a, b, d.kept hg e, e⟩⟩
end
set_option maxRecDepth 100000 in
set_option maxHeartbeats 2000000 in
theorem compactR_sub (B g n c : Nat) (Z : List PL) (w : World) (ho : PV w B 24 g n c Z) (hn : n ≤ 1048576) (hgl : g < w.heap.size) :
    Calls Tryz.prog 99 #[.slice (some ⟨g, 0, none⟩) n c, .func (.func 26) #[] #[]] w (fun e w' => ∃ m Y, e = .returned (.slice (some ⟨g, 0, none⟩) m c) ∧ PV w' B 24 g m c Y ∧ Y.map (·.2) = comp (Z.map (·.2)) ∧ Y.Sublist Z ∧ w.grownBy w' (some g)) := by
  have hlen := ho.len
  generalize hD : Z.map (·.2) = D at *
  have hla := Lib.hid (show D.length = n by rw [← hD, List.length_map]; exact hlen)
  have HD := Lib.hid hD
  clear hD
  have hcap := ho.os.cap
  have hz0 : ∀ w, (zeroValue 24).run Tryz.prog w = .ok (.slice none 0 0) w := fun _ => by kernel_rfl
  by_cases h2 : n < 2
  · have HC := Lib.hid (comp_short (l := D) (by rw [hla.out]; exact h2))
    clear hz0
    go_enter Tryz.func99, Tryz.ntmps99
    go_wp2
    go_ret
    exact ⟨n, Z, rfl, ho, by rw [HC.out, HD.out], List.Sublist.refl _, World.grownBy.refl _ _⟩
  · go_enter Tryz.func99, Tryz.ntmps99
    go_wp2
    go_loopw [5] (fun i wr => ∃ k : Nat, k + 1 ≤ n ∧ i = .int .i64 ((k : Int) + 1) ∧ Drawn w wr ∧ noneSameR D (k + 1)) (fun i _ => n - (intOf i).toNat)
    case atStart => exact ⟨0, by omega, rfl, Drawn.refl _, fun i hi => by omega⟩
    case round =>
      obtain ⟨k, hk, rfl, hd, hs⟩ := hrel
      have hod : PV wr B 24 g n c Z := by obtain ⟨q, rfl⟩ := hd; exact ho.drewN q
      by_cases hlt : k + 1 < n
      · have hlt2 : decide ((k : Int) + 1 < (n : Int)) = true := by simp; omega
        obtain ⟨⟨⟨A1, n1, c1⟩, z1⟩, hm1, hc1, hf1, ha1, hb1, hr1, he1⟩ := hod.get (k := k + 1) hlt
        obtain ⟨⟨⟨A0, n0, c0⟩, z0⟩, hm0, hc0, hf0, ha0, hb0, hr0, he0⟩ := hod.get (k := k) (by omega)
        rw [HD.out] at he1 he0
        simp only at hc1 ha1 hb1 hr1 he1 hc0 ha0 hb0 hr0 he0
        have hcmp := fun q => slicesEqual_any A1 A0 n1 n0 c1 c0 z1 z0 (wr.drewN q) (hr1.drewN q) (hr0.drewN q) (by omega) (by omega)
        by_cases he : z1 = z0
        · have HT := Lib.hid (compTR_start hs (by rw [hla.out]; exact hlt) (by rw [← he1, ← he0, he]))
          have he' : decide (z1 = z0) = true := by simp [he]
          have hg0 : w.grownBy wr (some g) := by obtain ⟨q, rfl⟩ := hd; exact ⟨rfl, rfl, rfl, Nat.le_refl _, fun _ _ _ => rfl⟩
          rw [he'] at hcmp
          clear he hs he'
          go_wp2
          go_quiet ((go_at_call 26; exact Quiet.call (hcmp _)))
          go_wp2
          have hod2 : PV (wr.drewN nq) B 24 g n c Z := hod.drewN nq
          have hg2 : w.grownBy (wr.drewN nq) (some g) := ⟨hg0.os, hg0.tape, hg0.output, hg0.size, hg0.block⟩
          clear hod hg0 hc1 hc0 hf1 hf0 hcmp hr1 hr0 hm1 hm0 he1 he0 ha1 ha0 hb1 hb0
          generalize wr.drewN nq = wv at *
          clear hd
          go_loopw [5, 7] (fun t i w2 => ∃ (q j : Nat) (Y : List PL), t = .int .i64 q ∧ i = .int .i64 ((j : Int) + 1) ∧ k + 1 + (j + 1) ≤ n ∧ CompT D (Y.map (·.2)) q (k + 1 + (j + 1)) ∧ SubT Z Y q (k + 1 + (j + 1)) ∧ PV w2 B 24 g n c Y ∧ w.grownBy w2 (some g)) (fun _ i _ => n - (intOf i).toNat)
          case atStart => exact ⟨k + 1, 0, Z, rfl, rfl, by omega, by rw [HD.out]; exact HT.out, SubT.start _ _ _ (by omega), hod2, hg2⟩
          case round =>
            clear hod2 hg2
            obtain ⟨q, j, Y, rfl, rfl, hjn, hT, hSub, hoz, hgz⟩ := hrel
            have hSub := Lib.hid hSub
            have hqj := hT.kj
            by_cases hjl : k + 1 + (j + 1) < n
            · have hjl2 : decide ((j : Int) + 1 < ((n - (k + 1) : Nat) : Int)) = true := by simp; omega
              obtain ⟨⟨⟨A1, n1, c1⟩, z1⟩, hm1, hc1, hf1, ha1, hb1, hr1, he1⟩ := hoz.get (k := k + 1 + (j + 1)) hjl
              obtain ⟨⟨⟨A0, n0, c0⟩, z0⟩, hm0, hc0, hf0, ha0, hb0, hr0, he0⟩ := hoz.get (k := k + 1 + j) (by omega)
              obtain ⟨pq, hmq, hcq, hfq, _⟩ := hoz.get (k := q) (by omega)
              rw [show row (Y.map (·.2)) (k + 1 + (j + 1)) = row D (k + 1 + (j + 1)) by unfold row List.getD; rw [hT.rest _ (by omega)]] at he1
              rw [show row (Y.map (·.2)) (k + 1 + j) = row D (k + 1 + j) by unfold row List.getD; rw [hT.rest _ (by omega)]] at he0
              simp only at hc1 ha1 hb1 hr1 he1 hc0 ha0 hb0 hr0 he0
              have hcmp := fun t => slicesEqual_any A1 A0 n1 n0 c1 c0 z1 z0 (wr.drewN t) (hr1.drewN t) (hr0.drewN t) (by omega) (by omega)
              by_cases he : z1 = z0
              · have HT2 := Lib.hid (compTR_same (j := k + 1 + j) hT (by rw [hla.out]; exact hjl) (by rw [show k + 1 + j + 1 = k + 1 + (j + 1) by omega, ← he1, ← he0, he]))
                have he' : decide (z1 = z0) = true := by simp [he]
                rw [he'] at hcmp
                have HO := Lib.hid (fun t => hoz.drewN t : ∀ t, PV (wr.drewN t) B 24 g n c Y)
                clear he he' hT hoz hcq hfq hm1 hm0 hmq he1 he0
                go_wp2
                go_quiet ((go_at_call 26; exact Quiet.call (hcmp _)))
                go_wp2
                have ho3 := HO.out nq
                have hg3 : w.grownBy (wr.drewN nq) (some g) := ⟨hgz.os, hgz.tape, hgz.output, hgz.size, hgz.block⟩
                go_roundw
                case rel => exact ⟨q, j + 1, Y, rfl, by go_num, by omega, HT2.out, hSub.out.same, ho3, hg3⟩
                case measure => simp [intOf]; omega
              · have HT2 := Lib.hid (compTR_new (j := k + 1 + j) hT (by rw [hla.out]; exact hjl) (by rw [show k + 1 + j + 1 = k + 1 + (j + 1) by omega, ← he1, ← he0]; exact he))
                have he' : decide (z1 = z0) = false := by simp [he]
                rw [he'] at hcmp
                have HO := Lib.hid (fun t => (hoz.drewN t).set q (List.mem_of_getElem? hm1) : ∀ t, PV ((wr.drewN t).setCell ⟨g, q, none⟩ (.slice A1 n1 c1)) B 24 g n c (Y.set q ((A1, n1, c1), z1)))
                have hSub2 := Lib.hid (hSub.out.new hm1 (by omega))
                have HM := Lib.hid (show (Y.set q ((A1, n1, c1), z1)).map (·.2) = (Y.map (·.2)).set q (row D (k + 1 + (j + 1))) by rw [List.map_set, ← he1])
                clear he he' hT hoz hm1 hm0 hmq he1 he0
                go_wp2
                go_quiet ((go_at_call 26; exact Quiet.call (hcmp _)))
                go_wp2
                have ho3 := HO.out nq
                have hg3 : w.grownBy ((wr.drewN nq).setCell ⟨g, q, none⟩ (.slice A1 n1 c1)) (some g) := (show w.grownBy (wr.drewN nq) (some g) from ⟨hgz.os, hgz.tape, hgz.output, hgz.size, hgz.block⟩).trans grown_set
                go_roundw
                case rel => exact ⟨q + 1, j + 1, _, by go_num, by go_num, by omega, by rw [HM.out]; exact HT2.out, hSub2.out, ho3, hg3⟩
                case measure => simp [intOf]; omega
            · have hend := CompT.done (k := q) (by rw [hla.out]; rwa [show k + 1 + (j + 1) = n by omega] at hT)
              have HE := Lib.hid hend
              have hq : q < n := by omega
              clear hT hend
              go_wp2_with (refine wpList_clear _ rfl (.tmp 61) 54 rfl 24 (.slice none 0 0) Tryz.underlying54 hz0 rfl rfl B g q n (n - q) c (c - q) _ hoz.os rfl (by omega) (by omega) ?_; intro w5 ho5 hg5)
              have ho6 := hoz.cut hg5 ho5
              go_wp2
              go_ret
              exact ⟨q, _, rfl, ho6, by rw [List.map_take]; exact HE.out.1, hSub.out.done, hgz.trans hg5⟩
        · have HS := Lib.hid (noneSameR_step (k := k + 1) hs (by omega) (by rw [show k + 1 - 1 = k by omega, ← he1, ← he0]; exact he))
          have he' : decide (z1 = z0) = false := by simp [he]
          rw [he'] at hcmp
          clear he hs he'
          go_wp2
          go_quiet ((go_at_call 26; exact Quiet.call (hcmp _)))
          go_wp2
          go_roundw
          case rel => exact ⟨k + 1, by omega, by go_num, hd.more _, HS.out⟩
          case measure => simp [intOf]; omega
      · have HC := Lib.hid (noneSameR_comp (zs := D) (by rw [hla.out, show n = k + 1 by omega]; exact hs))
        have hg0 : w.grownBy wr (some g) := by obtain ⟨q, rfl⟩ := hd; exact ⟨rfl, rfl, rfl, Nat.le_refl _, fun _ _ _ => rfl⟩
        clear hs
        go_wp2
        go_ret
        exact ⟨n, Z, rfl, hod, by rw [HC.out, HD.out], List.Sublist.refl _, hg0⟩
theorem compactR_any (B g n c : Nat) (Z : List PL) (w : World) (ho : PV w B 24 g n c Z) (hn : n ≤ 1048576) (hgl : g < w.heap.size) :
    Calls Tryz.prog 99 #[.slice (some ⟨g, 0, none⟩) n c, .func (.func 26) #[] #[]] w (fun e w' => ∃ m Y, e = .returned (.slice (some ⟨g, 0, none⟩) m c) ∧ PV w' B 24 g m c Y ∧ Y.map (·.2) = comp (Z.map (·.2)) ∧ w.grownBy w' (some g)) :=
  (compactR_sub B g n c Z w ho hn hgl).mono fun _ _ ⟨m, Y, h1, h2, h3, _, h5⟩ => ⟨m, Y, h1, h2, h3, h5⟩
end Go.Proofs.YtkihflnenifcgaaGreatDoor
/-
  DERIVED: THE SHELF's CONTRACTS AT THIS DUMP, IN PLAIN WORDS (tools/lay-plain.mjs out of 'YtkihflnenifcgaaGreatDoorLay2X.lean', which tools/lay-shelf.mjs wrote): THE SAME DECLARATIONS UNDER THE SAME NAMES: 'import', 'namespace', 'open', 'def', 'theorem' AND NOTHING ELSE: no command of the shelf's: FOR A HAND-IN. Each laying: the table of numbers ('.._ren') and one theorem, a field a fact of the dump's own or the kernel's comparison; each contract: ONE APPLICATION.
-/
namespace Go.Proofs
open Go.Shelf
def Tryz.srfL_ren : Go.Shelf.Ren := ⟨fun | 6 => 97 | 15 => 81 | 14 => 127 | 28 => 112 | 29 => 113 | 20 => 150 | 21 => 151 | 22 => 152 | 23 => 153 | 24 => 154 | 25 => 155 | 26 => 156 | 27 => 157 | 46 => 164 | 47 => 129 | 48 => 130 | 49 => 165 | 50 => 166 | 57 => 168 | n => n, fun | 22 => 54 | 24 => 24 | 25 => 127 | 3 => 3 | 39 => 119 | 0 => 0 | 53 => 141 | 55 => 79 | 4 => 4 | 46 => 134 | 45 => 133 | 50 => 129 | 5 => 5 | 9 => 9 | 66 => 155 | 70 => 159 | 76 => 180 | 77 => 181 | n => n, fun | n => n⟩
theorem Tryz.srfL : Go.Proofs.SlLaysF.n6 Tryz.prog Tryz.srfL_ren := {
  mixed := by kernel_rfl
  f6 := ⟨Tryz.f97.name, by decide, Tryz.func97.trans (congrArg some (by kernel_rfl))⟩
  f14 := ⟨Tryz.f127.name, by decide, Tryz.func127.trans (congrArg some (by kernel_rfl))⟩
  f15 := Tryz.func81.trans (congrArg some (by kernel_rfl))
  f20 := ⟨Tryz.f150.name, by decide, Tryz.func150.trans (congrArg some (by kernel_rfl))⟩
  f21 := ⟨Tryz.f151.name, by decide, Tryz.func151.trans (congrArg some (by kernel_rfl))⟩
  f22 := ⟨Tryz.f152.name, by decide, Tryz.func152.trans (congrArg some (by kernel_rfl))⟩
  f23 := ⟨Tryz.f153.name, by decide, Tryz.func153.trans (congrArg some (by kernel_rfl))⟩
  f24 := ⟨Tryz.f154.name, by decide, Tryz.func154.trans (congrArg some (by kernel_rfl))⟩
  f25 := ⟨Tryz.f155.name, by decide, Tryz.func155.trans (congrArg some (by kernel_rfl))⟩
  f26 := ⟨Tryz.f156.name, by decide, Tryz.func156.trans (congrArg some (by kernel_rfl))⟩
  f27 := ⟨Tryz.f157.name, by decide, Tryz.func157.trans (congrArg some (by kernel_rfl))⟩
  f28 := Tryz.func112.trans (congrArg some (by kernel_rfl))
  f29 := Tryz.func113.trans (congrArg some (by kernel_rfl))
  f46 := ⟨Tryz.f164.name, by decide, Tryz.func164.trans (congrArg some (by kernel_rfl))⟩
  f47 := Tryz.func129.trans (congrArg some (by kernel_rfl))
  f48 := Tryz.func130.trans (congrArg some (by kernel_rfl))
  f49 := ⟨Tryz.f165.name, by decide, Tryz.func165.trans (congrArg some (by kernel_rfl))⟩
  f50 := ⟨Tryz.f166.name, by decide, Tryz.func166.trans (congrArg some (by kernel_rfl))⟩
  f57 := ⟨Tryz.f168.name, by decide, Tryz.func168.trans (congrArg some (by kernel_rfl))⟩
  t0 := Tryz.underlying0
  a0 := Tryz.isAgg0
  z0 := Tryz.sizeOf0
  v0 := Tryz.zeroValue0
  t3 := Tryz.underlying3
  a3 := Tryz.isAgg3
  z3 := Tryz.sizeOf3
  v3 := Tryz.zeroValue3
  t4 := Tryz.underlying4
  a4 := Tryz.isAgg4
  z4 := Tryz.sizeOf4
  v4 := Tryz.zeroValue4
  t5 := Tryz.underlying5
  a5 := Tryz.isAgg5
  z5 := Tryz.sizeOf5
  v5 := Tryz.zeroValue5
  t9 := Tryz.underlying9
  a9 := Tryz.isAgg9
  z9 := Tryz.sizeOf9
  v9 := Tryz.zeroValue9
  t22 := Tryz.underlying54
  a22 := Tryz.isAgg54
  z22 := Tryz.sizeOf54
  v22 := Tryz.zeroValue54
  a24 := Tryz.isAgg24
  z24 := Tryz.sizeOf24
  t25 := Tryz.underlying127
  a25 := Tryz.isAgg127
  z25 := Tryz.sizeOf127
  v25 := Tryz.zeroValue127
  t39 := Tryz.underlying119
  a39 := Tryz.isAgg119
  z39 := Tryz.sizeOf119
  v39 := Tryz.zeroValue119
  t45 := Tryz.underlying133
  a45 := Tryz.isAgg133
  z45 := Tryz.sizeOf133
  v45 := Tryz.zeroValue133
  t46 := Tryz.underlying134
  a46 := Tryz.isAgg134
  z46 := Tryz.sizeOf134
  v46 := Tryz.zeroValue134
  t50 := Tryz.underlying129
  a50 := Tryz.isAgg129
  z50 := Tryz.sizeOf129
  v50 := Tryz.zeroValue129
  t53 := Tryz.underlying141
  a53 := Tryz.isAgg141
  z53 := Tryz.sizeOf141
  v53 := Tryz.zeroValue141
  t55 := Tryz.underlying79
  a55 := Tryz.isAgg79
  z55 := Tryz.sizeOf79
  v55 := Tryz.zeroValue79
  t66 := Tryz.underlying155
  a66 := Tryz.isAgg155
  z66 := Tryz.sizeOf155
  v66 := Tryz.zeroValue155
  t70 := Tryz.underlying159
  a70 := Tryz.isAgg159
  z70 := Tryz.sizeOf159
  v70 := Tryz.zeroValue159
  t76 := Tryz.underlying180
  a76 := Tryz.isAgg180
  z76 := Tryz.sizeOf180
  v76 := Tryz.zeroValue180
  t77 := Tryz.underlying181
  a77 := Tryz.isAgg181
  z77 := Tryz.sizeOf181
  v77 := Tryz.zeroValue181 }
def Tryz.bsfL_ren : Go.Shelf.Ren := ⟨fun | 14 => 100 | n => n, fun | 22 => 54 | 24 => 24 | 29 => 24 | 32 => 127 | 3 => 3 | 4 => 4 | 35 => 119 | 0 => 0 | n => n, fun | n => n⟩
theorem Tryz.bsfL : Go.Proofs.SlLaysG2.n14 Tryz.prog Tryz.bsfL_ren := {
  mixed := by kernel_rfl
  f14 := ⟨Tryz.f100.name, by decide, Tryz.func100.trans (congrArg some (by kernel_rfl))⟩
  t0 := Tryz.underlying0
  a0 := Tryz.isAgg0
  z0 := Tryz.sizeOf0
  v0 := Tryz.zeroValue0
  t3 := Tryz.underlying3
  a3 := Tryz.isAgg3
  z3 := Tryz.sizeOf3
  v3 := Tryz.zeroValue3
  t4 := Tryz.underlying4
  a4 := Tryz.isAgg4
  z4 := Tryz.sizeOf4
  v4 := Tryz.zeroValue4
  t22 := Tryz.underlying54
  a22 := Tryz.isAgg54
  z22 := Tryz.sizeOf54
  v22 := Tryz.zeroValue54
  a24 := Tryz.isAgg24
  z24 := Tryz.sizeOf24
  a29 := Tryz.isAgg24
  z29 := Tryz.sizeOf24
  t32 := Tryz.underlying127
  a32 := Tryz.isAgg127
  z32 := Tryz.sizeOf127
  v32 := Tryz.zeroValue127
  t35 := Tryz.underlying119
  a35 := Tryz.isAgg119
  z35 := Tryz.sizeOf119
  v35 := Tryz.zeroValue119 }
end Go.Proofs
