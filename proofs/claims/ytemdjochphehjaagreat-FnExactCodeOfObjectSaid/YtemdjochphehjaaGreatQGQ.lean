/- slices.SortFunc by slices.Compare, on slices of numbers in a row that a call owns. No condition beyond those stated. -/
import Derived.Test.YtemdjochphehjaaGreatQGK
import Derived.Test.YtemdjochphehjaaGreatQGC
import Derived.Test.YtemdjochphehjaaGreatQGG
import Derived.Test.YtemdjochphehjaaGreatQGH
import Derived.Sort.OwnSortedInts
set_option linter.unusedVariables false
set_option linter.unusedSimpArgs false
namespace Go.Proofs.YtemdjochphehjaaGreat
open Go.RowKit Go.Sort

section
variable {α : Type} [Inhabited α] {enc : α → Value} {w : World} {B : Nat} {e : TypeId} {g n c : Nat} {l ts : List α}
theorem holds_of_os (h : OS w B e 1 (some ⟨g, 0, none⟩) n c (l.map enc)) : Holds enc w g 0 l.toArray := fun j hj => by
  have hj' : j < l.length := by simpa using hj
  obtain ⟨g', e1, hc, hf⟩ := h.cell (j := j) (u := enc l[j]) (by simp [hj'])
  injection e1 with e1
  injection e1 with e1
  subst e1
  rw [Nat.zero_add]
  exact ⟨by rw [hc]; simp [hj'], hf⟩
theorem grownBy_sorted {m : Nat} {os : Array Obj} (d : Array α) : w.grownBy (sortWorld enc w g 0 m d os) (some g) := by
  refine ⟨rfl, rfl, rfl, by simp [sortWorld, grow, putRow, mapBlock, Sort.ahead], fun k hk hne => ?_⟩
  unfold sortWorld
  rw [heap_grow_old _ _ (by simpa [putRow, mapBlock, Sort.ahead] using hk)]
  have : g ≠ k := fun e => hne (by rw [e])
  simp [putRow, mapBlock, Sort.ahead, Array.getElem?_modify, this]
theorem os_sorted {m : Nat} {os : Array Obj} (h : OS w B e 1 (some ⟨g, 0, none⟩) n c (l.map enc)) (hl : ts.length = l.length) : OS (sortWorld enc w g 0 m ts.toArray os) B e 1 (some ⟨g, 0, none⟩) n c (ts.map enc) := by
  have hlen := h.len
  simp at hlen
  rcases h.cases with ⟨h0, _⟩ | ⟨g', cur, h0, hB, hg, hnc, hc, hs, ht⟩
  · cases h0
  · injection h0 with h0
    injection h0 with h0
    subst h0
    have hgl : g < w.heap.size := (Array.getElem?_eq_some_iff.1 hg).1
    have hblk : (sortWorld enc w g 0 m ts.toArray os).heap[g]? = some (.cells (putCells enc 0 ts.toArray cur) e (0, 0)) := by
      unfold sortWorld
      rw [heap_grow_old _ _ (by simpa [putRow, mapBlock, Sort.ahead] using hgl)]
      simp [putRow, mapBlock, Sort.ahead, Array.getElem?_modify, hg, onCells]
    refine ⟨by simp [hl, hlen], .inr ⟨g, c, _, rfl, hB, hblk, hnc, hc, by simp [putCells, hs], ?_⟩⟩
    rw [Nat.mul_one] at hs ⊢
    apply List.ext_getElem?
    intro j
    by_cases hj : j < n
    · rw [List.getElem?_take_of_lt hj, Array.getElem?_toList]
      simp [putCells, show j < ts.length by omega, show j < cur.size by omega]
    · rw [List.getElem?_take_eq_none (by omega), List.getElem?_eq_none (by simp; omega)]
end
/-- a slice that reads as the list beside it, apart from block g -/
def Reads (w : World) (g : Nat) (p : PL) : Prop := p.1.2.1 ≤ p.1.2.2 ∧ p.1.2.2 ≤ 9223372036854775807 ∧ RI w p.1.1 p.1.2.1 p.2 ∧ blk p.1.1 ≠ some g
abbrev RP (w : World) (g : Nat) := { p : PL // Reads w g p }
instance (w : World) (g : Nat) : Inhabited (RP w g) := ⟨⟨((none, 0, 0), []), Nat.le_refl _, by simp, RS.nil_ _ _ _, by simp [blk]⟩⟩
def encR {w : World} {g : Nat} (p : RP w g) : Value := slv p.1.1
def cmpR {w : World} {g : Nat} (x y : RP w g) : Int := cmpL x.1.2 y.1.2
theorem attach_map {w : World} {g : Nat} (Z : List PL) (h : ∀ p ∈ Z, Reads w g p) : ∃ l : List (RP w g), l.map (·.1) = Z := by
  induction Z with
  | nil => exact ⟨[], rfl⟩
  | cons p r ih =>
    obtain ⟨l, hl⟩ := ih fun q hq => h q (List.mem_cons_of_mem _ hq)
    exact ⟨⟨p, h p List.mem_cons_self⟩ :: l, by simp [hl]⟩
theorem ltR {w : World} {g : Nat} (x y : RP w g) : ltOf cmpR x y = decide (cmpL x.1.2 y.1.2 < 0) := rfl
theorem swoR (w : World) (g : Nat) : SWO (ltOf (cmpR (w := w) (g := g))) where
  irrefl := fun x => by rw [ltR, cmpL_refl]; rfl
  trans := fun x y z h1 h2 => by
    rw [ltR, decide_eq_true_iff] at *
    exact cmpL_ord.lt_trans h1 h2
  ntrans := fun x y z h1 h2 => by
    rw [ltR, decide_eq_false_iff_not] at *
    have a := cmpL_swap x.1.2 y.1.2
    have b := cmpL_swap y.1.2 z.1.2
    have c := cmpL_swap x.1.2 z.1.2
    have := cmpL_trans (xs := z.1.2) (ys := y.1.2) (zs := x.1.2) (by omega) (by omega)
    omega
theorem cmpLaysR (w : World) (g n : Nat) : CmpLays1 Tryz.prog 120 #[] (encR (w := w) (g := g)) cmpR g 0 n w := by
  intro m os dk _ x y
  obtain ⟨⟨⟨A1, n1, c1⟩, z1⟩, h1, h2, h3, h4⟩ := x
  obtain ⟨⟨⟨A0, n0, c0⟩, z0⟩, k1, k2, k3, k4⟩ := y
  simp only at h1 h2 h3 h4 k1 k2 k3 k4
  have hg := grownBy_sorted (enc := encR (w := w) (g := g)) (w := w) (g := g) (m := m) (os := os) dk
  refine (slicesCompare_any A1 A0 n1 n0 c1 c0 z1 z0 _ (h3.kept hg h4) (k3.kept hg k4) (by omega) (by omega)).mono ?_
  rintro e w' ⟨he, rfl⟩
  exact ⟨he, 0, #[], by rw [grow_empty]; rfl⟩
set_option maxHeartbeats 1000000 in
theorem sortR_own (B g n c : Nat) (Z : List PL) (w : World) (ho : PV w B 22 g n c Z) (hn : n ≤ 1048576) (hgl : g < w.heap.size) :
    Calls Tryz.prog 205 #[.slice (some ⟨g, 0, none⟩) n c, .func (.func 120) #[] #[]] w (fun e w' => ∃ Y, e = .returned (.tuple #[]) ∧ PV w' B 22 g n c Y ∧ Y.Perm Z ∧ SortedL cmpL (Y.map (·.2)) ∧ w.grownBy w' (some g)) := by
  obtain ⟨l, hl⟩ := attach_map (w := w) (g := g) Z ho.rows
  have hlen := ho.len
  have hll : l.length = n := by rw [← hlen, ← hl, List.length_map]
  have hos : OS w B 22 1 (some ⟨g, 0, none⟩) n c (l.map encR) := by
    have := ho.os
    rw [← hl, List.map_map] at this
    exact this
  have hH := holds_of_os hos
  have eg : ∀ (args : Array Value) (w : World), (callFunc 120 args).run Tryz.prog w = .ok (.enter 120 args) w := fun _ _ => by kernel_rfl
  have hs : l.toArray.size = n := by simpa using hll
  have hcall := Any.slices_SortFunc Tryz.srfL (encR (w := w) (g := g)) (fun x => rfl) cmpR (swoR w g) 120 #[] g 0 c l.toArray w eg (by rw [hs]; exact cmpLaysR w g n) hH hgl (by rw [hs]; omega)
  rw [hs] at hcall
  refine hcall.mono ?_
  rintro e w' ⟨he, d', m, os, hp, hsd, rfl⟩
  obtain ⟨hp1, hp2, hp3⟩ := hp
  have hd : d'.size = n := by rw [hp1, hs]
  have hperm : d'.toList.Perm l := by
    have e1 : (d'.extract 0 n).toList = d'.toList := by
      rw [show d'.extract 0 n = d' by rw [← hd]; simp]
    have e2 : (l.toArray.extract 0 n).toList = l := by
      rw [show l.toArray.extract 0 n = l.toArray by rw [← hs]; simp]
    rwa [e1, e2] at hp3
  have hg := grownBy_sorted (enc := encR (w := w) (g := g)) (w := w) (g := g) (m := m) (os := os) d'
  refine ⟨d'.toList.map (·.1), he, ⟨?_, fun p hp => ?_⟩, ?_, ?_, hg⟩
  · have := os_sorted (m := m) (os := os) hos (ts := d'.toList) (by rw [hperm.length_eq])
    rw [List.map_map]
    exact this
  · obtain ⟨q, hq, rfl⟩ := List.mem_map.1 hp
    obtain ⟨a, b, c', d⟩ := q.2
    exact ⟨a, b, c'.kept hg d, d⟩
  · rw [← hl]
    exact hperm.map _
  · rw [List.map_map, SortedL, List.pairwise_map, List.pairwise_iff_getElem]
    intro i j hi hj hij
    have h1 := hsd i j (Nat.zero_le _) hij (by simpa [hd] using hj)
    have hi' : i < d'.size := by simpa using hi
    have hj' : j < d'.size := by simpa using hj
    rw [getElem!_pos d' i hi', getElem!_pos d' j hj', ltR, decide_eq_false_iff_not] at h1
    have := cmpL_swap (d'[j].1.2) (d'[i].1.2)
    simp only [Function.comp, Array.getElem_toList]
    omega
end Go.Proofs.YtemdjochphehjaaGreat
