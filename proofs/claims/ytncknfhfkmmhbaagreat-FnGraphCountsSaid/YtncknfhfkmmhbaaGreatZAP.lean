/- slices.SortFunc by slices.Compare, on slices of numbers in a row that a call owns. No condition beyond those stated. -/
import Derived.Test.YtncknfhfkmmhbaaGreatZAO
import Derived.Test.YtncknfhfkmmhbaaGreatZAH
import Derived.Test.YtncknfhfkmmhbaaGreatZAN
import Derived.Sort.OwnSortedInts
import Derived.Test.YtncknfhfkmmhbaaGreatZAF
import Derived.Shelf.SlGeneric
import Derived.Shelf.SlSortCmp.WholeK
import Derived.Shelf.SlSortCmp.NoneTotal
import Derived.Ground.SlsfProg
import Derived.Test.YtncknfhfkmmhbaaGreatProg
import Derived.Shelf.SortM.Plain
import Derived.Shelf.SortM.SortNone
import Derived.Ground.SlgmProg
import Derived.Test.YtncknfhfkmmhbaaGreatZAG
import Derived.Test.YtncknfhfkmmhbaaGreatZAA
set_option linter.unusedVariables false
set_option linter.unusedSimpArgs false
namespace Go.Proofs.YtncknfhfkmmhbaaGreat
open Go.RowKit Go.Sort

section
variable {α : Type} [Inhabited α] {enc : α → Value} {w : World} {B : Nat} {e : TypeId} {g n c : Nat} {l ts : List α}
theorem holds_of_os (h : OS w B e 1 (some ⟨g, 0, none⟩) n c (l.map enc)) : Holds enc w g 0 l.toArray := fun j hj => by
  have hj' : j < l.length := by simpa using hj
  obtain ⟨g', e1, hc, hf⟩ := h.cell (j := j) (u := enc l[j]) (by simp [hj'])
  injection e1 with e1
  injection e1 with e1
  subst e1
  rw [Nat.zero_add]
  exact ⟨by rw [hc]; simp [hj'], hf⟩
theorem grownBy_sorted {m : Nat} {os : Array Obj} (d : Array α) : w.grownBy (sortWorld enc w g 0 m d os) (some g) := by
  refine ⟨rfl, rfl, rfl, by simp [sortWorld, grow, putRow, mapBlock, Sort.ahead], fun k hk hne => ?_⟩
  unfold sortWorld
  rw [heap_grow_old _ _ (by simpa [putRow, mapBlock, Sort.ahead] using hk)]
  have : g ≠ k := fun e => hne (by rw [e])
  simp [putRow, mapBlock, Sort.ahead, Array.getElem?_modify, this]
theorem os_sorted {m : Nat} {os : Array Obj} (h : OS w B e 1 (some ⟨g, 0, none⟩) n c (l.map enc)) (hl : ts.length = l.length) : OS (sortWorld enc w g 0 m ts.toArray os) B e 1 (some ⟨g, 0, none⟩) n c (ts.map enc) := by
  have hlen := h.len
  simp at hlen
  rcases h.cases with ⟨h0, _⟩ | ⟨g', cur, h0, hB, hg, hnc, hc, hs, ht⟩
  · cases h0
  · injection h0 with h0
    injection h0 with h0
    subst h0
    have hgl : g < w.heap.size := (Array.getElem?_eq_some_iff.1 hg).1
    have hblk : (sortWorld enc w g 0 m ts.toArray os).heap[g]? = some (.cells (putCells enc 0 ts.toArray cur) e (0, 0)) := by
      unfold sortWorld
      rw [heap_grow_old _ _ (by simpa [putRow, mapBlock, Sort.ahead] using hgl)]
      simp [putRow, mapBlock, Sort.ahead, Array.getElem?_modify, hg, onCells]
    refine ⟨by simp [hl, hlen], .inr ⟨g, c, _, rfl, hB, hblk, hnc, hc, by simp [putCells, hs], ?_⟩⟩
    rw [Nat.mul_one] at hs ⊢
    apply List.ext_getElem?
    intro j
    by_cases hj : j < n
    · rw [List.getElem?_take_of_lt hj, Array.getElem?_toList]
      simp [putCells, show j < ts.length by omega, show j < cur.size by omega]
    · rw [List.getElem?_take_eq_none (by omega), List.getElem?_eq_none (by simp; omega)]
end
/-- a slice that reads as the list beside it, apart from block g -/
def Reads (w : World) (g : Nat) (p : PL) : Prop := p.1.2.1 ≤ p.1.2.2 ∧ p.1.2.2 ≤ 9223372036854775807 ∧ RI w p.1.1 p.1.2.1 p.2 ∧ blk p.1.1 ≠ some g
abbrev RP (w : World) (g : Nat) := { p : PL // Reads w g p }
instance (w : World) (g : Nat) : Inhabited (RP w g) := ⟨⟨((none, 0, 0), []), Nat.le_refl _, by simp, RS.nil_ _ _ _, by simp [blk]⟩⟩
def encR {w : World} {g : Nat} (p : RP w g) : Value := slv p.1.1
def cmpR {w : World} {g : Nat} (x y : RP w g) : Int := cmpL x.1.2 y.1.2
theorem attach_map {w : World} {g : Nat} (Z : List PL) (h : ∀ p ∈ Z, Reads w g p) : ∃ l : List (RP w g), l.map (·.1) = Z := by
  induction Z with
  | nil => exact ⟨[], rfl⟩
  | cons p r ih =>
    obtain ⟨l, hl⟩ := ih fun q hq => h q (List.mem_cons_of_mem _ hq)
    exact ⟨⟨p, h p List.mem_cons_self⟩ :: l, by simp [hl]⟩
theorem ltR {w : World} {g : Nat} (x y : RP w g) : ltOf cmpR x y = decide (cmpL x.1.2 y.1.2 < 0) := rfl
theorem swoR (w : World) (g : Nat) : SWO (ltOf (cmpR (w := w) (g := g))) where
  irrefl := fun x => by rw [ltR, cmpL_refl]; rfl
  trans := fun x y z h1 h2 => by
    rw [ltR, decide_eq_true_iff] at *
    exact cmpL_ord.lt_trans h1 h2
  ntrans := fun x y z h1 h2 => by
    rw [ltR, decide_eq_false_iff_not] at *
    have a := cmpL_swap x.1.2 y.1.2
    have b := cmpL_swap y.1.2 z.1.2
    have c := cmpL_swap x.1.2 z.1.2
    have := cmpL_trans (xs := z.1.2) (ys := y.1.2) (zs := x.1.2) (by omega) (by omega)
    omega
theorem cmpLaysR (w : World) (g n : Nat) : CmpLays1 Tryz.prog 25 #[] (encR (w := w) (g := g)) cmpR g 0 n w := by
  intro m os dk _ x y
  obtain ⟨⟨⟨A1, n1, c1⟩, z1⟩, h1, h2, h3, h4⟩ := x
  obtain ⟨⟨⟨A0, n0, c0⟩, z0⟩, k1, k2, k3, k4⟩ := y
  simp only at h1 h2 h3 h4 k1 k2 k3 k4
  have hg := grownBy_sorted (enc := encR (w := w) (g := g)) (w := w) (g := g) (m := m) (os := os) dk
  refine (slicesCompare_any A1 A0 n1 n0 c1 c0 z1 z0 _ (h3.kept hg h4) (k3.kept hg k4) (by omega) (by omega)).mono ?_
  rintro e w' ⟨he, rfl⟩
  exact ⟨he, 0, #[], by rw [grow_empty]; rfl⟩
set_option maxHeartbeats 1000000 in
theorem sortR_own (B g n c : Nat) (Z : List PL) (w : World) (ho : PV w B 33 g n c Z) (hn : n ≤ 1048576) (hgl : g < w.heap.size) :
    Calls Tryz.prog 24 #[.slice (some ⟨g, 0, none⟩) n c, .func (.func 25) #[] #[]] w (fun e w' => ∃ Y, e = .returned (.tuple #[]) ∧ PV w' B 33 g n c Y ∧ Y.Perm Z ∧ SortedL cmpL (Y.map (·.2)) ∧ w.grownBy w' (some g)) := by
  obtain ⟨l, hl⟩ := attach_map (w := w) (g := g) Z ho.rows
  have hlen := ho.len
  have hll : l.length = n := by rw [← hlen, ← hl, List.length_map]
  have hos : OS w B 33 1 (some ⟨g, 0, none⟩) n c (l.map encR) := by
    have := ho.os
    rw [← hl, List.map_map] at this
    exact this
  have hH := holds_of_os hos
  have eg : ∀ (args : Array Value) (w : World), (callFunc 25 args).run Tryz.prog w = .ok (.enter 25 args) w := fun _ _ => by kernel_rfl
  have hs : l.toArray.size = n := by simpa using hll
  have hcall := Any.slices_SortFunc Tryz.srfL (encR (w := w) (g := g)) (fun x => rfl) cmpR (swoR w g) 25 #[] g 0 c l.toArray w eg (by rw [hs]; exact cmpLaysR w g n) hH hgl (by rw [hs]; omega)
  rw [hs] at hcall
  refine hcall.mono ?_
  rintro e w' ⟨he, d', m, os, hp, hsd, rfl⟩
  obtain ⟨hp1, hp2, hp3⟩ := hp
  have hd : d'.size = n := by rw [hp1, hs]
  have hperm : d'.toList.Perm l := by
    have e1 : (d'.extract 0 n).toList = d'.toList := by
      rw [show d'.extract 0 n = d' by rw [← hd]; simp]
    have e2 : (l.toArray.extract 0 n).toList = l := by
      rw [show l.toArray.extract 0 n = l.toArray by rw [← hs]; simp]
    rwa [e1, e2] at hp3
  have hg := grownBy_sorted (enc := encR (w := w) (g := g)) (w := w) (g := g) (m := m) (os := os) d'
  refine ⟨d'.toList.map (·.1), he, ⟨?_, fun p hp => ?_⟩, ?_, ?_, hg⟩
  · have := os_sorted (m := m) (os := os) hos (ts := d'.toList) (by rw [hperm.length_eq])
    rw [List.map_map]
    exact this
  · obtain ⟨q, hq, rfl⟩ := List.mem_map.1 hp
    obtain ⟨a, b, c', d⟩ := q.2
    exact ⟨a, b, c'.kept hg d, d⟩
  · rw [← hl]
    exact hperm.map _
  · rw [List.map_map, SortedL, List.pairwise_map, List.pairwise_iff_getElem]
    intro i j hi hj hij
    have h1 := hsd i j (Nat.zero_le _) hij (by simpa [hd] using hj)
    have hi' : i < d'.size := by simpa using hi
    have hj' : j < d'.size := by simpa using hj
    rw [getElem!_pos d' i hi', getElem!_pos d' j hj', ltR, decide_eq_false_iff_not] at h1
    have := cmpL_swap (d'[j].1.2) (d'[i].1.2)
    simp only [Function.comp, Array.getElem_toList]
    omega
theorem sortR_any (B g n c : Nat) (Z : List PL) (w : World) (ho : PV w B 33 g n c Z) (hn : n ≤ 1048576) (hgl : g < w.heap.size) :
    Calls Tryz.prog 24 #[.slice (some ⟨g, 0, none⟩) n c, .func (.func 25) #[] #[]] w (fun e w' => ∃ Y, e = .returned (.tuple #[]) ∧ PV w' B 33 g n c Y ∧ (Y.map (·.2)).Perm (Z.map (·.2)) ∧ SortedL cmpL (Y.map (·.2)) ∧ w.grownBy w' (some g)) :=
  (sortR_own B g n c Z w ho hn hgl).mono fun _ _ ⟨Y, h1, h2, h3, h4, h5⟩ => ⟨Y, h1, h2, h3.map _, h4, h5⟩
end Go.Proofs.YtncknfhfkmmhbaaGreat
/- Sorting rows of a call's own: they stay its own. No condition beyond those stated. -/
namespace Go.Proofs.YtncknfhfkmmhbaaGreat
open Go.RowKit

theorem apart_pairwise {w : World} {B : Nat} {e2 e1 : TypeId} {A : Option Addr} {n c : Nat} {vs : List Sl} {zss : List (List Int)} (h : ORv w B e2 e1 A n c vs zss) : vs.Pairwise apart :=
  List.pairwise_iff_getElem.2 fun i j hi hj hij => h.sep i j _ _ (by omega) (List.getElem?_eq_getElem hi) (List.getElem?_eq_getElem hj)
theorem pairwise_apart {vs : List Sl} (h : vs.Pairwise apart) (i j : Nat) (v u : Sl) (hij : i ≠ j) (hv : vs[i]? = some v) (hu : vs[j]? = some u) : apart v u := by
  obtain ⟨hi, rfl⟩ := List.getElem?_eq_some_iff.1 hv
  obtain ⟨hj, rfl⟩ := List.getElem?_eq_some_iff.1 hu
  rcases Nat.lt_or_ge i j with h1 | h1
  · exact List.pairwise_iff_getElem.1 h i j hi hj h1
  · exact (List.pairwise_iff_getElem.1 h j i hj hi (by omega)).symm
theorem zip_fst (vs : List Sl) (zss : List (List Int)) (h : vs.length = zss.length) : (vs.zip zss).map (·.1) = vs := by
  rw [List.map_fst_zip (by omega)]
theorem zip_snd (vs : List Sl) (zss : List (List Int)) (h : vs.length = zss.length) : (vs.zip zss).map (·.2) = zss := by
  rw [List.map_snd_zip (by omega)]
theorem ORv.pv {w : World} {B : Nat} {g n c : Nat} {vs : List Sl} {zss : List (List Int)} (h : ORv w B 33 2 (some ⟨g, 0, none⟩) n c vs zss) : PV w B 33 g n c (vs.zip zss) := by
  refine ⟨?_, fun p hp => ?_⟩
  · have := h.os
    rw [← zip_fst vs zss h.len, List.map_map] at this
    exact this
  · obtain ⟨j, hj⟩ := List.getElem?_of_mem hp
    rw [List.getElem?_zip_eq_some] at hj
    obtain ⟨h1, h2⟩ := hj
    have ho := h.rows j _ _ h1 h2
    refine ⟨ho.os.cap.1, ho.os.cap.2, ho.reads, ?_⟩
    rcases h.outer_row h1 with h3 | h3
    · rw [h3]; simp
    · simpa [blk] using h3
/-- rows of its own in another order -/
theorem ORv.sorted {w w' : World} {B : Nat} {g n c : Nat} {vs : List Sl} {zss : List (List Int)} (h : ORv w B 33 2 (some ⟨g, 0, none⟩) n c vs zss) {Y : List PL} (hp : Y.Perm (vs.zip zss)) (hv : PV w' B 33 g n c Y) (hg : w.grownBy w' (some g)) :
    ORv w' B 33 2 (some ⟨g, 0, none⟩) n c (Y.map (·.1)) (Y.map (·.2)) := by
  refine ⟨?_, by simp, fun j v z hv' hz => ?_, ?_, h.ne⟩
  · have := hv.os
    rw [List.map_map]
    exact this
  · rw [List.getElem?_map] at hv' hz
    cases hy : Y[j]? with
    | none => rw [hy] at hv'; cases hv'
    | some p =>
      rw [hy] at hv' hz
      simp only [Option.map_some, Option.some.injEq] at hv' hz
      subst hv'; subst hz
      have hm : p ∈ vs.zip zss := hp.mem_iff.1 (List.mem_of_getElem? hy)
      obtain ⟨i, hi⟩ := List.getElem?_of_mem hm
      rw [List.getElem?_zip_eq_some] at hi
      obtain ⟨h1, h2⟩ := hi
      refine (h.rows i _ _ h1 h2).kept hg ?_
      rcases h.outer_row h1 with h3 | h3
      · exact .inl h3
      · exact .inr (by simpa [blk] using h3)
  · have h1 := apart_pairwise h
    have h2 : (Y.map (·.1)).Perm vs := by
      have := hp.map (·.1)
      rwa [zip_fst vs zss h.len] at this
    exact pairwise_apart ((h2.pairwise_iff (fun {a b} h => h.symm)).2 h1)
theorem sorted_setG {l m : List (List Int)} (hp : m.Perm l) (hs : SortedL cmpL m) (hn : l.Nodup) : m = setG cmpL l := by
  refine (setG_eq cmpL_ord ?_ fun x => hp.mem_iff).symm
  have hnd : m.Nodup := hp.nodup_iff.2 hn
  refine List.Pairwise.imp₂ (fun a b h1 h2 => ?_) hs hnd
  rcases Int.lt_or_eq_of_le h1 with h3 | h3
  · exact h3
  · exact absurd (cmpL_ord.eq_of h3) h2
theorem sortOwn_any (B : Nat) (A : Option Addr) (n c : Nat) (zss : List (List Int)) (w : World) (ho : OR w B 33 2 A n c zss) (hn : n ≤ 1048576) (h0 : 0 < n) (hnd : zss.Nodup) :
    Calls Tryz.prog 24 #[.slice A n c, .func (.func 25) #[] #[]] w (fun e w' => e = .returned (.tuple #[]) ∧ OR w' B 33 2 A n c (setG cmpL zss) ∧ w.grownBy w' (blk A)) := by
  obtain ⟨vs, h⟩ := ho
  obtain ⟨g, rfl, hgB, hgl⟩ := h.os.form h0
  refine (sortR_own B g n c _ w h.pv hn hgl).mono ?_
  rintro e w' ⟨Y, he, hv, hp, hs, hg⟩
  have hz : (Y.map (·.2)).Perm zss := by
    have := hp.map (·.2)
    rwa [zip_snd vs zss h.len] at this
  rw [← sorted_setG hz hs hnd]
  exact ⟨he, ⟨_, h.sorted hp hv hg⟩, hg⟩
end Go.Proofs.YtncknfhfkmmhbaaGreat
/-
  DERIVED: THE SHELF's CONTRACTS AT THIS DUMP, IN PLAIN WORDS (tools/lay-plain.mjs out of 'YtncknfhfkmmhbaaGreatLay4X.lean', which tools/lay-shelf.mjs wrote): THE SAME DECLARATIONS UNDER THE SAME NAMES: 'import', 'namespace', 'open', 'def', 'theorem' AND NOTHING ELSE: no command of the shelf's: FOR A HAND-IN. Each laying: the table of numbers ('.._ren') and one theorem, a field a fact of the dump's own or the kernel's comparison; each contract: ONE APPLICATION.
-/
namespace Go.Proofs
open Go.Shelf
def Tryz.srzL_ren : Go.Shelf.Ren := ⟨fun | 6 => 24 | 15 => 43 | 14 => 42 | 28 => 68 | 29 => 69 | 20 => 60 | 21 => 61 | 22 => 62 | 23 => 63 | 24 => 64 | 25 => 65 | 26 => 66 | 27 => 67 | 46 => 92 | 47 => 93 | 48 => 94 | 49 => 95 | 50 => 96 | 57 => 108 | n => n, fun | 22 => 46 | 24 => 33 | 25 => 65 | 3 => 3 | 39 => 80 | 0 => 0 | 53 => 112 | 55 => 58 | 4 => 4 | 46 => 105 | 45 => 104 | 50 => 109 | 5 => 5 | 9 => 9 | 66 => 125 | 70 => 129 | 76 => 141 | 77 => 142 | n => n, fun | n => n⟩
theorem Tryz.srzL : Go.Proofs.SlLaysF0.n6 Tryz.prog Tryz.srzL_ren := {
  mixed := by kernel_rfl
  f6 := ⟨Tryz.f24.name, by decide, Tryz.func24.trans (congrArg some (by kernel_rfl))⟩
  f14 := ⟨Tryz.f42.name, by decide, Tryz.func42.trans (congrArg some (by kernel_rfl))⟩
  f15 := Tryz.func43.trans (congrArg some (by kernel_rfl))
  f20 := ⟨Tryz.f60.name, by decide, Tryz.func60.trans (congrArg some (by kernel_rfl))⟩
  f21 := ⟨Tryz.f61.name, by decide, Tryz.func61.trans (congrArg some (by kernel_rfl))⟩
  f22 := ⟨Tryz.f62.name, by decide, Tryz.func62.trans (congrArg some (by kernel_rfl))⟩
  f23 := ⟨Tryz.f63.name, by decide, Tryz.func63.trans (congrArg some (by kernel_rfl))⟩
  f24 := ⟨Tryz.f64.name, by decide, Tryz.func64.trans (congrArg some (by kernel_rfl))⟩
  f25 := ⟨Tryz.f65.name, by decide, Tryz.func65.trans (congrArg some (by kernel_rfl))⟩
  f26 := ⟨Tryz.f66.name, by decide, Tryz.func66.trans (congrArg some (by kernel_rfl))⟩
  f27 := ⟨Tryz.f67.name, by decide, Tryz.func67.trans (congrArg some (by kernel_rfl))⟩
  f28 := Tryz.func68.trans (congrArg some (by kernel_rfl))
  f29 := Tryz.func69.trans (congrArg some (by kernel_rfl))
  f46 := ⟨Tryz.f92.name, by decide, Tryz.func92.trans (congrArg some (by kernel_rfl))⟩
  f47 := Tryz.func93.trans (congrArg some (by kernel_rfl))
  f48 := Tryz.func94.trans (congrArg some (by kernel_rfl))
  f49 := ⟨Tryz.f95.name, by decide, Tryz.func95.trans (congrArg some (by kernel_rfl))⟩
  f50 := ⟨Tryz.f96.name, by decide, Tryz.func96.trans (congrArg some (by kernel_rfl))⟩
  f57 := ⟨Tryz.f108.name, by decide, Tryz.func108.trans (congrArg some (by kernel_rfl))⟩
  t0 := Tryz.underlying0
  a0 := Tryz.isAgg0
  z0 := Tryz.sizeOf0
  v0 := Tryz.zeroValue0
  t3 := Tryz.underlying3
  a3 := Tryz.isAgg3
  z3 := Tryz.sizeOf3
  v3 := Tryz.zeroValue3
  t4 := Tryz.underlying4
  a4 := Tryz.isAgg4
  z4 := Tryz.sizeOf4
  v4 := Tryz.zeroValue4
  t5 := Tryz.underlying5
  a5 := Tryz.isAgg5
  z5 := Tryz.sizeOf5
  v5 := Tryz.zeroValue5
  t9 := Tryz.underlying9
  a9 := Tryz.isAgg9
  z9 := Tryz.sizeOf9
  v9 := Tryz.zeroValue9
  t22 := Tryz.underlying46
  a22 := Tryz.isAgg46
  z22 := Tryz.sizeOf46
  v22 := Tryz.zeroValue46
  t25 := Tryz.underlying65
  a25 := Tryz.isAgg65
  z25 := Tryz.sizeOf65
  v25 := Tryz.zeroValue65
  t39 := Tryz.underlying80
  a39 := Tryz.isAgg80
  z39 := Tryz.sizeOf80
  v39 := Tryz.zeroValue80
  t45 := Tryz.underlying104
  a45 := Tryz.isAgg104
  z45 := Tryz.sizeOf104
  v45 := Tryz.zeroValue104
  t46 := Tryz.underlying105
  a46 := Tryz.isAgg105
  z46 := Tryz.sizeOf105
  v46 := Tryz.zeroValue105
  t50 := Tryz.underlying109
  a50 := Tryz.isAgg109
  z50 := Tryz.sizeOf109
  v50 := Tryz.zeroValue109
  t53 := Tryz.underlying112
  a53 := Tryz.isAgg112
  z53 := Tryz.sizeOf112
  v53 := Tryz.zeroValue112
  t55 := Tryz.underlying58
  a55 := Tryz.isAgg58
  z55 := Tryz.sizeOf58
  v55 := Tryz.zeroValue58
  t66 := Tryz.underlying125
  a66 := Tryz.isAgg125
  z66 := Tryz.sizeOf125
  v66 := Tryz.zeroValue125
  t70 := Tryz.underlying129
  a70 := Tryz.isAgg129
  z70 := Tryz.sizeOf129
  v70 := Tryz.zeroValue129
  t76 := Tryz.underlying141
  a76 := Tryz.isAgg141
  z76 := Tryz.sizeOf141
  v76 := Tryz.zeroValue141
  t77 := Tryz.underlying142
  a77 := Tryz.isAgg142
  z77 := Tryz.sizeOf142
  v77 := Tryz.zeroValue142 }
end Go.Proofs
/- Sorting rows of a call's own. No condition beyond those stated. -/
namespace Go.Proofs.YtncknfhfkmmhbaaGreat
open Go.RowKit

/-- lists in ascending order -/
def srtR (l : List (List Int)) : List (List Int) := l.mergeSort fun x y => decide (cmpL x y ≤ 0)
theorem srtR_perm (l : List (List Int)) : (srtR l).Perm l := List.mergeSort_perm _ _
theorem srtR_sorted (l : List (List Int)) : SortedL cmpL (srtR l) := by
  have := List.pairwise_mergeSort (le := fun x y : List Int => decide (cmpL x y ≤ 0)) (fun a b c h1 h2 => by
    simp only [decide_eq_true_eq] at *
    exact cmpL_ord.trans h1 h2) (fun a b => by
    have := cmpL_ord.swap a b
    simp only [Bool.or_eq_true, decide_eq_true_eq]
    omega) l
  exact this.imp fun h => by simpa using h
theorem srtR_unique {l m : List (List Int)} (hp : m.Perm l) (hm : SortedL cmpL m) : m = srtR l :=
  (hp.trans (srtR_perm l).symm).eq_of_pairwise (fun a b _ _ h1 h2 => cmpL_ord.eq_of (by have := cmpL_ord.swap a b; omega)) hm (srtR_sorted l)
theorem srtR_len (l : List (List Int)) : (srtR l).length = l.length := (srtR_perm l).length_eq
theorem sortOR_any (B : Nat) (A : Option Addr) (n c : Nat) (zss : List (List Int)) (w : World) (ho : OR w B 33 2 A n c zss) (hn : n ≤ 1048576) :
    Calls Tryz.prog 24 #[.slice A n c, .func (.func 25) #[] #[]] w (fun e w' => e = .returned (.tuple #[]) ∧ OR w' B 33 2 A n c (srtR zss) ∧ w.grownBy w' (blk A)) := by
  obtain ⟨vs, h⟩ := ho
  rcases h.os.cases with ⟨rfl, rfl, rfl, _⟩ | ⟨g, cur, rfl, hB, hg, _⟩
  · refine (AnyF.slices_SortFunc_none Tryz.srzL none 0 (.func (.func 25) #[] #[]) w).mono ?_
    rintro e w' ⟨he, rfl⟩
    obtain rfl : zss = [] := List.eq_nil_of_length_eq_zero h.slen
    exact ⟨he, by rw [show srtR [] = [] by simp [srtR]]; exact ⟨vs, h⟩, World.grownBy.refl _ _⟩
  · refine (sortR_own B g n c _ w h.pv hn (Array.getElem?_eq_some_iff.1 hg).1).mono ?_
    rintro e w' ⟨Y, he, hv, hp, hs, hg⟩
    have hz : Y.map (·.2) = srtR zss := srtR_unique (by have := hp.map (·.2); rwa [zip_snd vs zss h.len] at this) hs
    rw [← hz]
    exact ⟨he, ⟨_, h.sorted hp hv hg⟩, hg⟩
end Go.Proofs.YtncknfhfkmmhbaaGreat
/-
  DERIVED: THE SHELF's CONTRACTS AT THIS DUMP, IN PLAIN WORDS (tools/lay-plain.mjs out of 'YtncknfhfkmmhbaaGreatLayX.lean', which tools/lay-shelf.mjs wrote): THE SAME DECLARATIONS UNDER THE SAME NAMES: 'import', 'namespace', 'open', 'def', 'theorem' AND NOTHING ELSE: no command of the shelf's: FOR A HAND-IN. Each laying: the table of numbers ('.._ren') and one theorem, a field a fact of the dump's own or the kernel's comparison; each contract: ONE APPLICATION.
-/
namespace Go.Proofs
open Go.Shelf
def Tryz.srtL_ren : Go.Shelf.Ren := ⟨fun | 5 => 84 | 8 => 43 | 7 => 101 | 19 => 68 | 20 => 69 | 10 => 110 | 11 => 111 | 12 => 112 | 13 => 113 | 14 => 114 | 15 => 115 | 16 => 116 | 17 => 117 | 18 => 118 | 30 => 121 | 31 => 93 | 32 => 94 | 33 => 122 | 34 => 123 | 35 => 70 | 40 => 126 | n => n, fun | 23 => 33 | 25 => 2 | 3 => 3 | 32 => 80 | 22 => 33 | 0 => 0 | 44 => 112 | 46 => 58 | 4 => 4 | 36 => 105 | 35 => 104 | 41 => 109 | 5 => 5 | 9 => 9 | 53 => 125 | 57 => 129 | 63 => 141 | 64 => 142 | n => n, fun | n => n⟩
theorem Tryz.srtL : Go.Proofs.SlLaysM.n5 Tryz.prog Tryz.srtL_ren := {
  mixed := by kernel_rfl
  f5 := ⟨Tryz.f84.name, by decide, Tryz.func84.trans (congrArg some (by kernel_rfl))⟩
  f7 := ⟨Tryz.f101.name, by decide, Tryz.func101.trans (congrArg some (by kernel_rfl))⟩
  f8 := Tryz.func43.trans (congrArg some (by kernel_rfl))
  f10 := ⟨Tryz.f110.name, by decide, Tryz.func110.trans (congrArg some (by kernel_rfl))⟩
  f11 := ⟨Tryz.f111.name, by decide, Tryz.func111.trans (congrArg some (by kernel_rfl))⟩
  f12 := ⟨Tryz.f112.name, by decide, Tryz.func112.trans (congrArg some (by kernel_rfl))⟩
  f13 := ⟨Tryz.f113.name, by decide, Tryz.func113.trans (congrArg some (by kernel_rfl))⟩
  f14 := ⟨Tryz.f114.name, by decide, Tryz.func114.trans (congrArg some (by kernel_rfl))⟩
  f15 := ⟨Tryz.f115.name, by decide, Tryz.func115.trans (congrArg some (by kernel_rfl))⟩
  f16 := ⟨Tryz.f116.name, by decide, Tryz.func116.trans (congrArg some (by kernel_rfl))⟩
  f17 := ⟨Tryz.f117.name, by decide, Tryz.func117.trans (congrArg some (by kernel_rfl))⟩
  f18 := ⟨Tryz.f118.name, by decide, Tryz.func118.trans (congrArg some (by kernel_rfl))⟩
  f19 := Tryz.func68.trans (congrArg some (by kernel_rfl))
  f20 := Tryz.func69.trans (congrArg some (by kernel_rfl))
  f30 := ⟨Tryz.f121.name, by decide, Tryz.func121.trans (congrArg some (by kernel_rfl))⟩
  f31 := Tryz.func93.trans (congrArg some (by kernel_rfl))
  f32 := Tryz.func94.trans (congrArg some (by kernel_rfl))
  f33 := ⟨Tryz.f122.name, by decide, Tryz.func122.trans (congrArg some (by kernel_rfl))⟩
  f34 := ⟨Tryz.f123.name, by decide, Tryz.func123.trans (congrArg some (by kernel_rfl))⟩
  f35 := ⟨Tryz.f70.name, by decide, Tryz.func70.trans (congrArg some (by kernel_rfl))⟩
  f40 := ⟨Tryz.f126.name, by decide, Tryz.func126.trans (congrArg some (by kernel_rfl))⟩
  t0 := Tryz.underlying0
  a0 := Tryz.isAgg0
  z0 := Tryz.sizeOf0
  v0 := Tryz.zeroValue0
  t3 := Tryz.underlying3
  a3 := Tryz.isAgg3
  z3 := Tryz.sizeOf3
  v3 := Tryz.zeroValue3
  t4 := Tryz.underlying4
  a4 := Tryz.isAgg4
  z4 := Tryz.sizeOf4
  v4 := Tryz.zeroValue4
  t5 := Tryz.underlying5
  a5 := Tryz.isAgg5
  z5 := Tryz.sizeOf5
  v5 := Tryz.zeroValue5
  t9 := Tryz.underlying9
  a9 := Tryz.isAgg9
  z9 := Tryz.sizeOf9
  v9 := Tryz.zeroValue9
  t22 := Tryz.underlying33
  a22 := Tryz.isAgg33
  z22 := Tryz.sizeOf33
  v22 := Tryz.zeroValue33
  t23 := Tryz.underlying33
  a23 := Tryz.isAgg33
  z23 := Tryz.sizeOf33
  v23 := Tryz.zeroValue33
  t25 := Tryz.underlying2
  a25 := Tryz.isAgg2
  z25 := Tryz.sizeOf2
  v25 := Tryz.zeroValue2
  t32 := Tryz.underlying80
  a32 := Tryz.isAgg80
  z32 := Tryz.sizeOf80
  v32 := Tryz.zeroValue80
  t35 := Tryz.underlying104
  a35 := Tryz.isAgg104
  z35 := Tryz.sizeOf104
  v35 := Tryz.zeroValue104
  t36 := Tryz.underlying105
  a36 := Tryz.isAgg105
  z36 := Tryz.sizeOf105
  v36 := Tryz.zeroValue105
  t41 := Tryz.underlying109
  a41 := Tryz.isAgg109
  z41 := Tryz.sizeOf109
  v41 := Tryz.zeroValue109
  t44 := Tryz.underlying112
  a44 := Tryz.isAgg112
  z44 := Tryz.sizeOf112
  v44 := Tryz.zeroValue112
  t46 := Tryz.underlying58
  a46 := Tryz.isAgg58
  z46 := Tryz.sizeOf58
  v46 := Tryz.zeroValue58
  t53 := Tryz.underlying125
  a53 := Tryz.isAgg125
  z53 := Tryz.sizeOf125
  v53 := Tryz.zeroValue125
  t57 := Tryz.underlying129
  a57 := Tryz.isAgg129
  z57 := Tryz.sizeOf129
  v57 := Tryz.zeroValue129
  t63 := Tryz.underlying141
  a63 := Tryz.isAgg141
  z63 := Tryz.sizeOf141
  v63 := Tryz.zeroValue141
  t64 := Tryz.underlying142
  a64 := Tryz.isAgg142
  z64 := Tryz.sizeOf142
  v64 := Tryz.zeroValue142 }
end Go.Proofs
/- The library's sort of numbers, in memory of the call's own. No condition beyond those stated. -/
namespace Go.Proofs.YtncknfhfkmmhbaaGreat
open Go.RowKit Go.Sort

theorem sort_any (B : Nat) (e : TypeId) (A : Option Addr) (n c : Nat) (zs : List Int) (w : World) (ho : OI w B e A n c zs) (hn : n ≤ 4611686018427387900) :
    Calls Tryz.prog 84 #[.slice A n c] w fun en w' => en = .returned (.tuple #[]) ∧ OI w' B e A n c (srt zs) ∧ w.grownBy w' (blk A) := by
  have hl := ho.len
  have hall : All64 (srt zs) := fun z hz => ho.all z ((srt_perm zs).mem_iff.1 hz)
  rcases ho.os.cases with ⟨rfl, rfl, rfl, hx⟩ | ⟨g, cur, rfl, hB, hg, hnc, hc, hsz, htk⟩
  · have hz : zs = [] := List.eq_nil_of_length_eq_zero hl
    subst hz
    exact (AnyM.slices_Sort_int_none Tryz.srtL none 0 w).mono fun en w' ⟨he, hw⟩ => by
      subst hw
      exact ⟨he, by rw [show srt [] = [] by simp [srt]]; exact OI.nil_ _ _ _, World.grownBy.refl _ _⟩
  · have hlt : g < w.heap.size := (Array.getElem?_eq_some_iff.1 hg).1
    subst hl
    rw [Nat.mul_one] at htk hsz
    have hH : Holds (Value.int .i64) w g 0 zs.toArray := holds_of_blockI hg htk
    exact (AnyM.slices_Sort_int Tryz.srtL g 0 c zs w hH hlt (by omega)).mono fun en w' ⟨he, nn, os, hw⟩ => by
      subst hw
      refine ⟨he, ⟨?_, hall⟩, grownBy_sortedI _⟩
      have := ownsRow_sortedI (w := w) (n := nn) (os := os) (ss := zs) (ts := srt zs) (srt_len zs) hB hg hnc hc (by rw [Nat.mul_one]; exact hsz)
      exact this
end Go.Proofs.YtncknfhfkmmhbaaGreat
