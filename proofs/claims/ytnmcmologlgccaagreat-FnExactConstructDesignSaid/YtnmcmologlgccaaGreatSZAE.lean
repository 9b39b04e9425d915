/- Sorting rows of a call's own, and impl.sorted, in seats without graphs. No condition beyond those stated. -/
import Derived.Test.YtnmcmologlgccaaGreatSZAD
set_option linter.unusedVariables false
set_option linter.unusedSimpArgs false
namespace Go.Proofs.YtnmcmologlgccaaGreat
open Go.RowKit Go.Sort
theorem cmpL_ord : TOrd cmpL where
  eq_of := cmpL_zero
  self := cmpL_refl
  swap := cmpL_swap
  trans := cmpL_trans
abbrev PL := Sl × List Int
structure PV (w : World) (B : Nat) (e2 : TypeId) (g n c : Nat) (Z : List PL) : Prop where
  os : OS w B e2 1 (some ⟨g, 0, none⟩) n c (Z.map fun p => slv p.1)
  rows : ∀ p ∈ Z, p.1.2.1 ≤ p.1.2.2 ∧ p.1.2.2 ≤ 9223372036854775807 ∧ RI w p.1.1 p.1.2.1 p.2 ∧ blk p.1.1 ≠ some g
section
variable {w w' : World} {B : Nat} {e2 : TypeId} {g n c : Nat} {Z : List PL}
theorem RI.kept {A : Option Addr} {m : Nat} {z : List Int} (h : RI w A m z) (hg : w.grownBy w' (some g)) (hne : blk A ≠ some g) : RI w' A m z :=
  ⟨h.len, fun j x hx => by
    obtain ⟨ad, u, ha, hc, he⟩ := RS.at_ h j x hx
    refine ⟨ad, u, ha, ?_, he⟩
    have hb := block_lt hc
    have hblk : (ad.add j).block ≠ g := fun e => hne (by rw [ha]; simp [blk]; rw [← add_block ad j]; exact e)
    have := hg.block _ hb (by intro e; injection e with e; exact hblk e)
    unfold World.cell? at hc ⊢
    rw [this]
    exact hc⟩
theorem PV.len (h : PV w B e2 g n c Z) : Z.length = n := by have := h.os.len; simpa using this
end
section
variable {α : Type} [Inhabited α] {enc : α → Value} {w : World} {B : Nat} {e : TypeId} {g n c : Nat} {l ts : List α}
theorem holds_of_os (h : OS w B e 1 (some ⟨g, 0, none⟩) n c (l.map enc)) : Holds enc w g 0 l.toArray := fun j hj => by
  have hj' : j < l.length := by simpa using hj
  obtain ⟨g', e1, hc, hf⟩ := h.cell (j := j) (u := enc l[j]) (by simp [hj'])
  injection e1 with e1
  injection e1 with e1
  subst e1
  rw [Nat.zero_add]
  exact ⟨by rw [hc]; simp [hj'], hf⟩
theorem grownBy_sorted {m : Nat} {os : Array Obj} (d : Array α) : w.grownBy (sortWorld enc w g 0 m d os) (some g) := by
  refine ⟨rfl, rfl, rfl, by simp [sortWorld, grow, putRow, mapBlock, Sort.ahead], fun k hk hne => ?_⟩
  unfold sortWorld
  rw [heap_grow_old _ _ (by simpa [putRow, mapBlock, Sort.ahead] using hk)]
  have : g ≠ k := fun e => hne (by rw [e])
  simp [putRow, mapBlock, Sort.ahead, Array.getElem?_modify, this]
theorem os_sorted {m : Nat} {os : Array Obj} (h : OS w B e 1 (some ⟨g, 0, none⟩) n c (l.map enc)) (hl : ts.length = l.length) : OS (sortWorld enc w g 0 m ts.toArray os) B e 1 (some ⟨g, 0, none⟩) n c (ts.map enc) := by
  have hlen := h.len
  simp at hlen
  rcases h.cases with ⟨h0, _⟩ | ⟨g', cur, h0, hB, hg, hnc, hc, hs, ht⟩
  · cases h0
  · injection h0 with h0
    injection h0 with h0
    subst h0
    have hgl : g < w.heap.size := (Array.getElem?_eq_some_iff.1 hg).1
    have hblk : (sortWorld enc w g 0 m ts.toArray os).heap[g]? = some (.cells (putCells enc 0 ts.toArray cur) e (0, 0)) := by
      unfold sortWorld
      rw [heap_grow_old _ _ (by simpa [putRow, mapBlock, Sort.ahead] using hgl)]
      simp [putRow, mapBlock, Sort.ahead, Array.getElem?_modify, hg, onCells]
    refine ⟨by simp [hl, hlen], .inr ⟨g, c, _, rfl, hB, hblk, hnc, hc, by simp [putCells, hs], ?_⟩⟩
    rw [Nat.mul_one] at hs ⊢
    apply List.ext_getElem?
    intro j
    by_cases hj : j < n
    · rw [List.getElem?_take_of_lt hj, Array.getElem?_toList]
      simp [putCells, show j < ts.length by omega, show j < cur.size by omega]
    · rw [List.getElem?_take_eq_none (by omega), List.getElem?_eq_none (by simp; omega)]
end
def Reads (w : World) (g : Nat) (p : PL) : Prop := p.1.2.1 ≤ p.1.2.2 ∧ p.1.2.2 ≤ 9223372036854775807 ∧ RI w p.1.1 p.1.2.1 p.2 ∧ blk p.1.1 ≠ some g
abbrev RP (w : World) (g : Nat) := { p : PL // Reads w g p }
instance (w : World) (g : Nat) : Inhabited (RP w g) := ⟨⟨((none, 0, 0), []), Nat.le_refl _, by simp, RS.nil_ _ _ _, by simp [blk]⟩⟩
def encR {w : World} {g : Nat} (p : RP w g) : Value := slv p.1.1
def cmpR {w : World} {g : Nat} (x y : RP w g) : Int := cmpL x.1.2 y.1.2
theorem attach_map {w : World} {g : Nat} (Z : List PL) (h : ∀ p ∈ Z, Reads w g p) : ∃ l : List (RP w g), l.map (·.1) = Z := by
  induction Z with
  | nil => exact ⟨[], rfl⟩
  | cons p r ih =>
    obtain ⟨l, hl⟩ := ih fun q hq => h q (List.mem_cons_of_mem _ hq)
    exact ⟨⟨p, h p List.mem_cons_self⟩ :: l, by simp [hl]⟩
theorem ltR {w : World} {g : Nat} (x y : RP w g) : ltOf cmpR x y = decide (cmpL x.1.2 y.1.2 < 0) := rfl
theorem swoR (w : World) (g : Nat) : SWO (ltOf (cmpR (w := w) (g := g))) where
  irrefl := fun x => by rw [ltR, cmpL_refl]; rfl
  trans := fun x y z h1 h2 => by
    rw [ltR, decide_eq_true_iff] at *
    exact cmpL_ord.lt_trans h1 h2
  ntrans := fun x y z h1 h2 => by
    rw [ltR, decide_eq_false_iff_not] at *
    have a := cmpL_swap x.1.2 y.1.2
    have b := cmpL_swap y.1.2 z.1.2
    have c := cmpL_swap x.1.2 z.1.2
    have := cmpL_trans (xs := z.1.2) (ys := y.1.2) (zs := x.1.2) (by omega) (by omega)
    omega
theorem cmpLaysR (w : World) (g n : Nat) : CmpLays1 Tryz.prog 43 #[] (encR (w := w) (g := g)) cmpR g 0 n w := by
  intro m os dk _ x y
  obtain ⟨⟨⟨A1, n1, c1⟩, z1⟩, h1, h2, h3, h4⟩ := x
  obtain ⟨⟨⟨A0, n0, c0⟩, z0⟩, k1, k2, k3, k4⟩ := y
  simp only at h1 h2 h3 h4 k1 k2 k3 k4
  have hg := grownBy_sorted (enc := encR (w := w) (g := g)) (w := w) (g := g) (m := m) (os := os) dk
  refine (slicesCompare_any A1 A0 n1 n0 c1 c0 z1 z0 _ (h3.kept hg h4) (k3.kept hg k4) (by omega) (by omega)).mono ?_
  rintro e w' ⟨he, rfl⟩
  exact ⟨he, 0, #[], by rw [grow_empty]; rfl⟩
set_option maxHeartbeats 1000000 in
theorem sortR_own (B g n c : Nat) (Z : List PL) (w : World) (ho : PV w B 36 g n c Z) (hn : n ≤ 1048576) (hgl : g < w.heap.size) :
    Calls Tryz.prog 42 #[.slice (some ⟨g, 0, none⟩) n c, .func (.func 43) #[] #[]] w (fun e w' => ∃ Y, e = .returned (.tuple #[]) ∧ PV w' B 36 g n c Y ∧ Y.Perm Z ∧ SortedL cmpL (Y.map (·.2)) ∧ w.grownBy w' (some g)) := by
  obtain ⟨l, hl⟩ := attach_map (w := w) (g := g) Z ho.rows
  have hlen := ho.len
  have hll : l.length = n := by rw [← hlen, ← hl, List.length_map]
  have hos : OS w B 36 1 (some ⟨g, 0, none⟩) n c (l.map encR) := by
    have := ho.os
    rw [← hl, List.map_map] at this
    exact this
  have hH := holds_of_os hos
  have eg : ∀ (args : Array Value) (w : World), (callFunc 43 args).run Tryz.prog w = .ok (.enter 43 args) w := fun _ _ => by kernel_rfl
  have hs : l.toArray.size = n := by simpa using hll
  have hcall := Any.slices_SortFunc Tryz.srfL (encR (w := w) (g := g)) (fun x => rfl) cmpR (swoR w g) 43 #[] g 0 c l.toArray w eg (by rw [hs]; exact cmpLaysR w g n) hH hgl (by rw [hs]; omega)
  rw [hs] at hcall
  refine hcall.mono ?_
  rintro e w' ⟨he, d', m, os, hp, hsd, rfl⟩
  obtain ⟨hp1, hp2, hp3⟩ := hp
  have hd : d'.size = n := by rw [hp1, hs]
  have hperm : d'.toList.Perm l := by
    have e1 : (d'.extract 0 n).toList = d'.toList := by
      rw [show d'.extract 0 n = d' by rw [← hd]; simp]
    have e2 : (l.toArray.extract 0 n).toList = l := by
      rw [show l.toArray.extract 0 n = l.toArray by rw [← hs]; simp]
    rwa [e1, e2] at hp3
  have hg := grownBy_sorted (enc := encR (w := w) (g := g)) (w := w) (g := g) (m := m) (os := os) d'
  refine ⟨d'.toList.map (·.1), he, ⟨?_, fun p hp => ?_⟩, ?_, ?_, hg⟩
  · have := os_sorted (m := m) (os := os) hos (ts := d'.toList) (by rw [hperm.length_eq])
    rw [List.map_map]
    exact this
  · obtain ⟨q, hq, rfl⟩ := List.mem_map.1 hp
    obtain ⟨a, b, c', d⟩ := q.2
    exact ⟨a, b, c'.kept hg d, d⟩
  · rw [← hl]
    exact hperm.map _
  · rw [List.map_map, SortedL, List.pairwise_map, List.pairwise_iff_getElem]
    intro i j hi hj hij
    have h1 := hsd i j (Nat.zero_le _) hij (by simpa [hd] using hj)
    have hi' : i < d'.size := by simpa using hi
    have hj' : j < d'.size := by simpa using hj
    rw [getElem!_pos d' i hi', getElem!_pos d' j hj', ltR, decide_eq_false_iff_not] at h1
    have := cmpL_swap (d'[j].1.2) (d'[i].1.2)
    simp only [Function.comp, Array.getElem_toList]
    omega
theorem apart_pairwise {w : World} {B : Nat} {e2 e1 : TypeId} {A : Option Addr} {n c : Nat} {vs : List Sl} {zss : List (List Int)} (h : ORv w B e2 e1 A n c vs zss) : vs.Pairwise apart :=
  List.pairwise_iff_getElem.2 fun i j hi hj hij => h.sep i j _ _ (by omega) (List.getElem?_eq_getElem hi) (List.getElem?_eq_getElem hj)
theorem pairwise_apart {vs : List Sl} (h : vs.Pairwise apart) (i j : Nat) (v u : Sl) (hij : i ≠ j) (hv : vs[i]? = some v) (hu : vs[j]? = some u) : apart v u := by
  obtain ⟨hi, rfl⟩ := List.getElem?_eq_some_iff.1 hv
  obtain ⟨hj, rfl⟩ := List.getElem?_eq_some_iff.1 hu
  rcases Nat.lt_or_ge i j with h1 | h1
  · exact List.pairwise_iff_getElem.1 h i j hi hj h1
  · exact (List.pairwise_iff_getElem.1 h j i hj hi (by omega)).symm
theorem zip_fst (vs : List Sl) (zss : List (List Int)) (h : vs.length = zss.length) : (vs.zip zss).map (·.1) = vs := by
  rw [List.map_fst_zip (by omega)]
theorem zip_snd (vs : List Sl) (zss : List (List Int)) (h : vs.length = zss.length) : (vs.zip zss).map (·.2) = zss := by
  rw [List.map_snd_zip (by omega)]
theorem ORv.pv {w : World} {B : Nat} {g n c : Nat} {vs : List Sl} {zss : List (List Int)} (h : ORv w B 36 2 (some ⟨g, 0, none⟩) n c vs zss) : PV w B 36 g n c (vs.zip zss) := by
  refine ⟨?_, fun p hp => ?_⟩
  · have := h.os
    rw [← zip_fst vs zss h.len, List.map_map] at this
    exact this
  · obtain ⟨j, hj⟩ := List.getElem?_of_mem hp
    rw [List.getElem?_zip_eq_some] at hj
    obtain ⟨h1, h2⟩ := hj
    have ho := h.rows j _ _ h1 h2
    refine ⟨ho.os.cap.1, ho.os.cap.2, ho.reads, ?_⟩
    rcases h.outer_row h1 with h3 | h3
    · rw [h3]; simp
    · simpa [blk] using h3
theorem ORv.sorted {w w' : World} {B : Nat} {g n c : Nat} {vs : List Sl} {zss : List (List Int)} (h : ORv w B 36 2 (some ⟨g, 0, none⟩) n c vs zss) {Y : List PL} (hp : Y.Perm (vs.zip zss)) (hv : PV w' B 36 g n c Y) (hg : w.grownBy w' (some g)) :
    ORv w' B 36 2 (some ⟨g, 0, none⟩) n c (Y.map (·.1)) (Y.map (·.2)) := by
  refine ⟨?_, by simp, fun j v z hv' hz => ?_, ?_, h.ne⟩
  · have := hv.os
    rw [List.map_map]
    exact this
  · rw [List.getElem?_map] at hv' hz
    cases hy : Y[j]? with
    | none => rw [hy] at hv'; cases hv'
    | some p =>
      rw [hy] at hv' hz
      simp only [Option.map_some, Option.some.injEq] at hv' hz
      subst hv'; subst hz
      have hm : p ∈ vs.zip zss := hp.mem_iff.1 (List.mem_of_getElem? hy)
      obtain ⟨i, hi⟩ := List.getElem?_of_mem hm
      rw [List.getElem?_zip_eq_some] at hi
      obtain ⟨h1, h2⟩ := hi
      refine (h.rows i _ _ h1 h2).kept hg ?_
      rcases h.outer_row h1 with h3 | h3
      · exact .inl h3
      · exact .inr (by simpa [blk] using h3)
  · have h1 := apart_pairwise h
    have h2 : (Y.map (·.1)).Perm vs := by
      have := hp.map (·.1)
      rwa [zip_fst vs zss h.len] at this
    exact pairwise_apart ((h2.pairwise_iff (fun {a b} h => h.symm)).2 h1)
def srtR (l : List (List Int)) : List (List Int) := l.mergeSort fun x y => decide (cmpL x y ≤ 0)
theorem srtR_perm (l : List (List Int)) : (srtR l).Perm l := List.mergeSort_perm _ _
theorem srtR_sorted (l : List (List Int)) : SortedL cmpL (srtR l) := by
  have := List.pairwise_mergeSort (le := fun x y : List Int => decide (cmpL x y ≤ 0)) (fun a b c h1 h2 => by
    simp only [decide_eq_true_eq] at *
    exact cmpL_ord.trans h1 h2) (fun a b => by
    have := cmpL_ord.swap a b
    simp only [Bool.or_eq_true, decide_eq_true_eq]
    omega) l
  exact this.imp fun h => by simpa using h
theorem srtR_unique {l m : List (List Int)} (hp : m.Perm l) (hm : SortedL cmpL m) : m = srtR l :=
  (hp.trans (srtR_perm l).symm).eq_of_pairwise (fun a b _ _ h1 h2 => cmpL_ord.eq_of (by have := cmpL_ord.swap a b; omega)) hm (srtR_sorted l)
theorem sortOR_any (B : Nat) (A : Option Addr) (n c : Nat) (zss : List (List Int)) (w : World) (ho : OR w B 36 2 A n c zss) (hn : n ≤ 1048576) :
    Calls Tryz.prog 42 #[.slice A n c, .func (.func 43) #[] #[]] w (fun e w' => e = .returned (.tuple #[]) ∧ OR w' B 36 2 A n c (srtR zss) ∧ w.grownBy w' (blk A)) := by
  obtain ⟨vs, h⟩ := ho
  rcases h.os.cases with ⟨rfl, rfl, rfl, _⟩ | ⟨g, cur, rfl, hB, hg, _⟩
  · refine (AnyF.slices_SortFunc_none Tryz.srzL none 0 (.func (.func 43) #[] #[]) w).mono ?_
    rintro e w' ⟨he, rfl⟩
    obtain rfl : zss = [] := List.eq_nil_of_length_eq_zero h.slen
    exact ⟨he, by rw [show srtR [] = [] by simp [srtR]]; exact ⟨vs, h⟩, World.grownBy.refl _ _⟩
  · refine (sortR_own B g n c _ w h.pv hn (Array.getElem?_eq_some_iff.1 hg).1).mono ?_
    rintro e w' ⟨Y, he, hv, hp, hs, hg⟩
    have hz : Y.map (·.2) = srtR zss := srtR_unique (by have := hp.map (·.2); rwa [zip_snd vs zss h.len] at this) hs
    rw [← hz]
    exact ⟨he, ⟨_, h.sorted hp hv hg⟩, hg⟩
set_option maxRecDepth 100000 in
set_option maxHeartbeats 2000000 in
theorem sorted_any (v : Int) (A : Option Addr) (n c : Nat) (zss : List (List Int)) (w : World) (ha : RR w A n zss) (hn : n ≤ 128) (hr : cells zss ≤ 1099511627776) :
    Calls Tryz.prog 25 #[.int .i64 v, .slice A n c] w (fun e w' => ∃ A' c', e = .returned (.tuple #[.agg #[.int .i64 v, .slice A' n c'], .int .i64 0]) ∧ OR w' w.heap.size 36 2 A' n c' (srtR zss) ∧ Below w.heap.size w w') := by
  have hla := Lib.hid ha.len
  have hb0 := below_alloc w (.cells #[.int .i64 0, .slice none 0 0] 28)
  have Y := Blk.new w 28 #[.int .i64 0, .slice none 0 0]
  have hz0 : (w.alloc (.cells #[.int .i64 0, .slice none 0 0] 28)).heap.size = w.heap.size + 1 := by simp
  have HZ := Lib.hid hz0
  clear hz0
  have hcp := copyLists_any A n c zss (w.alloc (.cells #[.int .i64 0, .slice none 0 0] 28)) (ha.keep hb0) (by omega) hr
  go_enter Tryz.func25, Tryz.ntmps25
  go_wp2_with fail
  refine hcp.mono ?_
  rintro e w1 ⟨A1, n1, c1, rfl, ho1, hb1⟩
  obtain rfl : n1 = n := by rw [← ho1.len, hla.out]
  have hw1 := hb0.trans (hb1.mono hb0.size)
  have Y1 := Y.after hb1
  have hal := below_alloc w1 (.cells #[.int .i64 v, .slice A1 n1 c1] 28)
  have G := Blk.new w1 28 #[.int .i64 v, .slice A1 n1 c1]
  have Y2 := Y1.after hal
  have ho2 := ho1.below hal
  have hw2 := hw1.trans (hal.mono hw1.size)
  have hlY := Y1.lt
  have hA1 : ∀ b, blk A1 = some b → w.heap.size + 1 ≤ b ∧ b < w1.heap.size := fun b hb => by
    obtain ⟨vs1, hv1⟩ := ho1
    have := hv1.os.lt hb
    rw [HZ.out] at this
    exact this
  have hso := sortOR_any _ A1 n1 c1 _ _ ho2 (by omega)
  obtain ⟨g0, g1⟩ := G.cells2
  have HA1 := Lib.hid hA1
  clear hcp ho1 hA1
  go_wp2_with fail
  refine hso.mono ?_
  rintro e w3 ⟨rfl, ho3, hg3⟩
  have G3 := G.grown hg3 (fun e => by have := (HA1.out _ e.symm).2; omega)
  have Y3 := Y2.grown hg3 (fun e => by have := (HA1.out _ e.symm).1; omega)
  have hw3 := below_own hw2 hg3 hw2.size (fun b hb => by have := (HA1.out b hb).1; omega)
  clear hso hg3 g0 g1 ho2
  obtain ⟨g0, g1⟩ := G3.cells2
  obtain ⟨y0, y1⟩ := Y3.cells2
  have f0 := Y3.frozen 0
  have f1 := Y3.frozen 1
  have YF := (Y3.set_ 0 (.int .i64 v)).set_ 1 (.slice A1 n1 c1)
  obtain ⟨z0, z1⟩ : ((w3.setCell ⟨w.heap.size, 0, none⟩ (.int .i64 v)).setCell ⟨w.heap.size, 1, none⟩ (.slice A1 n1 c1)).cell? ⟨w.heap.size, 0, none⟩ = some (.int .i64 v) ∧ ((w3.setCell ⟨w.heap.size, 0, none⟩ (.int .i64 v)).setCell ⟨w.heap.size, 1, none⟩ (.slice A1 n1 c1)).cell? ⟨w.heap.size, 1, none⟩ = some (.slice A1 n1 c1) := ⟨YF.cell 0, YF.cell 1⟩
  go_wp2
  refine bodyPost_ret (v := .tuple #[.agg #[.int .i64 v, .slice A1 n1 c1], .int .i64 0]) (by simp [results, Tryz.results25, go_sem, z0, z1]) rfl ?_
  refine ⟨A1, c1, rfl, ?_, (hw3.setCell (p := ⟨w.heap.size, 0, none⟩) (by simp) _).setCell (p := ⟨w.heap.size, 1, none⟩) (by simp) _⟩
  refine OR.more ((ho3.setLow (p := ⟨w.heap.size, 0, none⟩) ?_ _).setLow (p := ⟨w.heap.size, 1, none⟩) ?_ _) (by rw [HZ.out]; omega)
  all_goals
    rw [HZ.out]
    show w.heap.size < w.heap.size + 1
    omega
end Go.Proofs.YtnmcmologlgccaaGreat
