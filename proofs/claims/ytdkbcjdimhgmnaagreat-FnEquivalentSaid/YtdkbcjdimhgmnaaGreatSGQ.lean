/- slices.SortFunc by slices.Compare, on slices of numbers in a row that a call owns. No condition beyond those stated. -/
import Derived.Test.YtdkbcjdimhgmnaaGreatSGN
import Derived.Test.YtdkbcjdimhgmnaaGreatSGP
set_option linter.unusedVariables false
set_option linter.unusedSimpArgs false
namespace Go.Proofs.YtdkbcjdimhgmnaaGreat
open Go.RowKit Go.Sort
section
variable {α : Type} [Inhabited α] {enc : α → Value} {w : World} {B : Nat} {e : TypeId} {g n c : Nat} {l ts : List α}
theorem holds_of_os (h : OS w B e 1 (some ⟨g, 0, none⟩) n c (l.map enc)) : Holds enc w g 0 l.toArray := fun j hj => by
  have hj' : j < l.length := by simpa using hj
  obtain ⟨g', e1, hc, hf⟩ := h.cell (j := j) (u := enc l[j]) (by simp [hj'])
  injection e1 with e1
  injection e1 with e1
  subst e1
  rw [Nat.zero_add]
  exact ⟨by rw [hc]; simp [hj'], hf⟩
theorem grownBy_sorted {m : Nat} {os : Array Obj} (d : Array α) : w.grownBy (sortWorld enc w g 0 m d os) (some g) := by
  refine ⟨rfl, rfl, rfl, by simp [sortWorld, grow, putRow, mapBlock, Sort.ahead], fun k hk hne => ?_⟩
  unfold sortWorld
  rw [heap_grow_old _ _ (by simpa [putRow, mapBlock, Sort.ahead] using hk)]
  have : g ≠ k := fun e => hne (by rw [e])
  simp [putRow, mapBlock, Sort.ahead, Array.getElem?_modify, this]
theorem os_sorted {m : Nat} {os : Array Obj} (h : OS w B e 1 (some ⟨g, 0, none⟩) n c (l.map enc)) (hl : ts.length = l.length) : OS (sortWorld enc w g 0 m ts.toArray os) B e 1 (some ⟨g, 0, none⟩) n c (ts.map enc) := by
  have hlen := h.len
  simp at hlen
  rcases h.cases with ⟨h0, _⟩ | ⟨g', cur, h0, hB, hg, hnc, hc, hs, ht⟩
  · cases h0
  · injection h0 with h0
    injection h0 with h0
    subst h0
    have hgl : g < w.heap.size := (Array.getElem?_eq_some_iff.1 hg).1
    have hblk : (sortWorld enc w g 0 m ts.toArray os).heap[g]? = some (.cells (putCells enc 0 ts.toArray cur) e (0, 0)) := by
      unfold sortWorld
      rw [heap_grow_old _ _ (by simpa [putRow, mapBlock, Sort.ahead] using hgl)]
      simp [putRow, mapBlock, Sort.ahead, Array.getElem?_modify, hg, onCells]
    refine ⟨by simp [hl, hlen], .inr ⟨g, c, _, rfl, hB, hblk, hnc, hc, by simp [putCells, hs], ?_⟩⟩
    rw [Nat.mul_one] at hs ⊢
    apply List.ext_getElem?
    intro j
    by_cases hj : j < n
    · rw [List.getElem?_take_of_lt hj, Array.getElem?_toList]
      simp [putCells, show j < ts.length by omega, show j < cur.size by omega]
    · rw [List.getElem?_take_eq_none (by omega), List.getElem?_eq_none (by simp; omega)]
end
def Reads (w : World) (g : Nat) (p : PL) : Prop := p.1.2.1 ≤ p.1.2.2 ∧ p.1.2.2 ≤ 9223372036854775807 ∧ RI w p.1.1 p.1.2.1 p.2 ∧ blk p.1.1 ≠ some g
abbrev RP (w : World) (g : Nat) := { p : PL // Reads w g p }
instance (w : World) (g : Nat) : Inhabited (RP w g) := ⟨⟨((none, 0, 0), []), Nat.le_refl _, by simp, RS.nil_ _ _ _, by simp [blk]⟩⟩
def encR {w : World} {g : Nat} (p : RP w g) : Value := slv p.1.1
def cmpR {w : World} {g : Nat} (x y : RP w g) : Int := cmpL x.1.2 y.1.2
theorem attach_map {w : World} {g : Nat} (Z : List PL) (h : ∀ p ∈ Z, Reads w g p) : ∃ l : List (RP w g), l.map (·.1) = Z := by
  induction Z with
  | nil => exact ⟨[], rfl⟩
  | cons p r ih =>
    obtain ⟨l, hl⟩ := ih fun q hq => h q (List.mem_cons_of_mem _ hq)
    exact ⟨⟨p, h p List.mem_cons_self⟩ :: l, by simp [hl]⟩
theorem ltR {w : World} {g : Nat} (x y : RP w g) : ltOf cmpR x y = decide (cmpL x.1.2 y.1.2 < 0) := rfl
theorem swoR (w : World) (g : Nat) : SWO (ltOf (cmpR (w := w) (g := g))) where
  irrefl := fun x => by rw [ltR, cmpL_refl]; rfl
  trans := fun x y z h1 h2 => by
    rw [ltR, decide_eq_true_iff] at *
    exact cmpL_ord.lt_trans h1 h2
  ntrans := fun x y z h1 h2 => by
    rw [ltR, decide_eq_false_iff_not] at *
    have a := cmpL_swap x.1.2 y.1.2
    have b := cmpL_swap y.1.2 z.1.2
    have c := cmpL_swap x.1.2 z.1.2
    have := cmpL_trans (xs := z.1.2) (ys := y.1.2) (zs := x.1.2) (by omega) (by omega)
    omega
theorem cmpLaysR (w : World) (g n : Nat) : CmpLays1 Tryz.prog 85 #[] (encR (w := w) (g := g)) cmpR g 0 n w := by
  intro m os dk _ x y
  obtain ⟨⟨⟨A1, n1, c1⟩, z1⟩, h1, h2, h3, h4⟩ := x
  obtain ⟨⟨⟨A0, n0, c0⟩, z0⟩, k1, k2, k3, k4⟩ := y
  simp only at h1 h2 h3 h4 k1 k2 k3 k4
  have hg := grownBy_sorted (enc := encR (w := w) (g := g)) (w := w) (g := g) (m := m) (os := os) dk
  refine (slicesCompare_any A1 A0 n1 n0 c1 c0 z1 z0 _ (h3.kept hg h4) (k3.kept hg k4) (by omega) (by omega)).mono ?_
  rintro e w' ⟨he, rfl⟩
  exact ⟨he, 0, #[], by rw [grow_empty]; rfl⟩
set_option maxHeartbeats 1000000 in
theorem sortR_own (B g n c : Nat) (Z : List PL) (w : World) (ho : PV w B 22 g n c Z) (hn : n ≤ 1048576) (hgl : g < w.heap.size) :
    Calls Tryz.prog 84 #[.slice (some ⟨g, 0, none⟩) n c, .func (.func 85) #[] #[]] w (fun e w' => ∃ Y, e = .returned (.tuple #[]) ∧ PV w' B 22 g n c Y ∧ Y.Perm Z ∧ SortedL cmpL (Y.map (·.2)) ∧ w.grownBy w' (some g)) := by
  obtain ⟨l, hl⟩ := attach_map (w := w) (g := g) Z ho.rows
  have hlen := ho.len
  have hll : l.length = n := by rw [← hlen, ← hl, List.length_map]
  have hos : OS w B 22 1 (some ⟨g, 0, none⟩) n c (l.map encR) := by
    have := ho.os
    rw [← hl, List.map_map] at this
    exact this
  have hH := holds_of_os hos
  have eg : ∀ (args : Array Value) (w : World), (callFunc 85 args).run Tryz.prog w = .ok (.enter 85 args) w := fun _ _ => by kernel_rfl
  have hs : l.toArray.size = n := by simpa using hll
  have hcall := Any.slices_SortFunc Tryz.srfL (encR (w := w) (g := g)) (fun x => rfl) cmpR (swoR w g) 85 #[] g 0 c l.toArray w eg (by rw [hs]; exact cmpLaysR w g n) hH hgl (by rw [hs]; omega)
  rw [hs] at hcall
  refine hcall.mono ?_
  rintro e w' ⟨he, d', m, os, hp, hsd, rfl⟩
  obtain ⟨hp1, hp2, hp3⟩ := hp
  have hd : d'.size = n := by rw [hp1, hs]
  have hperm : d'.toList.Perm l := by
    have e1 : (d'.extract 0 n).toList = d'.toList := by
      rw [show d'.extract 0 n = d' by rw [← hd]; simp]
    have e2 : (l.toArray.extract 0 n).toList = l := by
      rw [show l.toArray.extract 0 n = l.toArray by rw [← hs]; simp]
    rwa [e1, e2] at hp3
  have hg := grownBy_sorted (enc := encR (w := w) (g := g)) (w := w) (g := g) (m := m) (os := os) d'
  refine ⟨d'.toList.map (·.1), he, ⟨?_, fun p hp => ?_⟩, ?_, ?_, hg⟩
  · have := os_sorted (m := m) (os := os) hos (ts := d'.toList) (by rw [hperm.length_eq])
    rw [List.map_map]
    exact this
  · obtain ⟨q, hq, rfl⟩ := List.mem_map.1 hp
    obtain ⟨a, b, c', d⟩ := q.2
    exact ⟨a, b, c'.kept hg d, d⟩
  · rw [← hl]
    exact hperm.map _
  · rw [List.map_map, SortedL, List.pairwise_map, List.pairwise_iff_getElem]
    intro i j hi hj hij
    have h1 := hsd i j (Nat.zero_le _) hij (by simpa [hd] using hj)
    have hi' : i < d'.size := by simpa using hi
    have hj' : j < d'.size := by simpa using hj
    rw [getElem!_pos d' i hi', getElem!_pos d' j hj', ltR, decide_eq_false_iff_not] at h1
    have := cmpL_swap (d'[j].1.2) (d'[i].1.2)
    simp only [Function.comp, Array.getElem_toList]
    omega
theorem sortR_any (B g n c : Nat) (Z : List PL) (w : World) (ho : PV w B 22 g n c Z) (hn : n ≤ 1048576) (hgl : g < w.heap.size) :
    Calls Tryz.prog 84 #[.slice (some ⟨g, 0, none⟩) n c, .func (.func 85) #[] #[]] w (fun e w' => ∃ Y, e = .returned (.tuple #[]) ∧ PV w' B 22 g n c Y ∧ (Y.map (·.2)).Perm (Z.map (·.2)) ∧ SortedL cmpL (Y.map (·.2)) ∧ w.grownBy w' (some g)) :=
  (sortR_own B g n c Z w ho hn hgl).mono fun _ _ ⟨Y, h1, h2, h3, h4, h5⟩ => ⟨Y, h1, h2, h3.map _, h4, h5⟩
end Go.Proofs.YtdkbcjdimhgmnaaGreat
namespace Go.Proofs.YtdkbcjdimhgmnaaGreat
open Go.RowKit Go.Sort
theorem cmpLaysT (w : World) (g n : Nat) (K : PL) (hK : Reads w g K) : CmpLaysT Tryz.prog 85 #[] (encR (w := w) (g := g)) (slv K.1) (fun x => cmpL x.1.2 K.2) g 0 n w := by
  intro m os dk _ x
  obtain ⟨⟨⟨A1, n1, c1⟩, z1⟩, h1, h2, h3, h4⟩ := x
  obtain ⟨⟨A0, n0, c0⟩, z0⟩ := K
  obtain ⟨k1, k2, k3, k4⟩ := hK
  simp only at h1 h2 h3 h4 k1 k2 k3 k4
  have hg := grownBy_sorted (enc := encR (w := w) (g := g)) (w := w) (g := g) (m := m) (os := os) dk
  refine (slicesCompare_any A1 A0 n1 n0 c1 c0 z1 z0 _ (h3.kept hg h4) (k3.kept hg k4) (by omega) (by omega)).mono ?_
  rintro e w' ⟨he, rfl⟩
  exact ⟨he, 0, #[], by rw [grow_empty]; rfl⟩
theorem below_sorted {α : Type} [Inhabited α] {enc : α → Value} {w : World} {g m : Nat} {os : Array Obj} {d : Array α} (h : Holds enc w g 0 d) : Below w.heap.size w (sortWorld enc w g 0 m d os) := by
  unfold sortWorld
  rw [putRow_ahead, putRow_self _ _ _ _ _ h]
  refine ⟨rfl, rfl, rfl, by simp [grow, Sort.ahead], fun k hk => ?_⟩
  rw [heap_grow_old _ _ (by simpa [Sort.ahead] using hk)]
  rfl
set_option maxHeartbeats 1000000 in
theorem searchR_any (B g n c : Nat) (Z : List PL) (K : PL) (w : World) (ho : PV w B 22 g n c Z) (hn : n ≤ 1048576) (hgl : g < w.heap.size) (hK : Reads w g K) (hs : StrictL cmpL (Z.map (·.2))) :
    Calls Tryz.prog 256 #[.slice (some ⟨g, 0, none⟩) n c, .slice K.1.1 K.1.2.1 K.1.2.2, .func (.func 85) #[] #[]] w (fun e w' => ∃ b, e = .returned (.tuple #[.int .i64 (idxG cmpL (Z.map (·.2)) K.2 : Nat), .bool b]) ∧ Below w.heap.size w w') := by
  obtain ⟨l, hl⟩ := attach_map (w := w) (g := g) Z ho.rows
  have hlen := ho.len
  have hll : l.length = n := by rw [← hlen, ← hl, List.length_map]
  have hos : OS w B 22 1 (some ⟨g, 0, none⟩) n c (l.map encR) := by
    have := ho.os
    rw [← hl, List.map_map] at this
    exact this
  have hH := holds_of_os hos
  have eg : ∀ (args : Array Value) (w : World), (callFunc 85 args).run Tryz.prog w = .ok (.enter 85 args) w := fun _ _ => by kernel_rfl
  have hsz : l.toArray.size = n := by simpa using hll
  have hcall := Any.slices_BinarySearchFunc Tryz.bsfL (encR (w := w) (g := g)) (fun x => rfl) (slv K.1) (fun x => cmpL x.1.2 K.2) 85 #[] g 0 c l.toArray w eg (by rw [hsz]; exact cmpLaysT w g n K hK) hH hgl (by rw [hsz]; omega)
    (fun a b hab hb h => by
      have hb' : b < l.length := by simpa using hb
      have ha' : a < l.length := by omega
      rw [getElem!_pos l.toArray b hb] at h
      rw [getElem!_pos l.toArray a (by simpa using ha')]
      simp only [List.getElem_toArray] at h ⊢
      rcases Nat.eq_or_lt_of_le hab with rfl | hlt
      · exact h
      · have hp : StrictL cmpL (l.map fun x => x.1.2) := by
          have := hs
          rwa [← hl, List.map_map] at this
        have := List.pairwise_iff_getElem.1 hp a b (by simpa using ha') (by simpa using hb') hlt
        simp only [List.getElem_map] at this
        exact cmpL_ord.lt_trans this h)
  rw [hsz] at hcall
  refine hcall.mono ?_
  rintro e w' ⟨he, m, os, rfl⟩
  have hcnt : l.toArray.toList.countP (fun x => decide (cmpL x.1.2 K.2 < 0)) = idxG cmpL (Z.map (·.2)) K.2 := by
    unfold idxG
    rw [← hl, List.map_map, List.countP_map]
    rfl
  rw [hcnt] at he
  exact ⟨_, he, below_sorted hH⟩
end Go.Proofs.YtdkbcjdimhgmnaaGreat
namespace Go.Proofs.YtdkbcjdimhgmnaaGreat
open Go.RowKit
set_option maxHeartbeats 1000000 in
theorem cloneR_any (B0 g0 n c : Nat) (vs : List Sl) (zss : List (List Int)) (w : World) (ho : OS w B0 22 1 (some ⟨g0, 0, none⟩) n c (vs.map slv)) (hr : Rows w vs zss) (hb : ∀ v ∈ vs, ∀ b, blk v.1 = some b → b < w.heap.size) (hn : n ≤ 1048576) :
    Calls Tryz.prog 255 #[.slice (some ⟨g0, 0, none⟩) n c] w (fun e w' => ∃ g c', e = .returned (.slice (some ⟨g, 0, none⟩) n c') ∧ PV w' w.heap.size 22 g n c' (vs.zip zss) ∧ w.heap.size ≤ g ∧ g < w'.heap.size ∧ Below w.heap.size w w') := by
  have hlen : vs.length = n := by have := ho.len; simpa using this
  have hcap := ho.cap
  have ho0 : OS (w.alloc (.cells #[] 22)) w.heap.size 22 1 (some ⟨w.heap.size, 0, none⟩) 0 0 (([] : List Sl).map slv) := OS.lit w w.heap.size 22 1 0 #[] (Nat.le_refl _) rfl (by omega)
  have hb0 := below_alloc w (.cells #[] 22)
  have hos := ho.below hb0
  have hq := fun (wx : World) => Lib.run_eql_slice_nil (P := Tryz.prog) wx 25 22 (some ⟨g0, 0, none⟩) n c 0 0 Tryz.underlying25
  simp only [Option.isNone_some] at hq
  have HL := Lib.hid hlen
  clear hlen
  go_enter Tryz.func255, Tryz.ntmps255
  go_wp2_with (at_builtin; refine wpList_app _ rfl (.tmp 5) (.tmp 6) 25 rfl 22 (.slice none 0 0) 1 24 Tryz.underlying25 ints_info rfl (by omega) (by omega) w.heap.size _ 0 0 _ rfl ho0 _ n c (vs.map slv) rfl (by simp [HL.out]) (fun j u hu => hos.cells j u hu) (slv_oneCell vs) (by omega) (by simp) ?_; intro A' c' w' ho1 hg1 hn1)
  have hw' := below_own hb0 hg1 (by simp) (fun b hb => by simp [blk] at hb; omega)
  have hA : ∃ g, A' = some ⟨g, 0, none⟩ ∧ w.heap.size ≤ g ∧ g < w'.heap.size := by
    rcases ho1.cases with ⟨rfl, _⟩ | ⟨g, cur, rfl, h1, h2, _⟩
    · rcases hn1 with h | h <;> simp [blk] at h
    · exact ⟨g, rfl, h1, (Array.getElem?_eq_some_iff.1 h2).1⟩
  obtain ⟨g, rfl, hg1', hg2'⟩ := hA
  go_ret
  have hz : (0 : Nat) + n = n := by omega
  rw [hz] at ho1
  refine ⟨g, c', rfl, ⟨?_, fun p hp => ?_⟩, hg1', hg2', hw'⟩
  · have e : (vs.zip zss).map (fun p => slv p.1) = vs.map slv := by
      have : ((vs.zip zss).map Prod.fst).map slv = vs.map slv := by rw [List.map_fst_zip (by rw [hr.len]; exact Nat.le_refl _)]
      rw [← this, List.map_map]
      rfl
    rw [e]
    simpa using ho1
  · obtain ⟨v, z⟩ := p
    obtain ⟨j, hj, e⟩ := List.mem_iff_getElem.1 hp
    have hj' : j < vs.length ∧ j < zss.length := by simp at hj; omega
    rw [List.getElem_zip] at e
    injection e with e1 e2
    subst e1; subst e2
    obtain ⟨h1, h2, h3⟩ := hr.row j _ _ (List.getElem?_eq_getElem hj'.1) (List.getElem?_eq_getElem hj'.2)
    refine ⟨h1, h2, h3.keep hw', fun e => ?_⟩
    have := hb _ (List.getElem_mem hj'.1) _ e
    omega
end Go.Proofs.YtdkbcjdimhgmnaaGreat
namespace Go.Proofs.YtdkbcjdimhgmnaaGreat
open Go.RowKit Go.Sort
def keysF (near : List (List Int)) (cells : List Int) (k n : Nat) : List (List Int) := keysTo near cells k ++ List.replicate (n - k) []
theorem keysF_zero (near : List (List Int)) (cells : List Int) (n : Nat) : keysF near cells 0 n = List.replicate n [] := by simp [keysF, keysTo]
theorem keysF_step (near : List (List Int)) (cells : List Int) {k n : Nat} (h : k < n) : (keysF near cells k n).set k (keyP near cells k) = keysF near cells (k + 1) n := by
  unfold keysF
  rw [List.set_append_right _ _ (by rw [keysTo_len]; omega), keysTo_len, Nat.sub_self, show n - k = (n - (k + 1)) + 1 by omega, List.replicate_succ, List.set_cons_zero, keysTo_step, List.append_assoc]
  rfl
theorem keysF_all (near : List (List Int)) (cells : List Int) (n : Nat) : keysF near cells n n = keysTo near cells n := by simp [keysF]
def nextF (zs : List Int) (k : Nat) : List Int := zs.take k ++ List.replicate (zs.length - k) 0
theorem nextF_zero (zs : List Int) : nextF zs 0 = List.replicate zs.length 0 := by simp [nextF]
theorem nextF_step {zs : List Int} {k : Nat} (h : k < zs.length) : (nextF zs k).set k (nth zs k) = nextF zs (k + 1) := by
  have hl : (zs.take k).length = k := by rw [List.length_take]; omega
  unfold nextF
  rw [List.set_append_right _ _ (by omega), hl, Nat.sub_self, show zs.length - k = (zs.length - (k + 1)) + 1 by omega, List.replicate_succ, List.set_cons_zero, List.take_succ_eq_append_getElem h, List.append_assoc, nth_get h]
  rfl
theorem nextF_all (zs : List Int) : nextF zs zs.length = zs := by simp [nextF]
theorem PV.below {w w' : World} {B : Nat} {e2 : TypeId} {g n c : Nat} {Z : List PL} (h : PV w B e2 g n c Z) (hb : RowKit.Below w.heap.size w w') : PV w' B e2 g n c Z :=
  ⟨h.os.below hb, fun p hp => let ⟨a, b, d, e⟩ := h.rows p hp; ⟨a, b, d.keep hb, e⟩⟩
set_option maxRecDepth 100000 in
set_option maxHeartbeats 4000000 in
theorem refineOnce_any (L : Option Addr) (n c : Nat) (near : List (List Int)) (A : Option Addr) (d : Nat) (cells : List Int) (w : World) (ha : RR w L n near) (hc : RI w A n cells) (hn : n ≤ 4096) (hnr : Nears n near) :
    Calls Tryz.prog 235 #[.slice L n c, .slice A n d] w (RetI w 2 (roundP near cells)) := by
  have hla := Lib.hid ha.len
  have hlc := Lib.hid hc.len
  have HN := Lib.hid hnr; clear hnr
  have hmk := run_make_row' (P := Tryz.prog) 25 22 (.slice none 0 0) 24 Tryz.underlying25 ints_info rfl .i64 .i64 n (by omega) (by omega)
  have ho0 := OR.made w w.heap.size (e2 := 22) (e1 := 2) (by decide) n (Nat.le_refl _) (by omega)
  have hw0 := below_alloc w (.cells (madeCells #[.slice none 0 0] n) 22)
  go_enter Tryz.func235, Tryz.ntmps235
  go_wp2
  clear hmk
  go_loopw [22] (fun i wr => ∃ k : Nat, k ≤ n ∧ i = .int .i64 k ∧ OR wr w.heap.size 22 2 (some ⟨w.heap.size, 0, none⟩) n n (keysF near cells k n) ∧ Below w.heap.size w wr) (fun i _ => n - (intOf i).toNat)
  case atStart => exact ⟨0, Nat.zero_le _, rfl, by rw [keysF_zero]; exact ho0, hw0⟩
  case round =>
    clear ho0 hw0
    obtain ⟨k, hk, rfl, ho, hw⟩ := hrel
    by_cases hlt : k < n
    · obtain ⟨aL, Y, p1, q1, rfl, hcL, hp1, hq1, hri⟩ := (ha.keep hw).get hlt
      obtain ⟨aC, rfl, hcC, hiC⟩ := (hc.keep hw).get hlt
      have hly := Lib.hid hri.len
      have hfew := HN.out.few k hlt
      have hp1n : p1 ≤ n := by rw [← hly.out]; exact hfew
      have HK := Lib.hid (keyP_arTo near cells k)
      rw [hly.out] at HK
      have HO := Lib.hid ho
      have hsz := hw.size
      clear ho hfew
      generalize nth cells k = z at *
      go_wp2
      obtain ⟨wo, rfl⟩ : ∃ wo : World, wo = wr := ⟨_, rfl⟩
      go_loopw [8, 32] (fun v i w2 => ∃ (j : Nat) (A2 : Option Addr) (c2 : Nat), j ≤ p1 ∧ i = .int .i64 j ∧ v = .slice A2 j c2 ∧ OI w2 wo.heap.size 2 A2 j c2 (arTo near cells k j) ∧ Below wo.heap.size wo w2) (fun _ i _ => p1 - (intOf i).toNat)
      case atStart => exact ⟨0, _, _, Nat.zero_le _, rfl, rfl, by rw [arTo_zero]; exact OI.nil_ _ _ _, Below.refl _ _⟩
      case round =>
        obtain ⟨j, A2, c2, hj, rfl, rfl, hl, hb⟩ := hrel
        by_cases hjl : j < p1
        · obtain ⟨aY, rfl, hcY, hiY⟩ := (hri.keep hb).get hjl
          obtain ⟨u, hu, hun⟩ := HN.out.at_ hlt (i := j) (by rw [hly.out]; exact hjl)
          obtain ⟨aC2, e2, hcU, hiU⟩ := (hc.keep (below_then hw hb)).get hun
          injection e2 with e2
          subst e2
          have HA := Lib.hid (arTo_step (cells := cells) (by rw [hly.out]; exact hjl) hu)
          rw [hu] at hcY
          clear hu hiY
          generalize nth cells u = zu at *
          go_wp2_with (at_builtin; refine app_int _ rfl (.tmp 36) (.tmp 41) rfl wo.heap.size A2 j c2 _ rfl hl zu _ rfl (by simp) hiU (by omega) hb.size ?_; intro A3 c3 w3 ho3 hg3 hn3)
          have hw3 := below_own hb hg3 hb.size (fun b hb => (hl.os.lt hb).1)
          clear hl hg3 hn3 hcY hcU
          go_roundw
          case rel => exact ⟨j + 1, _, _, by omega, by go_num, rfl, by rw [HA.out]; exact ho3, hw3⟩
          case measure => simp [intOf]; omega
        · obtain rfl : j = p1 := by omega
          generalize arTo near cells k j = ar at *
          go_wp2_with fail
          refine (sort_any wo.heap.size 2 A2 j c2 ar wr hl (by omega)).mono ?_
          rintro e w3 ⟨rfl, hl3, hg3⟩
          have hb3 := below_own hb hg3 hb.size (fun b hb => (hl.os.lt hb).1)
          have hone := OI.lit w3 wo.heap.size 2 [z] hb3.size (by simp) (All64.one hiC)
          have hrl := hl3.reads.keep (below_alloc w3 (.cells #[.int .i64 z] 2))
          have hb4 := hb3.alloc hb3.size (.cells #[.int .i64 z] 2)
          clear hl hb hg3
          obtain ⟨vs, hov⟩ := HO.out
          obtain ⟨g, v, eg, hv, hcg, hfg, hoi⟩ := hov.get hlt
          injection eg with eg
          injection eg with eg
          subst eg
          have hgl := block_lt hcg
          go_wp2_with (at_builtin; refine app_ints _ rfl (.tmp 49) (.tmp 50) rfl wo.heap.size (some ⟨w3.heap.size, 0, none⟩) 1 1 [z] rfl hone A2 j c2 (srt ar) rfl hrl (by omega) (by have := hb3.size; simp; omega) ?_; intro A4 c4 w4 ho4 hg4 hn4; have hb5 := below_own hb4 hg4 (by have := hb3.size; simp; omega) (fun b hb => (hone.os.lt hb).1); have hcg4 := below_cell hb5 hcg; have hfg4 : w4.frozen? ⟨w.heap.size, k, none⟩ = false := (hb5.frozen (p := ⟨w.heap.size, k, none⟩) hgl).trans hfg)
          have hor := hov.upd (v' := (A4, 1 + j, c4)) hv (grownBy_of_below hb5 _) (ho4.more hsz) (by
            cases h : blk A4 with
            | none => exact .inl rfl
            | some b => exact .inr (.inr ⟨b, rfl, (ho4.os.lt h).1⟩))
          have hw4 := (hw.trans (hb5.mono hsz)).setCell (p := ⟨w.heap.size, k, none⟩) (Nat.le_refl _) (.slice A4 (1 + j) c4)
          have HS := Lib.hid (keysF_step near cells hlt)
          rw [HK.out] at HS
          clear hov ho4 hg4 hn4 hb5 hone hrl hb4 hcg4 hfg4 hcg hfg hoi hl3 hb3 hcL hcC
          go_roundw
          case rel => exact ⟨k + 1, by omega, by go_num, by rw [← HS.out]; exact hor, hw4⟩
          case measure => simp [intOf]; omega
    · obtain rfl : k = n := by omega
      rw [keysF_all] at ho
      obtain ⟨vs, hov⟩ := ho
      have hrw : Rows wr vs (keysTo near cells k) := ⟨hov.len, fun j v z hv hz => let h := hov.rows j v z hv hz; ⟨h.os.cap.1, h.os.cap.2, h.reads⟩⟩
      have hbv : ∀ v ∈ vs, ∀ b, blk v.1 = some b → b < wr.heap.size := fun v hv b hb => by
        obtain ⟨j, hj, rfl⟩ := List.mem_iff_getElem.1 hv
        exact (hov.row_lt (List.getElem?_eq_getElem hj) hb).2
      have HV := Lib.hid hbv
      have HRW := Lib.hid hrw
      have hsz := hw.size
      have hcloned := cloneR_any w.heap.size w.heap.size k k vs (keysTo near cells k) wr hov.os hrw hbv (by omega)
      clear hlt hk hbv hrw
      go_wp2_with fail
      refine hcloned.mono ?_
      rintro e w1 ⟨g, c1, rfl, hp1, hg1, hg2, hb1⟩
      clear hcloned
      go_wp2_with fail
      refine (sortR_any wr.heap.size g k c1 _ w1 hp1 (by omega) hg2).mono ?_
      rintro e w2 ⟨Y, rfl, hp2, hperm, hsorted, hgr2⟩
      have hb2 := hb1.grown hgr2 hb1.size (fun b hb => by injection hb with hb; omega)
      have hg3 : g < w2.heap.size := Nat.lt_of_lt_of_le hg2 hgr2.size
      clear hp1 hgr2
      go_wp2_with fail
      refine (compactR_any wr.heap.size g k c1 Y w2 hp2 (by omega) hg3).mono ?_
      rintro e w3 ⟨m, Y2, rfl, hp3, hcomp, hgr3⟩
      have hb3 := hb2.grown hgr3 hb2.size (fun b hb => by injection hb with hb; omega)
      have hg4 : g < w3.heap.size := Nat.lt_of_lt_of_le hg3 hgr3.size
      have HK := Lib.hid (show Y2.map (·.2) = kindsP near cells by
        rw [hcomp]
        refine setG_comp cmpL_ord hsorted fun x => ?_
        rw [hperm.mem_iff, List.map_snd_zip (by rw [hov.len]; exact Nat.le_refl _), ← hlc.out]
        rfl)
      have hmk := run_make_row' (P := Tryz.prog) 22 2 (.int .i64 0) 8 Tryz.underlying22 int_info rfl .i64 .i64 k (by omega) (by omega)
      have hnx := OI.made w3 w3.heap.size 2 k (Nat.le_refl _) (by omega)
      have hb0 := below_alloc w3 (.cells (madeCells #[.int .i64 0] k) 2)
      have HC := Lib.hid (fun j (hj : j < k) => by
        obtain ⟨g', v, e, hv, hc1, _, _⟩ := hov.get hj
        injection e with e
        injection e with e
        subst e
        exact ⟨v, hv, hc1⟩ : ∀ j, j < k → ∃ v, vs[j]? = some v ∧ wr.cell? ⟨w.heap.size, j, none⟩ = some (.slice v.1 v.2.1 v.2.2))
      have HB := Lib.hid hb3
      have hwl := Lib.hid hw
      have HM := Lib.hid (show m ≤ k by have h1 := hp3.len; have h2 := congrArg List.length HK.out; rw [List.length_map] at h2; have h3 := kindsP_len (near := near) (cells := cells); rw [hlc.out] at h3; omega)
      clear hp2 hgr3 hperm hsorted hcomp hov hb1 hb2 hb3 hw
      go_wp2
      clear hmk
      obtain ⟨wq, rfl⟩ : ∃ wq : World, wq = w3 := ⟨_, rfl⟩
      go_loopw [65] (fun i w4 => ∃ j : Nat, j ≤ k ∧ i = .int .i64 j ∧ OI w4 wq.heap.size 2 (some ⟨wq.heap.size, 0, none⟩) k k (nextF (roundP near cells) j) ∧ Below wq.heap.size wq w4) (fun i _ => k - (intOf i).toNat)
      case atStart => exact ⟨0, Nat.zero_le _, rfl, by rw [nextF_zero, roundP_len, hlc.out]; exact hnx, hb0⟩
      case round =>
        clear hnx hb0
        obtain ⟨j, hj, rfl, hl, hb⟩ := hrel
        by_cases hjl : j < k
        · obtain ⟨⟨K1, K2, K3⟩, hv, hcK⟩ := HC.out j hjl
          have hz : (keysTo near cells k)[j]? = some (keyP near cells j) := by simp [keysTo, hjl]
          obtain ⟨r1, r2, r3⟩ := HRW.out.row j _ _ hv hz
          have hbw := HB.out.trans (hb.mono HB.out.size)
          have hK : Reads wr g ((K1, K2, K3), keyP near cells j) := ⟨r1, r2, r3.keep hbw, fun e => by have := HV.out _ (List.mem_of_getElem? hv) _ e; omega⟩
          have hcK4 := below_cell hbw hcK
          have hp4 := hp3.below hb
          have hcall := searchR_any _ g m c1 Y2 ((K1, K2, K3), keyP near cells j) wr hp4 (by have := HM.out; omega) (Nat.lt_of_lt_of_le hg4 hb.size) hK (by rw [HK.out]; exact kindsP_strict)
          have HI := Lib.hid (show (idxG cmpL (Y2.map (·.2)) (keyP near cells j) : Int) = nth (roundP near cells) j by rw [HK.out, roundP_nth (by rw [hlc.out]; exact hjl)])
          have HS := Lib.hid (nextF_step (zs := roundP near cells) (k := j) (by rw [roundP_len, hlc.out]; exact hjl))
          have hbd := roundP_bd (near := near) (cells := cells) (v := j) (by rw [hlc.out]; exact hjl)
          rw [hlc.out] at hbd
          rw [HI.out] at hcall
          generalize nth (roundP near cells) j = x at *
          clear hz hv hcK r1 r2 r3 hK hp4
          go_wp2_with fail
          refine hcall.mono ?_
          rintro e w5 ⟨bb, rfl, hb5⟩
          have hl5 := hl.below hb5
          have hbb := below_then hb hb5
          have hl6 := hl5.set j (u := x) ⟨by omega, by omega⟩
          rw [HS.out] at hl6
          obtain ⟨g6, e6, hc6, hf6, _⟩ := hl5.cell (k := j) hjl
          injection e6 with e6
          injection e6 with e6
          subst e6
          have hw6 := hbb.setCell (p := ⟨wq.heap.size, j, none⟩) (Nat.le_refl _) (.int .i64 x)
          clear hl hb hb5 hl5 hcall hcK4 hbb
          go_wp2
          go_roundw
          case rel => exact ⟨j + 1, by omega, by go_num, hl6, hw6⟩
          case measure => simp [intOf]; omega
        · obtain rfl : j = k := by omega
          have HR := Lib.hid (show nextF (roundP near cells) j = roundP near cells by
            have := nextF_all (roundP near cells)
            rwa [roundP_len, hlc.out] at this)
          rw [HR.out] at hl
          have hend := hwl.out.trans ((HB.out.trans (hb.mono HB.out.size)).mono hsz)
          go_wp2
          go_ret
          exact ⟨_, _, _, rfl, hl.more (Nat.le_trans hsz HB.out.size), hend⟩
end Go.Proofs.YtdkbcjdimhgmnaaGreat
namespace Go.Proofs.YtdkbcjdimhgmnaaGreat
open Go.RowKit
theorem RI.unique {w : World} {A : Option Addr} {n : Nat} {zs ys : List Int} (h : RI w A n zs) (k : RI w A n ys) : zs = ys := by
  refine nth_ext (by rw [h.len, k.len]) fun j hj => ?_
  rw [h.len] at hj
  obtain ⟨a, e1, h1, _⟩ := h.get hj
  obtain ⟨b, e2, h2, _⟩ := k.get hj
  rw [e1] at e2
  injection e2 with e2
  subst e2
  rw [h1] at h2
  injection h2 with h2
  injection h2
noncomputable def readL (w : World) (v : Value) : List Int := @dite _ (∃ zs A n c, v = .slice A n c ∧ RI w A n zs) (Classical.propDecidable _) (fun h => h.choose) (fun _ => [])
theorem readL_eq {w : World} {A : Option Addr} {n c : Nat} {zs : List Int} (h : RI w A n zs) : readL w (.slice A n c) = zs := by
  have hex : ∃ zs A' n' c', Value.slice A n c = .slice A' n' c' ∧ RI w A' n' zs := ⟨zs, A, n, c, rfl, h⟩
  unfold readL
  rw [dif_pos hex]
  obtain ⟨A', n', c', e, h'⟩ := hex.choose_spec
  injection e with e1 e2 e3
  subst e1; subst e2
  exact h'.unique h
set_option maxRecDepth 100000 in
set_option maxHeartbeats 1000000 in
theorem refine_any (L : Option Addr) (n c : Nat) (near : List (List Int)) (A : Option Addr) (d : Nat) (cells : List Int) (w : World) (ha : RR w L n near) (hc : RI w A n cells) (hn : n ≤ 4096) (hnr : Nears n near) :
    Calls Tryz.prog 192 #[.slice L n c, .slice A n d] w (RetI w 2 (refP near cells)) := by
  have hlc := Lib.hid hc.len
  have HN := Lib.hid hnr; clear hnr
  go_enter Tryz.func192, Tryz.ntmps192
  go_wp2
  go_loopw [1] (fun v wr => ∃ (cur : List Int) (A' : Option Addr) (c' : Nat), v = .slice A' n c' ∧ RI wr A' n cur ∧ Below w.heap.size w wr ∧ cur.length = n ∧ refP near cells = refP near cur) (fun v wr => n + 1 - manyP (readL wr v))
  case atStart => exact ⟨cells, _, _, rfl, hc, Below.refl _ _, hlc.out, rfl⟩
  case round =>
    obtain ⟨cur, A', c', rfl, hcu, hw, hcl, hr⟩ := hrel
    have HCL := Lib.hid hcl
    have HR := Lib.hid hr
    have HRD := Lib.hid (readL_eq (c := c') hcu)
    have hmono := roundP_many (near := near) (cells := cur)
    have hle := manyP_le (roundP near cur)
    rw [roundP_len, hcl] at hle
    clear hcl hr
    go_wp2_with fail
    refine (refineOnce_any L n c near A' c' cur wr (ha.keep hw) hcu hn HN.out).mono ?_
    rintro e w3 ⟨A3, n3, c3, rfl, ho3, hb3⟩
    obtain rfl : n3 = n := by rw [← ho3.len, roundP_len, HCL.out]
    have hw3 := below_then hw hb3
    have ho3' := ho3.more hw.size
    have hcu3 := hcu.keep hb3
    clear hcu hb3 ho3 hw
    go_wp2_with fail
    refine (cellCount_any A3 n3 c3 (roundP near cur) w3 ho3'.reads (by omega)).mono ?_
    rintro e w4 ⟨rfl, hb4⟩
    have hcu4 := hcu3.keep hb4
    have ho4 := ho3'.below hb4
    have hw4 := below_then hw3 hb4
    clear hcu3 hb4 ho3' hw3
    go_wp2_with fail
    refine (cellCount_any A' n3 c' cur w4 hcu4 (by omega)).mono ?_
    rintro e w5 ⟨rfl, hb5⟩
    have ho5 := ho4.below hb5
    have hw5 := below_then hw4 hb5
    clear hcu4 hb5 ho4 hw4
    by_cases he : manyP (roundP near cur) = manyP cur
    · have HM := Lib.hid (refP_done (near := near) (cells := cur) he)
      rw [he]
      have hee : (((manyP cur : Nat) : Int) == ((manyP cur : Nat) : Int)) = true := by simp
      clear he
      go_wp2
      go_ret
      exact ⟨_, _, _, rfl, by rw [HR.out, HM.out]; exact ho5, hw5⟩
    · have HM := Lib.hid (refP_more (near := near) (cells := cur) he)
      have hq : manyP cur < manyP (roundP near cur) := by omega
      have hee : (((manyP (roundP near cur) : Nat) : Int) == ((manyP cur : Nat) : Int)) = false := by simp; omega
      have HRD2 := Lib.hid (readL_eq (c := c3) ho5.reads)
      clear he
      go_wp2
      go_roundw
      case rel => exact ⟨_, _, _, rfl, ho5.reads, hw5, by rw [roundP_len]; exact HCL.out, by rw [HR.out]; exact HM.out⟩
      case measure => rw [HRD.out, HRD2.out]; omega
structure Kp (pb : Nat) (r : Option Nat) (w w' : World) : Prop where
  size : w.heap.size ≤ w'.heap.size
  block : ∀ k, k < w.heap.size → k ≠ pb → some k ≠ r → w'.heap[k]? = w.heap[k]?
def Fresh (A' A : Option Addr) (n : Nat) : Prop := blk A' = blk A ∨ blk A' = none ∨ ∃ k, blk A' = some k ∧ n ≤ k
theorem Fresh.refl (A : Option Addr) (n : Nat) : Fresh A A n := .inl rfl
theorem Fresh.trans {A B C : Option Addr} {n m : Nat} (h : Fresh B A n) (k : Fresh C B m) (hm : n ≤ m) : Fresh C A n := by
  rcases k with k | k | ⟨b, k, h1⟩
  · rcases h with h | h | ⟨b, h, h1⟩
    · exact .inl (k.trans h)
    · exact .inr (.inl (k.trans h))
    · exact .inr (.inr ⟨b, k.trans h, h1⟩)
  · exact .inr (.inl k)
  · exact .inr (.inr ⟨b, k, Nat.le_trans hm h1⟩)
section
variable {pb : Nat} {r r' : Option Nat} {w w' w'' : World} {B : Nat} {e : TypeId} {size : Nat} {A : Option Addr} {n c : Nat}
theorem Kp.of_below (hb : Below w.heap.size w w') : Kp pb r w w' := ⟨hb.size, fun k hk _ _ => hb.block k hk⟩
theorem Kp.of_set (i : Nat) (u : Value) : Kp pb r w (w.setCell ⟨pb, i, none⟩ u) := ⟨by simp [World.setCell], fun k _ h _ => Below.heap_setCell _ _ _ _ h⟩
theorem Kp.of_grown (hg : w.grownBy w' r) : Kp pb r w w' := ⟨hg.size, fun k hk _ hr => hg.block k hk hr⟩
theorem Kp.trans (h : Kp pb r w w') (k : Kp pb r' w' w'') (hr : r' = r ∨ r' = none ∨ ∃ b, r' = some b ∧ w.heap.size ≤ b) : Kp pb r w w'' :=
  ⟨Nat.le_trans h.size k.size, fun b hb h1 h2 => by
    rw [k.block b (Nat.lt_of_lt_of_le hb h.size) h1 (fun e => by
      rcases hr with hr | hr | ⟨b', hr, hl⟩
      · exact h2 (e.trans hr)
      · rw [hr] at e; cases e
      · rw [hr] at e; injection e with e; omega)]
    exact h.block b hb h1 h2⟩
theorem Kp.trans' {A A' : Option Addr} (h : Kp pb (blk A) w w') (k : Kp pb (blk A') w' w'') (hr : Fresh A' A w.heap.size) : Kp pb (blk A) w w'' := h.trans k hr
theorem OS.kp {xs : List Value} (h : OS w B e size A n c xs) (k : Kp pb r w w') (h1 : some pb ≠ blk A) (h2 : blk A = none ∨ blk A ≠ r) : OS w' B e size A n c xs := by
  refine ⟨h.1, ?_⟩
  rcases h.2 with h3 | ⟨g, cap, cur, hv, hB, hg, q⟩
  · exact .inl h3
  · refine .inr ⟨g, cap, cur, hv, hB, ?_, q⟩
    injection hv with ha
    have hb : blk A = some g := by rw [ha]; rfl
    rw [k.block g (Array.getElem?_eq_some_iff.1 hg).1 (fun e => h1 (by rw [hb, e])) (fun e => by
      rcases h2 with h2 | h2
      · rw [hb] at h2; cases h2
      · exact h2 (by rw [hb]; exact e))]
    exact hg
theorem OI.kp {zs : List Int} (h : OI w B e A n c zs) (k : Kp pb r w w') (h1 : some pb ≠ blk A) (h2 : blk A = none ∨ blk A ≠ r) : OI w' B e A n c zs := ⟨h.os.kp k h1 h2, h.all⟩
end
structure BV (w : World) (B : Nat) (A : Option Addr) (n c : Nat) (vs : List Sl) (zss : List (List Int)) : Prop where
  os : OS w B 22 1 A n c (vs.map slv)
  len : vs.length = zss.length
  rows : ∀ (j : Nat) (v : Sl) (z : List Int), vs[j]? = some v → zss[j]? = some z → OI w B 2 v.1 v.2.1 v.2.2 z
section
variable {w w' : World} {B : Nat} {A : Option Addr} {n c : Nat} {vs : List Sl} {zss : List (List Int)}
theorem BV.nil_ (w : World) (B : Nat) : BV w B none 0 0 [] [] := ⟨OS.nil_ _ _ _ _, rfl, fun _ _ _ h => by simp at h⟩
theorem BV.slen (h : BV w B A n c vs zss) : zss.length = n := by have := h.os.len; have := h.len; simp at *; omega
theorem BV.below (h : BV w B A n c vs zss) (hb : Below w.heap.size w w') : BV w' B A n c vs zss := ⟨h.os.below hb, h.len, fun j v z hv hz => (h.rows j v z hv hz).below hb⟩
theorem BV.setLow (h : BV w B A n c vs zss) {p : Addr} (hp : p.block < B) (u : Value) : BV (w.setCell p u) B A n c vs zss := ⟨h.os.setLow hp u, h.len, fun j v z hv hz => (h.rows j v z hv hz).setLow hp u⟩
theorem BV.push (h : BV w B A n c vs zss) {v : Sl} {z : List Int} (ho : OI w B 2 v.1 v.2.1 v.2.2 z) {A' : Option Addr} {c' : Nat} (hg : w.grownBy w' (blk A)) (hos : OS w' B 22 1 A' (n + 1) c' (vs.map slv ++ [.slice v.1 v.2.1 v.2.2])) :
    BV w' B A' (n + 1) c' (vs ++ [v]) (zss ++ [z]) := by
  refine ⟨by simpa [slv] using hos, by simp [h.len], fun j u y hu hy => ?_⟩
  rw [List.getElem?_append] at hu hy
  rw [h.len] at hu
  split at hu
  · rename_i hj
    rw [if_pos hj] at hy
    exact (h.rows j u y hu hy).kept hg (OS.typed (h.rows j u y hu hy).os h.os (by decide))
  · rename_i hj
    rw [if_neg hj] at hy
    have e : j - zss.length = 0 := by
      have := (List.getElem?_eq_some_iff.1 hu).1
      simp at this; omega
    rw [e] at hu hy
    simp at hu hy
    subst hu; subst hy
    exact ho.kept hg (OS.typed ho.os h.os (by decide))
end
def Afar (vs : List Sl) (FA : Option Addr) : Prop := ∀ (j : Nat) (v : Sl), vs[j]? = some v → blk v.1 = none ∨ blk v.1 ≠ blk FA
theorem Afar.nil_ (FA : Option Addr) : Afar [] FA := fun _ _ h => by simp at h
theorem Afar.push {vs : List Sl} {FA : Option Addr} (h : Afar vs FA) {v : Sl} (hv : blk v.1 = none ∨ blk v.1 ≠ blk FA) : Afar (vs ++ [v]) FA := fun j u hu => by
  rw [List.getElem?_append] at hu
  split at hu
  · exact h j u hu
  · have := List.mem_of_getElem? hu
    rw [List.mem_singleton.1 this]
    exact hv
theorem far_of_new {w w' : World} {B B' : Nat} {e e' : TypeId} {A A' : Option Addr} {n c n' c' : Nat} {zs ys : List Int} (h : OI w B e A n c zs) (k : OI w' B' e' A' n' c' ys) (hB : w.heap.size ≤ B') : blk A = none ∨ blk A ≠ blk A' := by
  cases hA : blk A with
  | none => exact .inl rfl
  | some b =>
    refine .inr fun e => ?_
    have h1 := h.os.lt hA
    have h2 := k.os.lt e.symm
    omega
theorem far_of_old {w w' : World} {B B' : Nat} {e e' : TypeId} {A A' : Option Addr} {n c n' c' : Nat} {zs ys : List Int} (h : OI w B e A n c zs) (k : OI w' B' e' A' n' c' ys) (hB : w'.heap.size ≤ B) : blk A = none ∨ blk A ≠ blk A' := by
  cases hA : blk A with
  | none => exact .inl rfl
  | some b =>
    refine .inr fun e => ?_
    have h1 := h.os.lt hA
    have h2 := k.os.lt e.symm
    omega
theorem far_none (A : Option Addr) : blk A = none ∨ blk A ≠ blk none := by
  cases A <;> simp [blk]
structure SB (w0 w : World) (BA : Option Addr) (bn bc : Nat) (FA : Option Addr) (fn fk : Nat) (FF : Option Addr) (fm fd : Nat) (s : St) : Prop where
  b : Below w0.heap.size w0 w
  lt : w0.heap.size < w.heap.size
  best : ∃ vs, BV w (w0.heap.size + 1) BA bn bc vs s.best ∧ Afar vs FA
  fc : OI w (w0.heap.size + 1) 2 FA fn fk s.fc
  fe : OE w (w0.heap.size + 1) 113 FF fm fd s.fe
  lc : s.fc.length ≤ 4096
  le_ : s.fe.length ≤ 1048576
section
variable {w0 w w' : World} {BA : Option Addr} {bn bc : Nat} {FA : Option Addr} {fn fk : Nat} {FF : Option Addr} {fm fd : Nat} {s s' : St}
theorem SB.step (h : SB w0 w BA bn bc FA fn fk FF fm fd s) (hb : Below w.heap.size w w') : SB w0 w' BA bn bc FA fn fk FF fm fd s :=
  ⟨h.b.trans (hb.mono h.b.size), Nat.lt_of_lt_of_le h.lt hb.size, let ⟨vs, hv, ha⟩ := h.best; ⟨vs, hv.below hb, ha⟩, h.fc.below hb, h.fe.below hb, h.lc, h.le_⟩
theorem SB.set (h : SB w0 w BA bn bc FA fn fk FF fm fd s) (i : Nat) (u : Value) : SB w0 (w.setCell ⟨w0.heap.size, i, none⟩ u) BA bn bc FA fn fk FF fm fd s :=
  ⟨Below.setCell h.b (p := ⟨w0.heap.size, i, none⟩) (Nat.le_refl _) u, by simpa [World.setCell] using h.lt, let ⟨vs, hv, ha⟩ := h.best; ⟨vs, hv.setLow (Nat.lt_succ_self _) u, ha⟩, h.fc.setLow (Nat.lt_succ_self _) u, h.fe.setLow (Nat.lt_succ_self _) u, h.lc, h.le_⟩
theorem SB.re (h : SB w0 w BA bn bc FA fn fk FF fm fd s) (h1 : s'.best = s.best) (h2 : s'.fc = s.fc) (h3 : s'.fe = s.fe) : SB w0 w BA bn bc FA fn fk FF fm fd s' :=
  ⟨h.b, h.lt, by rw [h1]; exact h.best, by rw [h2]; exact h.fc, by rw [h3]; exact h.fe, by rw [h2]; exact h.lc, by rw [h3]; exact h.le_⟩
end
end Go.Proofs.YtdkbcjdimhgmnaaGreat
