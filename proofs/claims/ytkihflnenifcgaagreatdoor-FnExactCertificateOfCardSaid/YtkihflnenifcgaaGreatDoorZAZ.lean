/- slices.SortFunc by slices.Compare, on slices of numbers in a row that a call owns. No condition beyond those stated. -/
import Derived.Test.YtkihflnenifcgaaGreatDoorZAY
import Derived.Test.YtkihflnenifcgaaGreatDoorZAH
import Derived.Test.YtkihflnenifcgaaGreatDoorZAP
import Derived.Sort.OwnSortedInts
import Derived.Test.YtkihflnenifcgaaGreatDoorZAI
import Derived.Test.YtkihflnenifcgaaGreatDoorZAS
import Derived.Deep.QuietTactic
import Derived.BigQuiet
set_option linter.unusedVariables false
set_option linter.unusedSimpArgs false
namespace Go.Proofs.YtkihflnenifcgaaGreatDoor
open Go.RowKit Go.Sort

section
variable {α : Type} [Inhabited α] {enc : α → Value} {w : World} {B : Nat} {e : TypeId} {g n c : Nat} {l ts : List α}
theorem holds_of_os (h : OS w B e 1 (some ⟨g, 0, none⟩) n c (l.map enc)) : Holds enc w g 0 l.toArray := fun j hj => by
  have hj' : j < l.length := by simpa using hj
  obtain ⟨g', e1, hc, hf⟩ := h.cell (j := j) (u := enc l[j]) (by simp [hj'])
  injection e1 with e1
  injection e1 with e1
  subst e1
  rw [Nat.zero_add]
  exact ⟨by rw [hc]; simp [hj'], hf⟩
theorem grownBy_sorted {m : Nat} {os : Array Obj} (d : Array α) : w.grownBy (sortWorld enc w g 0 m d os) (some g) := by
  refine ⟨rfl, rfl, rfl, by simp [sortWorld, grow, putRow, mapBlock, Sort.ahead], fun k hk hne => ?_⟩
  unfold sortWorld
  rw [heap_grow_old _ _ (by simpa [putRow, mapBlock, Sort.ahead] using hk)]
  have : g ≠ k := fun e => hne (by rw [e])
  simp [putRow, mapBlock, Sort.ahead, Array.getElem?_modify, this]
theorem os_sorted {m : Nat} {os : Array Obj} (h : OS w B e 1 (some ⟨g, 0, none⟩) n c (l.map enc)) (hl : ts.length = l.length) : OS (sortWorld enc w g 0 m ts.toArray os) B e 1 (some ⟨g, 0, none⟩) n c (ts.map enc) := by
  have hlen := h.len
  simp at hlen
  rcases h.cases with ⟨h0, _⟩ | ⟨g', cur, h0, hB, hg, hnc, hc, hs, ht⟩
  · cases h0
  · injection h0 with h0
    injection h0 with h0
    subst h0
    have hgl : g < w.heap.size := (Array.getElem?_eq_some_iff.1 hg).1
    have hblk : (sortWorld enc w g 0 m ts.toArray os).heap[g]? = some (.cells (putCells enc 0 ts.toArray cur) e (0, 0)) := by
      unfold sortWorld
      rw [heap_grow_old _ _ (by simpa [putRow, mapBlock, Sort.ahead] using hgl)]
      simp [putRow, mapBlock, Sort.ahead, Array.getElem?_modify, hg, onCells]
    refine ⟨by simp [hl, hlen], .inr ⟨g, c, _, rfl, hB, hblk, hnc, hc, by simp [putCells, hs], ?_⟩⟩
    rw [Nat.mul_one] at hs ⊢
    apply List.ext_getElem?
    intro j
    by_cases hj : j < n
    · rw [List.getElem?_take_of_lt hj, Array.getElem?_toList]
      simp [putCells, show j < ts.length by omega, show j < cur.size by omega]
    · rw [List.getElem?_take_eq_none (by omega), List.getElem?_eq_none (by simp; omega)]
end
/-- a slice that reads as the list beside it, apart from block g -/
def Reads (w : World) (g : Nat) (p : PL) : Prop := p.1.2.1 ≤ p.1.2.2 ∧ p.1.2.2 ≤ 9223372036854775807 ∧ RI w p.1.1 p.1.2.1 p.2 ∧ blk p.1.1 ≠ some g
abbrev RP (w : World) (g : Nat) := { p : PL // Reads w g p }
instance (w : World) (g : Nat) : Inhabited (RP w g) := ⟨⟨((none, 0, 0), []), Nat.le_refl _, by simp, RS.nil_ _ _ _, by simp [blk]⟩⟩
def encR {w : World} {g : Nat} (p : RP w g) : Value := slv p.1.1
def cmpR {w : World} {g : Nat} (x y : RP w g) : Int := cmpL x.1.2 y.1.2
theorem attach_map {w : World} {g : Nat} (Z : List PL) (h : ∀ p ∈ Z, Reads w g p) : ∃ l : List (RP w g), l.map (·.1) = Z := by
  induction Z with
  | nil => exact ⟨[], rfl⟩
  | cons p r ih =>
    obtain ⟨l, hl⟩ := ih fun q hq => h q (List.mem_cons_of_mem _ hq)
    exact ⟨⟨p, h p List.mem_cons_self⟩ :: l, by simp [hl]⟩
theorem ltR {w : World} {g : Nat} (x y : RP w g) : ltOf cmpR x y = decide (cmpL x.1.2 y.1.2 < 0) := rfl
theorem swoR (w : World) (g : Nat) : SWO (ltOf (cmpR (w := w) (g := g))) where
  irrefl := fun x => by rw [ltR, cmpL_refl]; rfl
  trans := fun x y z h1 h2 => by
    rw [ltR, decide_eq_true_iff] at *
    exact cmpL_ord.lt_trans h1 h2
  ntrans := fun x y z h1 h2 => by
    rw [ltR, decide_eq_false_iff_not] at *
    have a := cmpL_swap x.1.2 y.1.2
    have b := cmpL_swap y.1.2 z.1.2
    have c := cmpL_swap x.1.2 z.1.2
    have := cmpL_trans (xs := z.1.2) (ys := y.1.2) (zs := x.1.2) (by omega) (by omega)
    omega
theorem cmpLaysR (w : World) (g n : Nat) : CmpLays1 Tryz.prog 98 #[] (encR (w := w) (g := g)) cmpR g 0 n w := by
  intro m os dk _ x y
  obtain ⟨⟨⟨A1, n1, c1⟩, z1⟩, h1, h2, h3, h4⟩ := x
  obtain ⟨⟨⟨A0, n0, c0⟩, z0⟩, k1, k2, k3, k4⟩ := y
  simp only at h1 h2 h3 h4 k1 k2 k3 k4
  have hg := grownBy_sorted (enc := encR (w := w) (g := g)) (w := w) (g := g) (m := m) (os := os) dk
  refine (slicesCompare_any A1 A0 n1 n0 c1 c0 z1 z0 _ (h3.kept hg h4) (k3.kept hg k4) (by omega) (by omega)).mono ?_
  rintro e w' ⟨he, rfl⟩
  exact ⟨he, 0, #[], by rw [grow_empty]; rfl⟩
set_option maxHeartbeats 1000000 in
theorem sortR_own (B g n c : Nat) (Z : List PL) (w : World) (ho : PV w B 24 g n c Z) (hn : n ≤ 1048576) (hgl : g < w.heap.size) :
    Calls Tryz.prog 97 #[.slice (some ⟨g, 0, none⟩) n c, .func (.func 98) #[] #[]] w (fun e w' => ∃ Y, e = .returned (.tuple #[]) ∧ PV w' B 24 g n c Y ∧ Y.Perm Z ∧ SortedL cmpL (Y.map (·.2)) ∧ w.grownBy w' (some g)) := by
  obtain ⟨l, hl⟩ := attach_map (w := w) (g := g) Z ho.rows
  have hlen := ho.len
  have hll : l.length = n := by rw [← hlen, ← hl, List.length_map]
  have hos : OS w B 24 1 (some ⟨g, 0, none⟩) n c (l.map encR) := by
    have := ho.os
    rw [← hl, List.map_map] at this
    exact this
  have hH := holds_of_os hos
  have eg : ∀ (args : Array Value) (w : World), (callFunc 98 args).run Tryz.prog w = .ok (.enter 98 args) w := fun _ _ => by kernel_rfl
  have hs : l.toArray.size = n := by simpa using hll
  have hcall := Any.slices_SortFunc Tryz.srfL (encR (w := w) (g := g)) (fun x => rfl) cmpR (swoR w g) 98 #[] g 0 c l.toArray w eg (by rw [hs]; exact cmpLaysR w g n) hH hgl (by rw [hs]; omega)
  rw [hs] at hcall
  refine hcall.mono ?_
  rintro e w' ⟨he, d', m, os, hp, hsd, rfl⟩
  obtain ⟨hp1, hp2, hp3⟩ := hp
  have hd : d'.size = n := by rw [hp1, hs]
  have hperm : d'.toList.Perm l := by
    have e1 : (d'.extract 0 n).toList = d'.toList := by
      rw [show d'.extract 0 n = d' by rw [← hd]; simp]
    have e2 : (l.toArray.extract 0 n).toList = l := by
      rw [show l.toArray.extract 0 n = l.toArray by rw [← hs]; simp]
    rwa [e1, e2] at hp3
  have hg := grownBy_sorted (enc := encR (w := w) (g := g)) (w := w) (g := g) (m := m) (os := os) d'
  refine ⟨d'.toList.map (·.1), he, ⟨?_, fun p hp => ?_⟩, ?_, ?_, hg⟩
  · have := os_sorted (m := m) (os := os) hos (ts := d'.toList) (by rw [hperm.length_eq])
    rw [List.map_map]
    exact this
  · obtain ⟨q, hq, rfl⟩ := List.mem_map.1 hp
    obtain ⟨a, b, c', d⟩ := q.2
    exact ⟨a, b, c'.kept hg d, d⟩
  · rw [← hl]
    exact hperm.map _
  · rw [List.map_map, SortedL, List.pairwise_map, List.pairwise_iff_getElem]
    intro i j hi hj hij
    have h1 := hsd i j (Nat.zero_le _) hij (by simpa [hd] using hj)
    have hi' : i < d'.size := by simpa using hi
    have hj' : j < d'.size := by simpa using hj
    rw [getElem!_pos d' i hi', getElem!_pos d' j hj', ltR, decide_eq_false_iff_not] at h1
    have := cmpL_swap (d'[j].1.2) (d'[i].1.2)
    simp only [Function.comp, Array.getElem_toList]
    omega
theorem sortR_any (B g n c : Nat) (Z : List PL) (w : World) (ho : PV w B 24 g n c Z) (hn : n ≤ 1048576) (hgl : g < w.heap.size) :
    Calls Tryz.prog 97 #[.slice (some ⟨g, 0, none⟩) n c, .func (.func 98) #[] #[]] w (fun e w' => ∃ Y, e = .returned (.tuple #[]) ∧ PV w' B 24 g n c Y ∧ (Y.map (·.2)).Perm (Z.map (·.2)) ∧ SortedL cmpL (Y.map (·.2)) ∧ w.grownBy w' (some g)) :=
  (sortR_own B g n c Z w ho hn hgl).mono fun _ _ ⟨Y, h1, h2, h3, h4, h5⟩ => ⟨Y, h1, h2, h3.map _, h4, h5⟩
end Go.Proofs.YtkihflnenifcgaaGreatDoor
/- slices.BinarySearchFunc by slices.Compare, on slices of numbers in a row that a call owns. No condition beyond those stated. -/
namespace Go.Proofs.YtkihflnenifcgaaGreatDoor
open Go.RowKit Go.Sort

theorem cmpLaysT (w : World) (g n : Nat) (K : PL) (hK : Reads w g K) : CmpLaysT Tryz.prog 98 #[] (encR (w := w) (g := g)) (slv K.1) (fun x => cmpL x.1.2 K.2) g 0 n w := by
  intro m os dk _ x
  obtain ⟨⟨⟨A1, n1, c1⟩, z1⟩, h1, h2, h3, h4⟩ := x
  obtain ⟨⟨A0, n0, c0⟩, z0⟩ := K
  obtain ⟨k1, k2, k3, k4⟩ := hK
  simp only at h1 h2 h3 h4 k1 k2 k3 k4
  have hg := grownBy_sorted (enc := encR (w := w) (g := g)) (w := w) (g := g) (m := m) (os := os) dk
  refine (slicesCompare_any A1 A0 n1 n0 c1 c0 z1 z0 _ (h3.kept hg h4) (k3.kept hg k4) (by omega) (by omega)).mono ?_
  rintro e w' ⟨he, rfl⟩
  exact ⟨he, 0, #[], by rw [grow_empty]; rfl⟩
theorem below_sorted {α : Type} [Inhabited α] {enc : α → Value} {w : World} {g m : Nat} {os : Array Obj} {d : Array α} (h : Holds enc w g 0 d) : Below w.heap.size w (sortWorld enc w g 0 m d os) := by
  unfold sortWorld
  rw [putRow_ahead, putRow_self _ _ _ _ _ h]
  refine ⟨rfl, rfl, rfl, by simp [grow, Sort.ahead], fun k hk => ?_⟩
  rw [heap_grow_old _ _ (by simpa [Sort.ahead] using hk)]
  rfl
set_option maxHeartbeats 1000000 in
theorem searchR_any (B g n c : Nat) (Z : List PL) (K : PL) (w : World) (ho : PV w B 24 g n c Z) (hn : n ≤ 1048576) (hgl : g < w.heap.size) (hK : Reads w g K) (hs : StrictL cmpL (Z.map (·.2))) :
    Calls Tryz.prog 100 #[.slice (some ⟨g, 0, none⟩) n c, .slice K.1.1 K.1.2.1 K.1.2.2, .func (.func 98) #[] #[]] w (fun e w' => ∃ b, e = .returned (.tuple #[.int .i64 (idxG cmpL (Z.map (·.2)) K.2 : Nat), .bool b]) ∧ Below w.heap.size w w') := by
  obtain ⟨l, hl⟩ := attach_map (w := w) (g := g) Z ho.rows
  have hlen := ho.len
  have hll : l.length = n := by rw [← hlen, ← hl, List.length_map]
  have hos : OS w B 24 1 (some ⟨g, 0, none⟩) n c (l.map encR) := by
    have := ho.os
    rw [← hl, List.map_map] at this
    exact this
  have hH := holds_of_os hos
  have eg : ∀ (args : Array Value) (w : World), (callFunc 98 args).run Tryz.prog w = .ok (.enter 98 args) w := fun _ _ => by kernel_rfl
  have hsz : l.toArray.size = n := by simpa using hll
  have hcall := Any.slices_BinarySearchFunc Tryz.bsfL (encR (w := w) (g := g)) (fun x => rfl) (slv K.1) (fun x => cmpL x.1.2 K.2) 98 #[] g 0 c l.toArray w eg (by rw [hsz]; exact cmpLaysT w g n K hK) hH hgl (by rw [hsz]; omega)
    (fun a b hab hb h => by
      have hb' : b < l.length := by simpa using hb
      have ha' : a < l.length := by omega
      rw [getElem!_pos l.toArray b hb] at h
      rw [getElem!_pos l.toArray a (by simpa using ha')]
      simp only [List.getElem_toArray] at h ⊢
      rcases Nat.eq_or_lt_of_le hab with rfl | hlt
      · exact h
      · have hp : StrictL cmpL (l.map fun x => x.1.2) := by
          have := hs
          rwa [← hl, List.map_map] at this
        have := List.pairwise_iff_getElem.1 hp a b (by simpa using ha') (by simpa using hb') hlt
        simp only [List.getElem_map] at this
        exact cmpL_ord.lt_trans this h)
  rw [hsz] at hcall
  refine hcall.mono ?_
  rintro e w' ⟨he, m, os, rfl⟩
  have hcnt : l.toArray.toList.countP (fun x => decide (cmpL x.1.2 K.2 < 0)) = idxG cmpL (Z.map (·.2)) K.2 := by
    unfold idxG
    rw [← hl, List.map_map, List.countP_map]
    rfl
  rw [hcnt] at he
  exact ⟨_, he, below_sorted hH⟩
end Go.Proofs.YtkihflnenifcgaaGreatDoor
/- Rising lists by putting, and lists in order by insertion: the reference's side. No condition beyond those stated. -/
namespace Go.Proofs.YtkihflnenifcgaaGreatDoor
open Go.RowKit

/-- a list built by putting x among the first k -/
def PutTo {α : Type} (c : α → α → Int) (zs : List α) (x : α) (k : Nat) (L : List α) (d : Bool) : Prop :=
  (d = false ∧ L = zs.take k ∧ ∀ y, y ∈ zs.take k → c y x < 0) ∨ (d = true ∧ L ++ zs.drop k = putG c zs x)
section
variable {α : Type} {c : α → α → Int} {zs L : List α} {x : α} {k : Nat} {d : Bool}
theorem putTo_zero (c : α → α → Int) (zs : List α) (x : α) : PutTo c zs x 0 [] false := .inl ⟨rfl, by simp, fun y h => by simp at h⟩
theorem putTo_done {y : α} (h : PutTo c zs x k L true) (hk : zs[k]? = some y) : PutTo c zs x (k + 1) (L ++ [y]) true := by
  obtain ⟨hl, rfl⟩ := List.getElem?_eq_some_iff.1 hk
  rcases h with ⟨h, _⟩ | ⟨_, h⟩
  · cases h
  · refine .inr ⟨rfl, ?_⟩
    rw [List.append_assoc, List.singleton_append, ← List.drop_eq_getElem_cons hl]
    exact h
theorem putTo_less {y : α} (h : PutTo c zs x k L false) (hk : zs[k]? = some y) (hc : c y x < 0) : PutTo c zs x (k + 1) (L ++ [y]) false := by
  obtain ⟨hl, rfl⟩ := List.getElem?_eq_some_iff.1 hk
  rcases h with ⟨_, h1, h2⟩ | ⟨h, _⟩
  · refine .inl ⟨rfl, by rw [List.take_succ_eq_append_getElem hl, h1], fun z hz => ?_⟩
    rw [List.take_succ_eq_append_getElem hl] at hz
    rcases List.mem_append.1 hz with hz | hz
    · exact h2 z hz
    · rw [List.mem_singleton.1 hz]; exact hc
  · cases h
theorem putTo_at {y : α} (h : PutTo c zs x k L false) (hk : zs[k]? = some y) (hc : ¬ c y x < 0) : putG c zs x = L ++ ((if c y x = 0 then [] else [x]) ++ y :: zs.drop (k + 1)) := by
  obtain ⟨hl, rfl⟩ := List.getElem?_eq_some_iff.1 hk
  rcases h with ⟨_, h1, h2⟩ | ⟨h, _⟩
  · rw [putG_before (k := k) (by omega) h2, ← h1, List.drop_eq_getElem_cons hl, putG, if_neg hc]
    split <;> simp
  · cases h
theorem putTo_same {y : α} (h : PutTo c zs x k L false) (hk : zs[k]? = some y) (hc : c y x = 0) : PutTo c zs x (k + 1) (L ++ [y]) true := by
  refine .inr ⟨rfl, ?_⟩
  rw [putTo_at h hk (by omega), if_pos hc]
  simp
theorem putTo_more {y : α} (h : PutTo c zs x k L false) (hk : zs[k]? = some y) (hc : 0 < c y x) : PutTo c zs x (k + 1) (L ++ [x] ++ [y]) true := by
  refine .inr ⟨rfl, ?_⟩
  rw [putTo_at h hk (by omega), if_neg (by omega)]
  simp
theorem putTo_end1 (h : PutTo c zs x zs.length L true) : L = putG c zs x := by
  rcases h with ⟨h, _⟩ | ⟨_, h⟩
  · cases h
  · simpa using h
theorem putTo_end0 (h : PutTo c zs x zs.length L false) : L ++ [x] = putG c zs x := by
  rcases h with ⟨_, h1, h2⟩ | ⟨h, _⟩
  · rw [putG_before (k := zs.length) (Nat.le_refl _) h2, h1]
    simp [putG]
  · cases h
theorem putTo_len (h : PutTo c zs x k L d) (hk : k ≤ zs.length) : L.length ≤ k + 1 := by
  rcases h with ⟨_, h1, _⟩ | ⟨_, h⟩
  · rw [h1, List.length_take]; omega
  · have h2 := putG_len (c := c) zs x
    rw [← h] at h2
    simp at h2
    omega
end
theorem sgnI_ge {x y : Int} (h : ¬ sgnI x y < 0) : decide (x ≥ y) = true := by
  rcases sgnI_cases x y with ⟨h1, e⟩ | ⟨h1, e⟩ | ⟨h1, e⟩
  · omega
  · simp; omega
  · simp; omega
theorem nth_some' {zs : List Int} {k : Nat} (h : k < zs.length) : zs[k]? = some (nth zs k) := nth_some h
set_option maxRecDepth 100000 in
set_option maxHeartbeats 2000000 in
theorem l00Put_any (A : Option Addr) (n c : Nat) (zs : List Int) (x : Int) (w : World) (ha : RI w A n zs) (hn : n ≤ 1099511627776) (hx : I64 x) :
    Calls Tryz.prog 147 #[.slice A n c, .int .i64 x] w (RetI w 2 (putG sgnI zs x)) := by
  have hla := Lib.hid ha.len
  have ho0 := OI.lit w w.heap.size 2 [] (Nat.le_refl _) (by simp) All64.nil_
  have hw0 := below_alloc w (.cells #[] 2)
  go_enter Tryz.func147, Tryz.ntmps147
  go_wp2
  go_loopw [5, 6, 7] (fun v f i wr => ∃ (k m : Nat) (A' : Option Addr) (c' : Nat) (L : List Int) (d : Bool), k ≤ n ∧ i = .int .i64 k ∧ v = .slice A' m c' ∧ f = .bool d ∧ OI wr w.heap.size 2 A' m c' L ∧ Below w.heap.size w wr ∧ PutTo sgnI zs x k L d) (fun _ _ i _ => n - (intOf i).toNat)
  case atStart => exact ⟨0, _, _, _, [], _, Nat.zero_le _, rfl, rfl, rfl, ho0, hw0, putTo_zero _ _ _⟩
  case round =>
    obtain ⟨k, m, A', c', L, d, hk, rfl, rfl, rfl, ho, hw, hp⟩ := hrel
    have hm : m ≤ k + 1 := by have := ho.len; have := putTo_len hp (by rw [hla.out]; exact hk); omega
    clear ho0 hw0
    by_cases hlt : k < n
    · obtain ⟨a, rfl, hca, hia⟩ := (ha.keep hw).get hlt
      have hz : zs[k]? = some (nth zs k) := nth_some (by rw [hla.out]; exact hlt)
      cases d with
      | true =>
        have HP := Lib.hid (putTo_done hp hz)
        clear hp hz
        go_wp2_with (at_builtin; refine app_int _ rfl (.tmp 35) (.tmp 40) rfl w.heap.size A' m c' L rfl ho (nth zs k) _ rfl (by simp) hia (by omega) hw.size ?_; intro A2 c2 w3 ho3 hg3 hn3)
        have hw3 := below_own hw hg3 hw.size (fun b hb => (ho.os.lt hb).1)
        clear ho hg3 hn3 hca
        go_roundw
        case rel => exact ⟨k + 1, _, _, _, _, true, by omega, by go_num, rfl, rfl, ho3, hw3, HP.out⟩
        case measure => simp [intOf]; omega
      | false =>
        by_cases h1 : nth zs k < x
        · have HP := Lib.hid (putTo_less hp hz (by rcases sgnI_cases (nth zs k) x with ⟨_, e⟩ | ⟨_, e⟩ | ⟨_, e⟩ <;> omega))
          clear hp hz
          go_wp2_with (at_builtin; refine app_int _ rfl (.tmp 35) (.tmp 40) rfl w.heap.size A' m c' L rfl ho (nth zs k) _ rfl (by simp) hia (by omega) hw.size ?_; intro A2 c2 w3 ho3 hg3 hn3)
          have hw3 := below_own hw hg3 hw.size (fun b hb => (ho.os.lt hb).1)
          clear ho hg3 hn3 hca
          go_roundw
          case rel => exact ⟨k + 1, _, _, _, _, false, by omega, by go_num, rfl, rfl, ho3, hw3, HP.out⟩
          case measure => simp [intOf]; omega
        · have h1' : x ≤ nth zs k := by omega
          by_cases h2 : nth zs k = x
          · have HP := Lib.hid (putTo_same hp hz (by rw [h2]; exact sgnI_ord.self x))
            have h3 : ¬ x < nth zs k := by omega
            clear hp hz h2
            go_wp2_with (at_builtin; refine app_int _ rfl (.tmp 35) (.tmp 40) rfl w.heap.size A' m c' L rfl ho (nth zs k) _ rfl (by simp) hia (by omega) hw.size ?_; intro A2 c2 w3 ho3 hg3 hn3)
            have hw3 := below_own hw hg3 hw.size (fun b hb => (ho.os.lt hb).1)
            clear ho hg3 hn3 hca
            go_roundw
            case rel => exact ⟨k + 1, _, _, _, _, true, by omega, by go_num, rfl, rfl, ho3, hw3, HP.out⟩
            case measure => simp [intOf]; omega
          · have h3 : x < nth zs k := by omega
            have HP := Lib.hid (putTo_more hp hz (by rcases sgnI_cases (nth zs k) x with ⟨_, e⟩ | ⟨_, e⟩ | ⟨_, e⟩ <;> omega))
            have hca0 := below_cell (below_alloc wr (.cells #[.int .i64 x] 2)) hca
            clear hp hz h2 h1 h1'
            go_wp2_with (first
              | (at_builtin; refine app_int _ rfl (.tmp 31) (.tmp 33) rfl w.heap.size A' m c' L rfl ho x _ rfl (by simp) hx (by omega) hw.size ?_; intro A2 c2 w3 ho3 hg3 hn3; have hw3 := below_own hw hg3 hw.size (fun b hb => (ho.os.lt hb).1); obtain ⟨a3, e3, hc3, _⟩ := (ha.keep hw3).get hlt; injection e3 with e3; subst e3; clear hca hca0)
              | (at_builtin; refine app_int _ rfl (.tmp 35) (.tmp 40) rfl w.heap.size A2 (m + 1) c2 (L ++ [x]) rfl ho3 (nth zs k) _ rfl (by simp) hia (by omega) hw3.size ?_; intro A4 c4 w4 ho4 hg4 hn4))
            have hw4 := below_own hw3 hg4 hw3.size (fun b hb => (ho3.os.lt hb).1)
            clear ho hg3 hn3 ho3 hg4 hn4 hc3
            go_roundw
            case rel => exact ⟨k + 1, _, _, _, _, true, by omega, by go_num, rfl, rfl, ho4, hw4, HP.out⟩
            case measure => simp [intOf]; omega
    · obtain rfl : k = n := by omega
      rw [← hla.out] at hp
      cases d with
      | true =>
        have HP := Lib.hid (putTo_end1 hp)
        clear hp
        go_wp2
        go_ret
        exact ⟨_, _, _, rfl, by rw [← HP.out]; exact ho, hw⟩
      | false =>
        have HP := Lib.hid (putTo_end0 hp)
        clear hp
        go_wp2_with (at_builtin; refine app_int _ rfl (.tmp 44) (.tmp 46) rfl w.heap.size A' m c' L rfl ho x _ rfl (by simp) hx (by omega) hw.size ?_; intro A2 c2 w3 ho3 hg3 hn3)
        have hw3 := below_own hw hg3 hw.size (fun b hb => (ho.os.lt hb).1)
        go_ret
        exact ⟨_, _, _, rfl, by rw [← HP.out]; exact ho3, hw3⟩
end Go.Proofs.YtkihflnenifcgaaGreatDoor
