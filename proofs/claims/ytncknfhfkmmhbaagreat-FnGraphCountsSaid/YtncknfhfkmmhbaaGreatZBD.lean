/- Comparing two forms of a graph, both sides. No condition beyond those stated. -/
import Derived.Test.YtncknfhfkmmhbaaGreatZBC
import Derived.Deep.RegionHeldLaw
import Derived.Test.YtncknfhfkmmhbaaGreatZAP
import Derived.Test.YtncknfhfkmmhbaaGreatZAH
import Derived.Test.YtncknfhfkmmhbaaGreatZAF
import Derived.Deep.QuietTactic
import Derived.BigQuiet
set_option linter.unusedVariables false
set_option linter.unusedSimpArgs false
namespace Go.Proofs.YtncknfhfkmmhbaaGreat
open Go.RowKit

theorem cmpF_ne {c1 c2 : List Int} {e1 e2 : List Ed} (h : cmpL c1 c2 ≠ 0) : cmpF c1 e1 c2 e2 = cmpL c1 c2 := by rw [cmpF, if_pos h]
theorem cmpF_eq {c1 c2 : List Int} {e1 e2 : List Ed} (h : cmpL c1 c2 = 0) : cmpF c1 e1 c2 e2 = cmpL (flatE e1) (flatE e2) := by rw [cmpF, if_neg (by simp [h])]
theorem flatE_len (es : List Ed) : (flatE es).length = 2 * es.length := by
  induction es with
  | nil => rfl
  | cons e r ih =>
    have : flatE (e :: r) = [e.1, e.2] ++ flatE r := rfl
    rw [this]; simp; omega
set_option maxRecDepth 100000 in
set_option maxHeartbeats 4000000 in
theorem compareForms_any (A : Option Addr) (n c : Nat) (F : Option Addr) (m d : Nat) (cs : List Int) (es : List Ed) (A' : Option Addr) (n' c' : Nat) (F' : Option Addr) (m' d' : Nat) (cs' : List Int) (es' : List Ed) (w : World) (ha : RG w A n F m cs es) (hb : RG w A' n' F' m' cs' es') (hn : n ≤ 4096) (hn' : n' ≤ 4096) (hm : m ≤ 1048576) (hm' : m' ≤ 1048576) :
    Calls Tryz.prog 103 #[.agg #[.slice A n c, .slice F m d], .agg #[.slice A' n' c', .slice F' m' d']] w (fun e w' => e = .returned (.int .i64 (cmpF cs es cs' es')) ∧ Below w.heap.size w w') := by
  have hb1 := below_then (below_alloc w (.cells #[.slice A n c, .slice F m d] 36)) (below_alloc _ (.cells #[.slice A' n' c', .slice F' m' d'] 36))
  have X := (Blk.new w 36 #[.slice A n c, .slice F m d]).alloc (.cells #[.slice A' n' c', .slice F' m' d'] 36)
  have Y : Blk ((w.alloc (.cells #[.slice A n c, .slice F m d] 36)).alloc (.cells #[.slice A' n' c', .slice F' m' d'] 36)) (w.heap.size + 1) 36 #[.slice A' n' c', .slice F' m' d'] := by
    have := Blk.new (w.alloc (.cells #[.slice A n c, .slice F m d] 36)) 36 #[.slice A' n' c', .slice F' m' d']
    simpa using this
  generalize hW : (w.alloc (.cells #[.slice A n c, .slice F m d] 36)).alloc (.cells #[.slice A' n' c', .slice F' m' d'] 36) = W at *
  have haW := ha.keep hb1
  have hbW := hb.keep hb1
  obtain ⟨x0, x1⟩ := X.cells2
  obtain ⟨y0, y1⟩ := Y.cells2
  have hl1 := flatE_len es
  have hl2 := flatE_len es'
  have hle := haW.re.len
  have hle' := hbW.re.len
  have hsc := fun W => slicesCompare_any A A' n n' c c' cs cs' W
  clear X Y
  by_cases h : cmpL cs cs' = 0
  · have HC := Lib.hid (cmpF_eq (e1 := es) (e2 := es') h)
    have h' : (cmpL cs cs' != 0) = false := by simp [h]
    go_enter Tryz.func103, Tryz.ntmps103
    go_wp2_with (go_at_call 25; refine (hsc W haW.ri hbW.ri (by omega) (by omega)).mono ?_; rintro e w2 ⟨rfl, rfl⟩; rw [h])
    have hf1 := fun (W' : World) (hb : Below W.heap.size W W') => flat_any F m d es W' (haW.re.keep hb) hm
    have hf2 := fun (W' : World) (hb : Below W.heap.size W W') => flat_any F' m' d' es' W' (hbW.re.keep hb) hm'
    have HF1 := Lib.hid hf1
    have HF2 := Lib.hid hf2
    clear hf1 hf2 hsc
    have x1' := x1
    have y1' := y1
    clear x0 y0 x1 y1 hW hl1 hl2 hle hle' h' h
    go_region_held_law (fun w' => Below W.heap.size W w' ∧ w'.cell? ⟨w.heap.size, 1, none⟩ = some (.slice F m d) ∧ w'.cell? ⟨w.heap.size + 1, 1, none⟩ = some (.slice F' m' d'))
      (first | exact ⟨below_drewn _ 1, x1', y1'⟩ | exact ⟨by assumption, below_cell (by assumption) x1', below_cell (by assumption) y1'⟩)
      (first
        | (go_at_call 120; (with_reducible refine (HF1.out _ ?_).mono ?_); (exact below_drewn _ 1); rintro e w3 ⟨A3, n3, c3, rfl, ho3, hb3⟩; have hX3 : Below W.heap.size W w3 := (below_drewn _ 1).trans (hb3.mono (Nat.le_refl _)))
        | (go_at_call 120; (with_reducible refine (HF2.out _ ?_).mono ?_); (exact hX3); rintro e w4 ⟨A4, n4, c4, rfl, ho4, hb4⟩; have hX4 : Below W.heap.size W w4 := hX3.trans (hb4.mono hX3.size); have ho3' := ho3.below hb4)
        | (go_at_call 25; (with_reducible refine (slicesCompare_any _ _ _ _ _ _ _ _ _ ho3'.reads ho4.reads ?_ ?_).mono ?_); (have := ho3'.os.cap; omega); (have := ho4.os.cap; omega); rintro e w5 ⟨rfl, rfl⟩))
    go_wp2
    go_ret
    exact ⟨by rw [HC.out]; rfl, hb1.trans (hX4.mono hb1.size)⟩
  · have HC := Lib.hid (cmpF_ne (e1 := es) (e2 := es') h)
    have h' : (cmpL cs cs' != 0) = true := by simp [h]
    clear h
    go_enter Tryz.func103, Tryz.ntmps103
    go_wp2_with (go_at_call 25; refine (hsc W haW.ri hbW.ri (by omega) (by omega)).mono ?_; rintro e w2 ⟨rfl, rfl⟩)
    go_ret
    exact ⟨by rw [HC.out]; rfl, hb1⟩
end Go.Proofs.YtncknfhfkmmhbaaGreat
/- slices.BinarySearchFunc by slices.Compare, on slices of numbers in a row that a call owns. No condition beyond those stated. -/
namespace Go.Proofs.YtncknfhfkmmhbaaGreat
open Go.RowKit Go.Sort

theorem cmpLaysT (w : World) (g n : Nat) (K : PL) (hK : Reads w g K) : CmpLaysT Tryz.prog 25 #[] (encR (w := w) (g := g)) (slv K.1) (fun x => cmpL x.1.2 K.2) g 0 n w := by
  intro m os dk _ x
  obtain ⟨⟨⟨A1, n1, c1⟩, z1⟩, h1, h2, h3, h4⟩ := x
  obtain ⟨⟨A0, n0, c0⟩, z0⟩ := K
  obtain ⟨k1, k2, k3, k4⟩ := hK
  simp only at h1 h2 h3 h4 k1 k2 k3 k4
  have hg := grownBy_sorted (enc := encR (w := w) (g := g)) (w := w) (g := g) (m := m) (os := os) dk
  refine (slicesCompare_any A1 A0 n1 n0 c1 c0 z1 z0 _ (h3.kept hg h4) (k3.kept hg k4) (by omega) (by omega)).mono ?_
  rintro e w' ⟨he, rfl⟩
  exact ⟨he, 0, #[], by rw [grow_empty]; rfl⟩
theorem below_sorted {α : Type} [Inhabited α] {enc : α → Value} {w : World} {g m : Nat} {os : Array Obj} {d : Array α} (h : Holds enc w g 0 d) : Below w.heap.size w (sortWorld enc w g 0 m d os) := by
  unfold sortWorld
  rw [putRow_ahead, putRow_self _ _ _ _ _ h]
  refine ⟨rfl, rfl, rfl, by simp [grow, Sort.ahead], fun k hk => ?_⟩
  rw [heap_grow_old _ _ (by simpa [Sort.ahead] using hk)]
  rfl
set_option maxHeartbeats 1000000 in
theorem searchR_any (B g n c : Nat) (Z : List PL) (K : PL) (w : World) (ho : PV w B 33 g n c Z) (hn : n ≤ 1048576) (hgl : g < w.heap.size) (hK : Reads w g K) (hs : StrictL cmpL (Z.map (·.2))) :
    Calls Tryz.prog 106 #[.slice (some ⟨g, 0, none⟩) n c, .slice K.1.1 K.1.2.1 K.1.2.2, .func (.func 25) #[] #[]] w (fun e w' => ∃ b, e = .returned (.tuple #[.int .i64 (idxG cmpL (Z.map (·.2)) K.2 : Nat), .bool b]) ∧ Below w.heap.size w w') := by
  obtain ⟨l, hl⟩ := attach_map (w := w) (g := g) Z ho.rows
  have hlen := ho.len
  have hll : l.length = n := by rw [← hlen, ← hl, List.length_map]
  have hos : OS w B 33 1 (some ⟨g, 0, none⟩) n c (l.map encR) := by
    have := ho.os
    rw [← hl, List.map_map] at this
    exact this
  have hH := holds_of_os hos
  have eg : ∀ (args : Array Value) (w : World), (callFunc 25 args).run Tryz.prog w = .ok (.enter 25 args) w := fun _ _ => by kernel_rfl
  have hsz : l.toArray.size = n := by simpa using hll
  have hcall := Any.slices_BinarySearchFunc Tryz.bsfL (encR (w := w) (g := g)) (fun x => rfl) (slv K.1) (fun x => cmpL x.1.2 K.2) 25 #[] g 0 c l.toArray w eg (by rw [hsz]; exact cmpLaysT w g n K hK) hH hgl (by rw [hsz]; omega)
    (fun a b hab hb h => by
      have hb' : b < l.length := by simpa using hb
      have ha' : a < l.length := by omega
      rw [getElem!_pos l.toArray b hb] at h
      rw [getElem!_pos l.toArray a (by simpa using ha')]
      simp only [List.getElem_toArray] at h ⊢
      rcases Nat.eq_or_lt_of_le hab with rfl | hlt
      · exact h
      · have hp : StrictL cmpL (l.map fun x => x.1.2) := by
          have := hs
          rwa [← hl, List.map_map] at this
        have := List.pairwise_iff_getElem.1 hp a b (by simpa using ha') (by simpa using hb') hlt
        simp only [List.getElem_map] at this
        exact cmpL_ord.lt_trans this h)
  rw [hsz] at hcall
  refine hcall.mono ?_
  rintro e w' ⟨he, m, os, rfl⟩
  have hcnt : l.toArray.toList.countP (fun x => decide (cmpL x.1.2 K.2 < 0)) = idxG cmpL (Z.map (·.2)) K.2 := by
    unfold idxG
    rw [← hl, List.map_map, List.countP_map]
    rfl
  rw [hcnt] at he
  exact ⟨_, he, below_sorted hH⟩
end Go.Proofs.YtncknfhfkmmhbaaGreat
/- Rising lists by putting, and lists in order by insertion: the reference's side. No condition beyond those stated. -/
namespace Go.Proofs.YtncknfhfkmmhbaaGreat
open Go.RowKit

/-- a list built by putting x among the first k -/
def PutTo {α : Type} (c : α → α → Int) (zs : List α) (x : α) (k : Nat) (L : List α) (d : Bool) : Prop :=
  (d = false ∧ L = zs.take k ∧ ∀ y, y ∈ zs.take k → c y x < 0) ∨ (d = true ∧ L ++ zs.drop k = putG c zs x)
section
variable {α : Type} {c : α → α → Int} {zs L : List α} {x : α} {k : Nat} {d : Bool}
theorem putTo_zero (c : α → α → Int) (zs : List α) (x : α) : PutTo c zs x 0 [] false := .inl ⟨rfl, by simp, fun y h => by simp at h⟩
theorem putTo_done {y : α} (h : PutTo c zs x k L true) (hk : zs[k]? = some y) : PutTo c zs x (k + 1) (L ++ [y]) true := by
  obtain ⟨hl, rfl⟩ := List.getElem?_eq_some_iff.1 hk
  rcases h with ⟨h, _⟩ | ⟨_, h⟩
  · cases h
  · refine .inr ⟨rfl, ?_⟩
    rw [List.append_assoc, List.singleton_append, ← List.drop_eq_getElem_cons hl]
    exact h
theorem putTo_less {y : α} (h : PutTo c zs x k L false) (hk : zs[k]? = some y) (hc : c y x < 0) : PutTo c zs x (k + 1) (L ++ [y]) false := by
  obtain ⟨hl, rfl⟩ := List.getElem?_eq_some_iff.1 hk
  rcases h with ⟨_, h1, h2⟩ | ⟨h, _⟩
  · refine .inl ⟨rfl, by rw [List.take_succ_eq_append_getElem hl, h1], fun z hz => ?_⟩
    rw [List.take_succ_eq_append_getElem hl] at hz
    rcases List.mem_append.1 hz with hz | hz
    · exact h2 z hz
    · rw [List.mem_singleton.1 hz]; exact hc
  · cases h
theorem putTo_at {y : α} (h : PutTo c zs x k L false) (hk : zs[k]? = some y) (hc : ¬ c y x < 0) : putG c zs x = L ++ ((if c y x = 0 then [] else [x]) ++ y :: zs.drop (k + 1)) := by
  obtain ⟨hl, rfl⟩ := List.getElem?_eq_some_iff.1 hk
  rcases h with ⟨_, h1, h2⟩ | ⟨h, _⟩
  · rw [putG_before (k := k) (by omega) h2, ← h1, List.drop_eq_getElem_cons hl, putG, if_neg hc]
    split <;> simp
  · cases h
theorem putTo_same {y : α} (h : PutTo c zs x k L false) (hk : zs[k]? = some y) (hc : c y x = 0) : PutTo c zs x (k + 1) (L ++ [y]) true := by
  refine .inr ⟨rfl, ?_⟩
  rw [putTo_at h hk (by omega), if_pos hc]
  simp
theorem putTo_more {y : α} (h : PutTo c zs x k L false) (hk : zs[k]? = some y) (hc : 0 < c y x) : PutTo c zs x (k + 1) (L ++ [x] ++ [y]) true := by
  refine .inr ⟨rfl, ?_⟩
  rw [putTo_at h hk (by omega), if_neg (by omega)]
  simp
theorem putTo_end1 (h : PutTo c zs x zs.length L true) : L = putG c zs x := by
  rcases h with ⟨h, _⟩ | ⟨_, h⟩
  · cases h
  · simpa using h
theorem putTo_end0 (h : PutTo c zs x zs.length L false) : L ++ [x] = putG c zs x := by
  rcases h with ⟨_, h1, h2⟩ | ⟨h, _⟩
  · rw [putG_before (k := zs.length) (Nat.le_refl _) h2, h1]
    simp [putG]
  · cases h
theorem putTo_len (h : PutTo c zs x k L d) (hk : k ≤ zs.length) : L.length ≤ k + 1 := by
  rcases h with ⟨_, h1, _⟩ | ⟨_, h⟩
  · rw [h1, List.length_take]; omega
  · have h2 := putG_len (c := c) zs x
    rw [← h] at h2
    simp at h2
    omega
end
theorem sgnI_ge {x y : Int} (h : ¬ sgnI x y < 0) : decide (x ≥ y) = true := by
  rcases sgnI_cases x y with ⟨h1, e⟩ | ⟨h1, e⟩ | ⟨h1, e⟩
  · omega
  · simp; omega
  · simp; omega
theorem nth_some' {zs : List Int} {k : Nat} (h : k < zs.length) : zs[k]? = some (nth zs k) := nth_some h
end Go.Proofs.YtncknfhfkmmhbaaGreat
