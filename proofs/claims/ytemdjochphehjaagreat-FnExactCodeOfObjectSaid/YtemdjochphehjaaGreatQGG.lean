/- Canonical forms of graphs, plain: orders, refinement, the search, what a search keeps. No program in sight. -/
import Derived.Test.YtemdjochphehjaaGreatQGE
import Derived.Test.YtemdjochphehjaaGreatQGA
import Derived.Test.YtemdjochphehjaaGreatQGC
set_option linter.unusedVariables false
set_option linter.unusedSimpArgs false
namespace Go.Proofs.YtemdjochphehjaaGreat

/-! the other orders -/
theorem cmpL_ord : TOrd cmpL where
  eq_of := cmpL_zero
  self := cmpL_refl
  swap := cmpL_swap
  trans := cmpL_trans
/-! refinement -/
def keyP (near : List (List Int)) (cells : List Int) (v : Nat) : List Int := nth cells v :: srt ((row near v).map fun w => nth cells w.toNat)
def keysP (near : List (List Int)) (cells : List Int) : List (List Int) := (List.range cells.length).map (keyP near cells)
def kindsP (near : List (List Int)) (cells : List Int) : List (List Int) := setG cmpL (keysP near cells)
def roundP (near : List (List Int)) (cells : List Int) : List Int := (keysP near cells).map fun k => (idxG cmpL (kindsP near cells) k : Int)
def manyP (cells : List Int) : Nat := (setG sgnI cells).length
section
variable {near : List (List Int)} {cells : List Int}
theorem keysP_len : (keysP near cells).length = cells.length := by simp [keysP]
theorem roundP_len : (roundP near cells).length = cells.length := by simp [roundP, keysP]
theorem keyP_mem {v : Nat} (h : v < cells.length) : keyP near cells v ∈ keysP near cells := List.mem_map.2 ⟨v, List.mem_range.2 h, rfl⟩
theorem kindsP_mem {v : Nat} (h : v < cells.length) : keyP near cells v ∈ kindsP near cells := (setG_mem cmpL_ord _ _).2 (keyP_mem h)
theorem kindsP_strict : StrictL cmpL (kindsP near cells) := setG_strict cmpL_ord _
theorem roundP_nth {v : Nat} (h : v < cells.length) : nth (roundP near cells) v = (idxG cmpL (kindsP near cells) (keyP near cells v) : Int) := by
  rw [nth_get (by rw [roundP_len]; exact h)]
  simp [roundP, keysP]
theorem kindsP_len : (kindsP near cells).length ≤ cells.length := by
  have := setG_len (c := cmpL) (keysP near cells)
  rw [keysP_len] at this
  exact this
theorem roundP_bd {v : Nat} (h : v < cells.length) : 0 ≤ nth (roundP near cells) v ∧ nth (roundP near cells) v < cells.length := by
  rw [roundP_nth h]
  have h1 := (idxG_mem cmpL_ord kindsP_strict (kindsP_mem (near := near) h)).1
  have h2 := kindsP_len (near := near) (cells := cells)
  omega
end
def refF (near : List (List Int)) : Nat → List Int → List Int
  | 0, cells => roundP near cells
  | f + 1, cells => if manyP (roundP near cells) = manyP cells then roundP near cells else refF near f (roundP near cells)
def refP (near : List (List Int)) (cells : List Int) : List Int := refF near cells.length cells
/-- the numbers of cells of n vertices -/
structure Cells (n : Nat) (cells : List Int) : Prop where
  len : cells.length = n
  bd : ∀ v, v < n → 0 ≤ nth cells v ∧ nth cells v < n
theorem refF_cells (near : List (List Int)) : ∀ (f : Nat) (cells : List Int), Cells cells.length (refF near f cells)
  | 0, cells => ⟨roundP_len, fun v h => roundP_bd h⟩
  | f + 1, cells => by
    rw [refF]
    split
    · exact ⟨roundP_len, fun v h => roundP_bd h⟩
    · have := refF_cells near f (roundP near cells)
      rwa [roundP_len] at this
theorem refP_cells (near : List (List Int)) (cells : List Int) : Cells cells.length (refP near cells) := refF_cells near _ _

/-! the cell that is split -/
def tgtP (cells : List Int) : Int :=
  match (List.range cells.length).find? fun (c : Nat) => decide (2 ≤ cells.count (c : Int)) with
  | some c => c
  | none => -1
theorem tgtP_neg {cells : List Int} (h : tgtP cells < 0) : ∀ c : Nat, c < cells.length → cells.count (c : Int) < 2 := by
  unfold tgtP at h
  split at h
  · omega
  · rename_i hn
    intro c hc
    have := List.find?_eq_none.1 hn c (by simpa using hc)
    simpa using this
/-- cells of one vertex each are a permutation -/
theorem tgtP_perm {n : Nat} {cells : List Int} (hc : Cells n cells) (h : tgtP cells < 0) : Perm cells := by
  have hn := tgtP_neg h
  have hnd : cells.Nodup := by
    rw [List.nodup_iff_count]
    intro a
    by_cases ha : a ∈ cells
    · obtain ⟨k, hk, e⟩ := mem_nth ha
      have hb := hc.bd k (by rw [← hc.len]; exact hk)
      rw [← hc.len] at hb
      have := hn a.toNat (by omega)
      rw [show ((a.toNat : Nat) : Int) = a by omega] at this
      omega
    · rw [List.count_eq_zero_of_not_mem ha]; omega
  exact ⟨fun k hk => by have := hc.bd k (by rw [← hc.len]; exact hk); rw [← hc.len] at this; exact this, ne_nodup hnd⟩
/-- the first vertex of a split cell goes ahead of the others -/
def splitP (cells : List Int) (v : Nat) : List Int := (cells.map fun c => 2 * c + 1).set v (2 * nth cells v)
theorem splitP_len (cells : List Int) (v : Nat) : (splitP cells v).length = cells.length := by simp [splitP]
theorem splitP_nth {cells : List Int} {v u : Nat} (hu : u < cells.length) : nth (splitP cells v) u = if u = v then 2 * nth cells v else 2 * nth cells u + 1 := by
  rw [nth_get (by rw [splitP_len]; exact hu)]
  unfold splitP
  rw [List.getElem_set]
  split
  · rename_i h
    rw [if_pos h.symm]
  · rename_i h
    rw [if_neg (fun e => h e.symm), List.getElem_map, nth_get hu]
/-! neighbors -/
def nbB (es : List Ed) (a b : Nat) : Bool := es.any fun e => (e.1 == (a : Int) && e.2 == (b : Int)) || (e.1 == (b : Int) && e.2 == (a : Int))
def nearV (n : Nat) (es : List Ed) (a : Nat) : List Int := ((List.range n).filter fun (b : Nat) => nbB es a b).map fun (b : Nat) => (b : Int)
def nearP (n : Nat) (es : List Ed) : List (List Int) := (List.range n).map (nearV n es)
theorem nearV_sorted (n : Nat) (es : List Ed) (a : Nat) : (nearV n es a).Pairwise fun x y => x < y := by
  unfold nearV
  rw [List.pairwise_map]
  exact (List.pairwise_lt_range.filter _).imp fun h => by omega
theorem nearV_mem (n : Nat) (es : List Ed) (a : Nat) (x : Int) : x ∈ nearV n es a ↔ ∃ b : Nat, x = b ∧ b < n ∧ nbB es a b = true := by
  unfold nearV
  rw [List.mem_map]
  constructor
  · rintro ⟨b, hb, rfl⟩
    have := List.mem_filter.1 hb
    exact ⟨b, rfl, by simpa using this.1, this.2⟩
  · rintro ⟨b, rfl, h1, h2⟩
    exact ⟨b, List.mem_filter.2 ⟨by simpa using h1, h2⟩, rfl⟩
theorem nearP_len (n : Nat) (es : List Ed) : (nearP n es).length = n := by simp [nearP]
theorem nearP_row {n : Nat} {es : List Ed} {a : Nat} (h : a < n) : row (nearP n es) a = nearV n es a := by
  rw [row_get (by rw [nearP_len]; exact h)]
  simp [nearP]
theorem nearV_bd {n : Nat} {es : List Ed} {a : Nat} {x : Int} (h : x ∈ nearV n es a) : 0 ≤ x ∧ x < n := by
  obtain ⟨b, rfl, h1, _⟩ := (nearV_mem n es a x).1 h
  omega
/-! other names of the vertices -/
def relTo (cs p : List Int) (k : Nat) : List Int := (List.range k).foldl (fun acc v => acc.set (nth p v).toNat (nth cs v)) (List.replicate cs.length 0)
def relC (cs p : List Int) : List Int := relTo cs p cs.length
theorem relTo_step (cs p : List Int) (k : Nat) : relTo cs p (k + 1) = (relTo cs p k).set (nth p k).toNat (nth cs k) := by simp [relTo, List.range_succ, List.foldl_append]
theorem relTo_len (cs p : List Int) (k : Nat) : (relTo cs p k).length = cs.length := by
  induction k with
  | zero => simp [relTo]
  | succ k ih => rw [relTo_step, List.length_set, ih]
/-- an edge between two vertices -/
def mmE (a b : Int) : Ed := (min a b, max a b)
def imgE (p : List Int) (e : Ed) : Ed := mmE (nth p e.1.toNat) (nth p e.2.toNat)
def relE (es : List Ed) (p : List Int) : List Ed := setG cmpE (es.map (imgE p))
theorem perm_inj {p : List Int} (h : Perm p) {i j : Nat} (hi : i < p.length) (hj : j < p.length) (he : nth p i = nth p j) : i = j := by
  rcases Nat.lt_trichotomy i j with h1 | h1 | h1
  · exact absurd he (h.ne i j h1 hj)
  · exact h1
  · exact absurd he.symm (h.ne j i h1 hi)
/-! forms compared -/
def flatE (es : List Ed) : List Int := es.flatMap fun e => [e.1, e.2]
def cmpF (c1 : List Int) (e1 : List Ed) (c2 : List Int) (e2 : List Ed) : Int := if cmpL c1 c2 ≠ 0 then cmpL c1 c2 else cmpL (flatE e1) (flatE e2)

/-! the search -/
structure St where
  left : Nat
  spent : Bool
  nodes : Nat
  leaves : Nat
  fc : List Int
  fe : List Ed
  best : List (List Int)
def leafC (cs : List Int) (es : List Ed) (s : St) (p : List Int) : Int := if s.best = [] then -1 else cmpF (relC cs p) (relE es p) s.fc s.fe
def leafP (cs : List Int) (es : List Ed) (s : St) (p : List Int) : St :=
  { s with leaves := s.leaves + 1, fc := if leafC cs es s p < 0 then relC cs p else s.fc, fe := if leafC cs es s p < 0 then relE es p else s.fe,
           best := if leafC cs es s p < 0 then [p] else if leafC cs es s p = 0 then s.best ++ [p] else s.best }
/-- what a search keeps -/
structure Kept (n : Nat) (s t : St) : Prop where
  left : t.left ≤ s.left
  cnt : t.leaves + t.left ≤ s.leaves + s.left
  nodes : t.nodes + t.left = s.nodes + s.left
  best : t.best.length + s.leaves ≤ s.best.length + t.leaves
  rows : (∀ r ∈ s.best, Cells n r ∧ Perm r) → ∀ r ∈ t.best, Cells n r ∧ Perm r
  full : s.best ≠ [] → t.best ≠ []
theorem Kept.refl (n : Nat) (s : St) : Kept n s s := ⟨Nat.le_refl _, Nat.le_refl _, rfl, Nat.le_refl _, fun h => h, fun h => h⟩
theorem Kept.trans {n : Nat} {s t u : St} (h : Kept n s t) (k : Kept n t u) : Kept n s u :=
  ⟨Nat.le_trans k.left h.left, Nat.le_trans k.cnt h.cnt, k.nodes.trans h.nodes, by have := h.best; have := k.best; omega, fun q => k.rows (h.rows q), fun q => k.full (h.full q)⟩
/-- .. one leaf more -/
structure Kept1 (n : Nat) (s t : St) : Prop where
  left : t.left ≤ s.left
  cnt : t.leaves + t.left ≤ s.leaves + s.left + 1
  nodes : t.nodes + t.left = s.nodes + s.left
  best : t.best.length + s.leaves ≤ s.best.length + t.leaves
  rows : (∀ r ∈ s.best, Cells n r ∧ Perm r) → ∀ r ∈ t.best, Cells n r ∧ Perm r
  full : s.best ≠ [] → t.best ≠ []
  made : t.spent = true ∨ t.best ≠ []
theorem Kept.one {n : Nat} {s t : St} (h : Kept n s t) (hm : t.spent = true ∨ t.best ≠ []) : Kept1 n s t := ⟨h.left, by have := h.cnt; omega, h.nodes, h.best, h.rows, h.full, hm⟩
end Go.Proofs.YtemdjochphehjaaGreat
/- Different leaves of the search are different, plain. No program in sight. -/
namespace Go.Proofs.YtemdjochphehjaaGreat

/-! different leaves are different -/
/-- p keeps the order of the cells -/
def Fine (n : Nat) (cells p : List Int) : Prop := ∀ u v, u < n → v < n → nth cells u < nth cells v → nth p u < nth p v
theorem Fine.self (n : Nat) (cells : List Int) : Fine n cells cells := fun _ _ _ _ h => h
theorem Fine.split {n : Nat} {cells p : List Int} {v : Nat} (hl : cells.length = n) (h : Fine n (splitP cells v) p) : Fine n cells p := fun a b ha hb hlt => by
  refine h a b ha hb ?_
  rw [splitP_nth (by omega), splitP_nth (by omega)]
  split <;> split <;> rename_i h1 h2
  · subst h1; subst h2; omega
  · subst h1; omega
  · subst h2; omega
  · omega
theorem Fine.first {n : Nat} {cells p : List Int} {v u : Nat} (hl : cells.length = n) (hv : v < n) (hu : u < n) (hne : u ≠ v) (he : nth cells u = nth cells v) (h : Fine n (splitP cells v) p) : nth p v < nth p u := by
  refine h v u hv hu ?_
  rw [splitP_nth (by omega), splitP_nth (by omega), if_pos rfl, if_neg hne, he]
  omega
/-- the rows of the one are rows of the other and of new ones, which keep the order of the cells and are different -/
def Grows (n : Nat) (P : List Int → Prop) (s t : St) : Prop := ∃ L : List (List Int), t.best.Sublist (s.best ++ L) ∧ L.Nodup ∧ ∀ p ∈ L, P p
theorem Grows.refl (n : Nat) (P : List Int → Prop) (s : St) : Grows n P s s := ⟨[], by simp, by simp, fun _ h => by cases h⟩
end Go.Proofs.YtemdjochphehjaaGreat
/- Permutations as lists, and automorphisms of graphs, plain. No program in sight. -/
namespace Go.Proofs.YtemdjochphehjaaGreat

/-! permutations as lists -/
def iotaP (n : Nat) : List Int := (List.range n).map fun (k : Nat) => (k : Int)
theorem iotaP_len (n : Nat) : (iotaP n).length = n := by simp [iotaP]
theorem iotaP_nth {n k : Nat} (h : k < n) : nth (iotaP n) k = k := by rw [nth_get (by rw [iotaP_len]; exact h)]; simp [iotaP]
theorem nth_ext {l m : List Int} (hl : l.length = m.length) (h : ∀ k, k < l.length → nth l k = nth m k) : l = m := by
  apply List.ext_getElem hl
  intro k h1 h2
  have := h k h1
  rwa [nth_get h1, nth_get h2] at this
theorem nth_set {l : List Int} {i j : Nat} {x : Int} (hj : j < l.length) : nth (l.set i x) j = if i = j then x else nth l j := by
  rw [nth_get (by simpa using hj), List.getElem_set]
  split
  · rfl
  · rw [nth_get hj]
theorem perm_iota {p : List Int} (h : Perm p) : p.Perm (iotaP p.length) := by
  have h1 := perm_inOrder h
  have h2 : srt p = iotaP p.length := nth_ext (by rw [srt_len, iotaP_len]) fun k hk => by
    rw [srt_len] at hk
    rw [h1 k hk, iotaP_nth hk]
  rw [← h2]
  exact (srt_perm p).symm
theorem perm_surj {p : List Int} (h : Perm p) {i : Nat} (hi : i < p.length) : ∃ v, v < p.length ∧ nth p v = i := by
  have : (i : Int) ∈ p := (perm_iota h).mem_iff.2 (by unfold iotaP; exact List.mem_map.2 ⟨i, by simpa using hi, rfl⟩)
  exact mem_nth this
theorem perm_lt {p : List Int} (h : Perm p) {v : Nat} (hv : v < p.length) : (nth p v).toNat < p.length ∧ ((nth p v).toNat : Int) = nth p v := by
  have := h.bd v hv
  omega
theorem relTo_nth {cs p : List Int} (hp : Perm p) (hl : p.length = cs.length) : ∀ (k : Nat), k ≤ cs.length → ∀ v, v < k → nth (relTo cs p k) (nth p v).toNat = nth cs v
  | 0, _, v, h => absurd h (by omega)
  | k + 1, hk, v, hv => by
    have b := perm_lt hp (v := v) (by omega)
    have b' := perm_lt hp (v := k) (by omega)
    rw [relTo_step, nth_set (by rw [relTo_len]; omega)]
    by_cases e : k = v
    · subst e
      rw [if_pos rfl]
    · rw [if_neg (fun h => e (perm_inj hp (by omega) (by omega) (by omega)))]
      exact relTo_nth hp hl k (by omega) v (by omega)
theorem relC_nth {cs p : List Int} (hp : Perm p) (hl : p.length = cs.length) {v : Nat} (hv : v < cs.length) : nth (relC cs p) (nth p v).toNat = nth cs v := relTo_nth hp hl _ (Nat.le_refl _) v hv
theorem relC_len (cs p : List Int) : (relC cs p).length = cs.length := relTo_len cs p _
/-- first p, then q -/
def thenP (p q : List Int) : List Int := p.map fun x => nth q x.toNat
theorem thenP_len (p q : List Int) : (thenP p q).length = p.length := by simp [thenP]
theorem thenP_nth {p q : List Int} {v : Nat} (hv : v < p.length) : nth (thenP p q) v = nth q (nth p v).toNat := by
  rw [nth_get (by rw [thenP_len]; exact hv), nth_get hv]
  simp [thenP]
def invP (p : List Int) : List Int := relC (iotaP p.length) p
theorem invP_len (p : List Int) : (invP p).length = p.length := by rw [invP, relC_len, iotaP_len]
theorem invP_nth {p : List Int} (hp : Perm p) {v : Nat} (hv : v < p.length) : nth (invP p) (nth p v).toNat = v := by
  rw [invP, relC_nth hp (by rw [iotaP_len]) (by rw [iotaP_len]; exact hv), iotaP_nth hv]
theorem perm_of {n : Nat} {p : List Int} (hl : p.length = n) (hb : ∀ v, v < n → 0 ≤ nth p v ∧ nth p v < n) (hi : ∀ u v, u < n → v < n → nth p u = nth p v → u = v) : Perm p :=
  ⟨fun k hk => by rw [hl] at hk ⊢; exact hb k hk, fun i j hij hj e => by have := hi i j (by omega) (by omega) e; omega⟩
theorem thenP_perm {p q : List Int} (hp : Perm p) (hq : Perm q) (hl : p.length = q.length) : Perm (thenP p q) := by
  refine perm_of (thenP_len p q) (fun v hv => ?_) (fun u v hu hv e => ?_)
  · rw [thenP_nth hv]
    have := perm_lt hp hv
    have := hq.bd (nth p v).toNat (by omega)
    omega
  · rw [thenP_nth hu, thenP_nth hv] at e
    have a := perm_lt hp hu
    have b := perm_lt hp hv
    have := perm_inj hq (by omega) (by omega) e
    exact perm_inj hp hu hv (by omega)
theorem invP_right {p : List Int} (hp : Perm p) {i : Nat} (hi : i < p.length) : nth p (nth (invP p) i).toNat = i := by
  obtain ⟨v, hv, e⟩ := perm_surj hp hi
  have := invP_nth hp hv
  rw [e] at this
  simp at this
  rw [this]
  simpa using e
theorem invP_perm {p : List Int} (hp : Perm p) : Perm (invP p) := by
  refine perm_of (invP_len p) (fun v hv => ?_) (fun u v hu hv e => ?_)
  · obtain ⟨u, hu, e⟩ := perm_surj hp hv
    have := invP_nth hp hu
    rw [e] at this
    simp at this
    rw [this]
    omega
  · have a := invP_right hp hu
    have b := invP_right hp hv
    rw [e, b] at a
    omega
theorem iotaP_perm (n : Nat) : Perm (iotaP n) := by
  refine perm_of (iotaP_len n) (fun v hv => ?_) (fun u v hu hv e => ?_)
  · rw [iotaP_nth hv]; omega
  · rw [iotaP_nth hu, iotaP_nth hv] at e; omega
/-- an automorphism: it keeps the colors and the neighbors -/
structure Aut (cs : List Int) (es : List Ed) (s : List Int) : Prop where
  perm : Perm s
  len : s.length = cs.length
  col : ∀ v, v < cs.length → nth cs (nth s v).toNat = nth cs v
  nb : ∀ x y, x < cs.length → y < cs.length → nbB es (nth s x).toNat (nth s y).toNat = nbB es x y
end Go.Proofs.YtemdjochphehjaaGreat
/- The search and relabelings of graphs, plain: its rows are the leaves with the least form. No program in sight. -/
namespace Go.Proofs.YtemdjochphehjaaGreat

/-! the search and relabelings -/
/-- s leads from one graph's vertices to another one's, neighbors to neighbors -/
structure Iso (n : Nat) (es fs : List Ed) (s : List Int) : Prop where
  perm : Perm s
  len : s.length = n
  nb : ∀ x y, x < n → y < n → nbB fs (nth s x).toNat (nth s y).toNat = nbB es x y
section
variable {n : Nat} {es fs : List Ed} {s : List Int}
theorem Iso.near (h : Iso n es fs s) {v : Nat} (hv : v < n) : (nearV n fs (nth s v).toNat).Perm ((nearV n es v).map fun x => nth s x.toNat) := by
  have hnd1 : (nearV n fs (nth s v).toNat).Nodup := (nearV_sorted n fs _).imp fun h => by omega
  have hnd2 : ((nearV n es v).map fun x => nth s x.toNat).Nodup := by
    rw [List.Nodup, List.pairwise_map]
    refine List.Pairwise.imp_of_mem ?_ (nearV_sorted n es v)
    intro a b ha hb hab e
    have h1 := nearV_bd ha
    have h2 := nearV_bd hb
    have := perm_inj h.perm (by rw [h.len]; omega) (by rw [h.len]; omega) e
    omega
  refine (List.perm_ext_iff_of_nodup hnd1 hnd2).2 fun x => ?_
  rw [nearV_mem, List.mem_map]
  constructor
  · rintro ⟨b, rfl, hb, hnb⟩
    obtain ⟨u, hu, e⟩ := perm_surj h.perm (i := b) (by rw [h.len]; exact hb)
    rw [h.len] at hu
    refine ⟨u, (nearV_mem n es v _).2 ⟨u, rfl, hu, ?_⟩, by simpa using e⟩
    rw [← h.nb v u hv hu, e]
    simpa using hnb
  · rintro ⟨y, hy, rfl⟩
    obtain ⟨u, rfl, hu, hnb⟩ := (nearV_mem n es v y).1 hy
    have b := perm_lt h.perm (v := u) (by rw [h.len]; exact hu)
    refine ⟨(nth s u).toNat, by simpa using b.2.symm, by rw [← h.len]; exact b.1, ?_⟩
    rw [h.nb v u hv hu]
    exact hnb
/-- cells seen through s -/
theorem Iso.key (h : Iso n es fs s) {c : List Int} (_ : c.length = n) {v : Nat} (hv : v < n) : keyP (nearP n es) (thenP s c) v = keyP (nearP n fs) c (nth s v).toNat := by
  have b := perm_lt h.perm (v := v) (by rw [h.len]; exact hv)
  rw [h.len] at b
  unfold keyP
  rw [thenP_nth (by rw [h.len]; exact hv), nearP_row hv, nearP_row b.1]
  congr 1
  refine srt_perm_eq ?_
  have h1 := (h.near hv).map fun w => nth c w.toNat
  rw [List.map_map] at h1
  refine List.Perm.trans (List.Perm.of_eq ?_) h1.symm
  refine List.map_congr_left fun x hx => ?_
  have hb := nearV_bd hx
  simp only [Function.comp]
  rw [thenP_nth (by rw [h.len]; omega)]
theorem Iso.keys (h : Iso n es fs s) {c : List Int} (hc : c.length = n) (x : List Int) : x ∈ keysP (nearP n es) (thenP s c) ↔ x ∈ keysP (nearP n fs) c := by
  unfold keysP
  rw [List.mem_map, List.mem_map]
  constructor
  · rintro ⟨v, hv, rfl⟩
    have hv : v < n := by simpa [thenP_len, h.len] using hv
    have b := perm_lt h.perm (v := v) (by rw [h.len]; exact hv)
    rw [h.len] at b
    exact ⟨(nth s v).toNat, by simp [hc]; exact b.1, (h.key hc hv).symm⟩
  · rintro ⟨v, hv, rfl⟩
    have hv : v < n := by simpa [hc] using hv
    obtain ⟨u, hu, e⟩ := perm_surj h.perm (i := v) (by rw [h.len]; exact hv)
    rw [h.len] at hu
    refine ⟨u, by simp [thenP_len, h.len]; exact hu, ?_⟩
    rw [h.key hc hu, e]
    simp
theorem Iso.kinds (h : Iso n es fs s) {c : List Int} (hc : c.length = n) : kindsP (nearP n es) (thenP s c) = kindsP (nearP n fs) c :=
  setG_eq cmpL_ord kindsP_strict fun x => ((setG_mem cmpL_ord _ x).trans (h.keys hc x).symm)
theorem Iso.round (h : Iso n es fs s) {c : List Int} (hc : c.length = n) : roundP (nearP n es) (thenP s c) = thenP s (roundP (nearP n fs) c) := by
  refine nth_ext (by rw [roundP_len, thenP_len, thenP_len]) fun v hv => ?_
  rw [roundP_len, thenP_len] at hv
  have b := perm_lt h.perm (v := v) hv
  rw [h.len] at b hv
  rw [roundP_nth (by rw [thenP_len, h.len]; exact hv), thenP_nth (by rw [h.len]; exact hv), roundP_nth (by rw [hc]; exact b.1), h.kinds hc, h.key hc hv]
theorem thenP_perm_list (hs : Perm s) (hl : s.length = n) {c : List Int} (hc : c.length = n) : (thenP s c).Perm c := by
  have h1 := (perm_iota hs).map fun x => nth c x.toNat
  refine List.Perm.trans h1 (List.Perm.of_eq ?_)
  refine nth_ext (by simp [iotaP_len, hl, hc]) fun k hk => ?_
  have hk : k < n := by simpa [iotaP_len, hl] using hk
  have := thenP_nth (p := iotaP s.length) (q := c) (v := k) (by rw [iotaP_len, hl]; exact hk)
  rw [iotaP_nth (by rw [hl]; exact hk)] at this
  simpa [thenP] using this
theorem manyP_perm {l m : List Int} (h : l.Perm m) : manyP l = manyP m := by
  unfold manyP
  rw [setG_eq sgnI_ord (setG_strict sgnI_ord m) fun x => (setG_mem sgnI_ord m x).trans (h.mem_iff).symm]
theorem Iso.many (h : Iso n es fs s) {c : List Int} (hc : c.length = n) : manyP (thenP s c) = manyP c := manyP_perm (thenP_perm_list h.perm h.len hc)
theorem Iso.refF (h : Iso n es fs s) : ∀ (f : Nat) {c : List Int}, c.length = n → Go.Proofs.YtemdjochphehjaaGreat.refF (nearP n es) f (thenP s c) = thenP s (Go.Proofs.YtemdjochphehjaaGreat.refF (nearP n fs) f c)
  | 0, c, hc => h.round hc
  | f + 1, c, hc => by
    rw [Go.Proofs.YtemdjochphehjaaGreat.refF, Go.Proofs.YtemdjochphehjaaGreat.refF, h.round hc, h.many (by rw [roundP_len]; exact hc), h.many hc]
    split
    · rfl
    · exact h.refF f (by rw [roundP_len]; exact hc)
theorem Iso.split (h : Iso n es fs s) {c : List Int} (hc : c.length = n) {v : Nat} (hv : v < n) : splitP (thenP s c) v = thenP s (splitP c (nth s v).toNat) := by
  refine nth_ext (by rw [splitP_len, thenP_len, thenP_len]) fun u hu => ?_
  rw [splitP_len, thenP_len, h.len] at hu
  have b := perm_lt h.perm (v := u) (by rw [h.len]; exact hu)
  have b' := perm_lt h.perm (v := v) (by rw [h.len]; exact hv)
  rw [h.len] at b b'
  rw [splitP_nth (by rw [thenP_len, h.len]; exact hu), thenP_nth (by rw [h.len]; exact hv), thenP_nth (by rw [h.len]; exact hu), thenP_nth (by rw [h.len]; exact hu), splitP_nth (by rw [hc]; exact b.1)]
  by_cases e : u = v
  · rw [if_pos e, if_pos (by rw [e])]
  · rw [if_neg e, if_neg fun e' => e (perm_inj h.perm (by rw [h.len]; exact hu) (by rw [h.len]; exact hv) (by omega))]
end
/-- the leaves below some cells -/
inductive Leaf (near : List (List Int)) : List Int → List Int → Prop
  | here {c : List Int} (h : tgtP c < 0) : Leaf near c c
  | down {c p : List Int} (v : Nat) (h : ¬ tgtP c < 0) (hv : v < c.length) (ht : nth c v = tgtP c) (hp : Leaf near (refP near (splitP c v)) p) : Leaf near c p
theorem Leaf.cells {near : List (List Int)} {n : Nat} {c p : List Int} (h : Leaf near c p) : Cells n c → Cells n p ∧ Perm p := by
  induction h with
  | here h => exact fun hc => ⟨hc, tgtP_perm hc h⟩
  | @down c p v h hv ht hp ih =>
    intro hc
    refine ih ?_
    have := refP_cells near (splitP c v)
    rwa [splitP_len, hc.len] at this
/-! which leaves a search keeps -/
theorem cmpF_zero {c1 c2 : List Int} {e1 e2 : List Ed} (h : cmpF c1 e1 c2 e2 = 0) : c1 = c2 ∧ flatE e1 = flatE e2 := by
  unfold cmpF at h
  split at h
  · rename_i h1; exact absurd h h1
  · rename_i h1
    exact ⟨cmpL_zero (by simpa using h1), cmpL_zero h⟩
theorem flatE_inj {e1 e2 : List Ed} (h : flatE e1 = flatE e2) : e1 = e2 := by
  induction e1 generalizing e2 with
  | nil =>
    cases e2 with
    | nil => rfl
    | cons b r => simp [flatE] at h
  | cons a r ih =>
    cases e2 with
    | nil => simp [flatE] at h
    | cons b r' =>
      simp [flatE] at h
      rw [ih (e2 := r') (by simpa [flatE] using h.2.2)]
      congr 1
      exact Prod.ext h.1 h.2.1
theorem cmpF_self (c : List Int) (e : List Ed) : cmpF c e c e = 0 := by simp [cmpF, cmpL_refl]
theorem cmpF_swap (c1 c2 : List Int) (e1 e2 : List Ed) : cmpF c2 e2 c1 e1 = - cmpF c1 e1 c2 e2 := by
  unfold cmpF
  rw [cmpL_swap c1 c2, cmpL_swap (flatE e1) (flatE e2)]
  split <;> split <;> omega
theorem cmpF_trans {c1 c2 c3 : List Int} {e1 e2 e3 : List Ed} (h1 : cmpF c1 e1 c2 e2 ≤ 0) (h2 : cmpF c2 e2 c3 e3 ≤ 0) : cmpF c1 e1 c3 e3 ≤ 0 := by
  unfold cmpF at *
  by_cases a : cmpL c1 c2 = 0
  · have := cmpL_zero a
    subst this
    rw [if_neg (by simpa using cmpL_refl c1)] at h1
    by_cases b : cmpL c1 c3 = 0
    · have := cmpL_zero b
      subst this
      rw [if_neg (by simpa using cmpL_refl c1)] at h2 ⊢
      exact cmpL_trans h1 h2
    · rw [if_pos b] at h2 ⊢
      exact h2
  · rw [if_pos a] at h1
    by_cases b : cmpL c2 c3 = 0
    · have := cmpL_zero b
      subst this
      rw [if_pos a]
      exact h1
    · rw [if_pos b] at h2
      have h3 := cmpL_ord.lt_trans (x := c1) (y := c2) (z := c3) (by omega) (by omega)
      rw [if_pos (by omega)]
      omega
section
variable (cs : List Int) (es : List Ed)
def formLe (p : List Int) (s : St) : Prop := 0 ≤ cmpF (relC cs p) (relE es p) s.fc s.fe
/-- all leaves of P have been seen -/
structure Seen (P : List Int → Prop) (s : St) : Prop where
  forms : ∀ p ∈ s.best, relC cs p = s.fc ∧ relE es p = s.fe
  all : ∀ p, P p → s.best ≠ [] ∧ formLe cs es p s ∧ (relC cs p = s.fc ∧ relE es p = s.fe → p ∈ s.best)
theorem Seen.leaf {P : List Int → Prop} {s : St} (h : Seen cs es P s) (p : List Int) : Seen cs es (fun q => P q ∨ q = p) (leafP cs es s p) := by
  by_cases hb : s.best = []
  · have hc : leafC cs es s p = -1 := by simp [leafC, hb]
    have e : leafP cs es s p = { s with leaves := s.leaves + 1, fc := relC cs p, fe := relE es p, best := [p] } := by simp [leafP, hc]
    rw [e]
    refine ⟨fun q hq => by rw [List.mem_singleton.1 hq]; exact ⟨rfl, rfl⟩, fun q hq => ⟨by simp, ?_, fun _ => ?_⟩⟩
    · rcases hq with hq | rfl
      · exact absurd hb (h.all q hq).1
      · show 0 ≤ cmpF _ _ _ _
        rw [cmpF_self]; omega
    · rcases hq with hq | rfl
      · exact absurd hb (h.all q hq).1
      · simp
  · have hc : leafC cs es s p = cmpF (relC cs p) (relE es p) s.fc s.fe := by simp [leafC, hb]
    rcases Int.lt_trichotomy (leafC cs es s p) 0 with h1 | h1 | h1
    · have e : leafP cs es s p = { s with leaves := s.leaves + 1, fc := relC cs p, fe := relE es p, best := [p] } := by simp [leafP, h1]
      rw [e]
      refine ⟨fun q hq => by rw [List.mem_singleton.1 hq]; exact ⟨rfl, rfl⟩, fun q hq => ⟨by simp, ?_, fun hf => ?_⟩⟩
      · show 0 ≤ cmpF _ _ _ _
        rcases hq with hq | rfl
        · have h2 := (h.all q hq).2.1
          unfold formLe at h2
          have h3 := cmpF_swap (relC cs q) s.fc (relE es q) s.fe
          have h4 := cmpF_trans (c1 := relC cs p) (e1 := relE es p) (c2 := s.fc) (e2 := s.fe) (c3 := relC cs q) (e3 := relE es q) (by omega) (by omega)
          have h5 := cmpF_swap (relC cs q) (relC cs p) (relE es q) (relE es p)
          show 0 ≤ cmpF (relC cs q) (relE es q) (relC cs p) (relE es p)
          omega
        · rw [cmpF_self]; omega
      · rcases hq with hq | rfl
        · exfalso
          have h2 := (h.all q hq).2.1
          unfold formLe at h2
          simp only [] at hf
          rw [hf.1, hf.2, ← hc] at h2
          omega
        · simp
    · have e : leafP cs es s p = { s with leaves := s.leaves + 1, best := s.best ++ [p] } := by simp [leafP, h1]
      rw [e]
      rw [h1] at hc
      obtain ⟨f1, f2⟩ := cmpF_zero hc.symm
      have f2 := flatE_inj f2
      refine ⟨fun q hq => ?_, fun q hq => ⟨by simp, ?_, fun hf => ?_⟩⟩
      · rcases List.mem_append.1 hq with hq | hq
        · exact h.forms q hq
        · rw [List.mem_singleton.1 hq]; exact ⟨f1, f2⟩
      · rcases hq with hq | rfl
        · exact (h.all q hq).2.1
        · show 0 ≤ cmpF (relC cs q) (relE es q) s.fc s.fe
          omega
      · rcases hq with hq | rfl
        · exact List.mem_append_left _ ((h.all q hq).2.2 hf)
        · simp
    · have e : leafP cs es s p = { s with leaves := s.leaves + 1 } := by
        have a1 : ¬ leafC cs es s p < 0 := by omega
        have a2 : ¬ leafC cs es s p = 0 := by omega
        simp only [leafP, if_neg a1, if_neg a2]
      rw [e]
      refine ⟨h.forms, fun q hq => ⟨hb, ?_, fun hf => ?_⟩⟩
      · rcases hq with hq | rfl
        · exact (h.all q hq).2.1
        · show 0 ≤ cmpF (relC cs q) (relE es q) s.fc s.fe
          omega
      · rcases hq with hq | rfl
        · exact (h.all q hq).2.2 hf
        · exfalso
          simp only [] at hf
          rw [hf.1, hf.2, cmpF_self] at hc
          omega
theorem Seen.next {P : List Int → Prop} {s t : St} (h : Seen cs es P s) (h1 : t.best = s.best) (h2 : t.fc = s.fc) (h3 : t.fe = s.fe) : Seen cs es P t := by
  obtain ⟨a, b⟩ := h
  refine ⟨fun p hp => ?_, fun p hp => ?_⟩
  · rw [h2, h3]; exact a p (by rw [← h1]; exact hp)
  · unfold formLe
    rw [h1, h2, h3]
    exact b p hp
end
end Go.Proofs.YtemdjochphehjaaGreat
/- The automorphisms that a search finds are all of them, plain. No program in sight. -/
namespace Go.Proofs.YtemdjochphehjaaGreat

/-! the automorphisms that a search finds are all of them -/
section
variable {cs : List Int} {es : List Ed} {b : Nat}
/-- automorphisms are a group -/
theorem Aut.id (cs : List Int) (es : List Ed) : Aut cs es (iotaP cs.length) :=
  ⟨iotaP_perm _, iotaP_len _, fun v hv => by rw [iotaP_nth hv]; simp, fun x y hx hy => by rw [iotaP_nth hx, iotaP_nth hy]; simp⟩
theorem Aut.comp {s t : List Int} (hs : Aut cs es s) (ht : Aut cs es t) : Aut cs es (thenP s t) := by
  have hb : ∀ {v}, v < cs.length → (nth s v).toNat < cs.length := fun {v} hv => by have := perm_lt hs.perm (v := v) (by rw [hs.len]; exact hv); rw [hs.len] at this; exact this.1
  refine ⟨thenP_perm hs.perm ht.perm (by rw [hs.len, ht.len]), by rw [thenP_len, hs.len], fun v hv => ?_, fun x y hx hy => ?_⟩
  · rw [thenP_nth (by rw [hs.len]; exact hv), ht.col _ (hb hv), hs.col v hv]
  · rw [thenP_nth (by rw [hs.len]; exact hx), thenP_nth (by rw [hs.len]; exact hy), ht.nb _ _ (hb hx) (hb hy), hs.nb x y hx hy]
theorem Aut.inv {s : List Int} (hs : Aut cs es s) : Aut cs es (invP s) := by
  have key : ∀ v, v < cs.length → ∃ u, u < cs.length ∧ nth s u = v ∧ nth (invP s) v = u := fun v hv => by
    obtain ⟨u, hu, e⟩ := perm_surj hs.perm (i := v) (by rw [hs.len]; exact hv)
    refine ⟨u, by rw [← hs.len]; exact hu, e, ?_⟩
    have := invP_nth hs.perm hu
    rw [e] at this
    simpa using this
  refine ⟨invP_perm hs.perm, by rw [invP_len, hs.len], fun v hv => ?_, fun x y hx hy => ?_⟩
  · obtain ⟨u, hu, e1, e2⟩ := key v hv
    rw [e2]
    have := hs.col u hu
    rw [e1] at this
    simpa using this.symm
  · obtain ⟨u, hu, e1, e2⟩ := key x hx
    obtain ⟨w, hw, e3, e4⟩ := key y hy
    rw [e2, e4]
    have := hs.nb u w hu hw
    rw [e1, e3] at this
    simpa using this.symm
end
end Go.Proofs.YtemdjochphehjaaGreat
/- Repetitions taken out of a list in place, plain. No program in sight. -/
namespace Go.Proofs.YtemdjochphehjaaGreat

/-! repetitions taken out, place by place -/
section
variable {α : Type} [DecidableEq α]
theorem comp_snoc : ∀ (l : List α) (x : α), comp (l ++ [x]) = if l.getLast? = some x then comp l else comp l ++ [x]
  | [], x => by simp [comp]
  | [y], x => by
    by_cases e : y = x
    · subst e; simp [comp]
    · simp [comp, e]
  | y :: z :: r, x => by
    have ih := comp_snoc (z :: r) x
    have hlast : (y :: z :: r).getLast? = (z :: r).getLast? := by simp [List.getLast?_cons_cons]
    rw [hlast]
    show comp (y :: z :: (r ++ [x])) = _
    rw [comp]
    have ih' : comp (z :: (r ++ [x])) = if (z :: r).getLast? = some x then comp (z :: r) else comp (z :: r) ++ [x] := ih
    rw [ih']
    by_cases e : y = z
    · rw [if_pos e]
      conv => rhs; rw [comp, if_pos e]
    · rw [if_neg e]
      conv => rhs; rw [comp, if_neg e]
      split <;> simp
theorem comp_take_step {l : List α} {k : Nat} (h : k + 1 < l.length) : comp (l.take (k + 1 + 1)) = if l[k + 1] = l[k] then comp (l.take (k + 1)) else comp (l.take (k + 1)) ++ [l[k + 1]] := by
  have e : (l.take (k + 1)).getLast? = some l[k] := by
    rw [List.getLast?_eq_getElem?, List.length_take, Nat.min_eq_left (by omega), List.getElem?_take]
    simp
  rw [List.take_succ_eq_append_getElem h, comp_snoc, e]
  by_cases h2 : l[k + 1] = l[k]
  · rw [if_pos (by rw [h2]), if_pos h2]
  · rw [if_neg (by intro h3; injection h3 with h3; exact h2 h3.symm), if_neg h2]
/-- no two neighbors are the same -/
theorem comp_same : ∀ {l : List α}, (∀ (k : Nat) (h : k + 1 < l.length), l[k + 1] ≠ l[k]) → comp l = l
  | [], _ => rfl
  | [_], _ => rfl
  | y :: z :: r, h => by
    have h0 := h 0 (by simp)
    simp at h0
    rw [comp, if_neg (fun e => h0 e.symm), comp_same fun k hk => ?_]
    have := h (k + 1) (by simpa using hk)
    simpa using this
/-- what stands in memory behind the first k2 places: the kept ones in front, the rest as it was -/
structure CompT (d z : List α) (k j : Nat) : Prop where
  len : z.length = d.length
  kj : k < j
  jd : j ≤ d.length
  front : z.take k = comp (d.take j)
  klen : (comp (d.take j)).length = k
  rest : ∀ i, j ≤ i + 1 → z[i]? = d[i]?
theorem CompT.start {d : List α} {k : Nat} (h : k + 1 < d.length) (hs : ∀ (i : Nat) (hi : i + 1 ≤ k) (hd : i + 1 < d.length), d[i + 1] ≠ d[i]) (he : d[k + 1] = d[k]) : CompT d d (k + 1) (k + 1 + 1) := by
  have e1 : comp (d.take (k + 1)) = d.take (k + 1) := comp_same fun i hi => by
    have hi' : i + 1 < k + 1 := by rw [List.length_take] at hi; omega
    rw [List.getElem_take, List.getElem_take]
    exact hs i (by omega) (by omega)
  have e2 : comp (d.take (k + 1 + 1)) = d.take (k + 1) := by rw [comp_take_step h, if_pos he, e1]
  exact ⟨rfl, by omega, by omega, e2.symm, by rw [e2, List.length_take]; omega, fun _ _ => rfl⟩
theorem CompT.same {d z : List α} {k j : Nat} (h : CompT d z k (j + 1)) (hj : j + 1 < d.length) (he : d[j + 1] = d[j]) : CompT d z k (j + 1 + 1) := by
  have e2 : comp (d.take (j + 1 + 1)) = comp (d.take (j + 1)) := by rw [comp_take_step hj, if_pos he]
  exact ⟨h.len, by have := h.kj; omega, by omega, by rw [e2]; exact h.front, by rw [e2]; exact h.klen, fun i hi => h.rest i (by omega)⟩
theorem CompT.new {d z : List α} {k j : Nat} (h : CompT d z k (j + 1)) (hj : j + 1 < d.length) (he : d[j + 1] ≠ d[j]) : CompT d (z.set k d[j + 1]) (k + 1) (j + 1 + 1) := by
  have e2 : comp (d.take (j + 1 + 1)) = comp (d.take (j + 1)) ++ [d[j + 1]] := by rw [comp_take_step hj, if_neg he]
  have hk := h.kj
  have hl := h.len
  refine ⟨by simpa using hl, by omega, by omega, ?_, by rw [e2, List.length_append, h.klen]; rfl, fun i hi => ?_⟩
  · rw [e2, ← h.front, List.take_succ_eq_append_getElem (by simp; omega), List.take_set_of_le (by omega)]
    simp
  · rw [List.getElem?_set_ne (by omega)]
    exact h.rest i (by omega)
theorem CompT.done {d z : List α} {k : Nat} (h : CompT d z k d.length) : z.take k = comp d ∧ (comp d).length = k := by
  have h1 := h.front
  have h2 := h.klen
  rw [List.take_length] at h1 h2
  exact ⟨h1, h2⟩
end
end Go.Proofs.YtemdjochphehjaaGreat
