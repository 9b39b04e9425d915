/- Canonical forms of graphs, plain: orders, refinement, the search, what a search keeps. No program in sight. -/
import Derived.Test.YtncknfhfkmmhbaaGreatZAM
import Derived.Test.YtncknfhfkmmhbaaGreatZAG
import Derived.Test.YtncknfhfkmmhbaaGreatZAH
import Derived.Test.YtncknfhfkmmhbaaGreatZAI
set_option linter.unusedVariables false
set_option linter.unusedSimpArgs false
namespace Go.Proofs.YtncknfhfkmmhbaaGreat

/-! the other orders -/
theorem cmpL_ord : TOrd cmpL where
  eq_of := cmpL_zero
  self := cmpL_refl
  swap := cmpL_swap
  trans := cmpL_trans
theorem cmpE_ord : TOrd cmpE where
  eq_of := fun {x y} h => by
    unfold cmpE orI at h
    rcases sgnI_cases x.1 y.1 with ⟨h1, e⟩ | ⟨h1, e⟩ | ⟨h1, e⟩ <;> rcases sgnI_cases x.2 y.2 with ⟨h2, e'⟩ | ⟨h2, e'⟩ | ⟨h2, e'⟩ <;> rw [e, e'] at h <;> simp at h
    exact Prod.ext h1 h2
  self := fun x => by simp [cmpE, orI, sgnI]
  swap := fun x y => by
    unfold cmpE orI
    rw [sgnI_ord.swap x.1 y.1, sgnI_ord.swap x.2 y.2]
    split <;> split <;> omega
  trans := fun {x y z} h1 h2 => by
    unfold cmpE orI at *
    rcases sgnI_cases x.1 y.1 with ⟨a, e⟩ | ⟨a, e⟩ | ⟨a, e⟩ <;> rcases sgnI_cases y.1 z.1 with ⟨a', e'⟩ | ⟨a', e'⟩ | ⟨a', e'⟩ <;> rcases sgnI_cases x.1 z.1 with ⟨a'', e''⟩ | ⟨a'', e''⟩ | ⟨a'', e''⟩ <;> rw [e] at h1 <;> rw [e'] at h2 <;> rw [e''] <;> simp at h1 h2 ⊢ <;> first | omega | exact sgnI_ord.trans h1 h2
/-! refinement -/
def keyP (near : List (List Int)) (cells : List Int) (v : Nat) : List Int := nth cells v :: srt ((row near v).map fun w => nth cells w.toNat)
def keysP (near : List (List Int)) (cells : List Int) : List (List Int) := (List.range cells.length).map (keyP near cells)
def kindsP (near : List (List Int)) (cells : List Int) : List (List Int) := setG cmpL (keysP near cells)
def roundP (near : List (List Int)) (cells : List Int) : List Int := (keysP near cells).map fun k => (idxG cmpL (kindsP near cells) k : Int)
def manyP (cells : List Int) : Nat := (setG sgnI cells).length
section
variable {near : List (List Int)} {cells : List Int}
theorem keysP_len : (keysP near cells).length = cells.length := by simp [keysP]
theorem roundP_len : (roundP near cells).length = cells.length := by simp [roundP, keysP]
theorem keysP_row {v : Nat} (h : v < cells.length) : row (keysP near cells) v = keyP near cells v := by
  rw [row_get (by rw [keysP_len]; exact h)]
  simp [keysP]
theorem keyP_mem {v : Nat} (h : v < cells.length) : keyP near cells v ∈ keysP near cells := List.mem_map.2 ⟨v, List.mem_range.2 h, rfl⟩
theorem kindsP_mem {v : Nat} (h : v < cells.length) : keyP near cells v ∈ kindsP near cells := (setG_mem cmpL_ord _ _).2 (keyP_mem h)
theorem kindsP_strict : StrictL cmpL (kindsP near cells) := setG_strict cmpL_ord _
theorem roundP_nth {v : Nat} (h : v < cells.length) : nth (roundP near cells) v = (idxG cmpL (kindsP near cells) (keyP near cells v) : Int) := by
  rw [nth_get (by rw [roundP_len]; exact h)]
  simp [roundP, keysP]
theorem kindsP_len : (kindsP near cells).length ≤ cells.length := by
  have := setG_len (c := cmpL) (keysP near cells)
  rw [keysP_len] at this
  exact this
theorem roundP_bd {v : Nat} (h : v < cells.length) : 0 ≤ nth (roundP near cells) v ∧ nth (roundP near cells) v < cells.length := by
  rw [roundP_nth h]
  have h1 := (idxG_mem cmpL_ord kindsP_strict (kindsP_mem (near := near) h)).1
  have h2 := kindsP_len (near := near) (cells := cells)
  omega
theorem roundP_fine {u v : Nat} (hu : u < cells.length) (hv : v < cells.length) (he : nth (roundP near cells) u = nth (roundP near cells) v) : nth cells u = nth cells v := by
  rw [roundP_nth hu, roundP_nth hv] at he
  have := idxG_inj cmpL_ord kindsP_strict (kindsP_mem (near := near) hu) (kindsP_mem (near := near) hv) (by omega)
  unfold keyP at this
  injection this
theorem manyP_le (l : List Int) : manyP l ≤ l.length := setG_len _
theorem manyP_mono {l m : List Int} (hlen : m.length = l.length) (hf : ∀ u v, u < l.length → v < l.length → nth m u = nth m v → nth l u = nth l v) : manyP l ≤ manyP m := by
  have hnd := strict_nodup sgnI_ord (setG_strict sgnI_ord l)
  let f : Int → Int := fun z => nth l (m.idxOf z)
  have hsub : setG sgnI l ⊆ (setG sgnI m).map f := fun x hx => by
    obtain ⟨k, hk, rfl⟩ := mem_nth ((setG_mem sgnI_ord l x).1 hx)
    have hm : nth m k ∈ m := nth_mem (by omega)
    refine List.mem_map.2 ⟨nth m k, (setG_mem sgnI_ord m _).2 hm, ?_⟩
    have hi : m.idxOf (nth m k) < m.length := List.idxOf_lt_length_of_mem hm
    refine hf _ _ (by omega) hk ?_
    rw [nth_get hi]
    simp
  have := List.Nodup.length_le_of_subset hnd hsub
  simpa [manyP] using this
theorem roundP_many : manyP cells ≤ manyP (roundP near cells) := manyP_mono roundP_len fun _ _ hu hv he => roundP_fine hu hv he
end
def refF (near : List (List Int)) : Nat → List Int → List Int
  | 0, cells => roundP near cells
  | f + 1, cells => if manyP (roundP near cells) = manyP cells then roundP near cells else refF near f (roundP near cells)
def refP (near : List (List Int)) (cells : List Int) : List Int := refF near cells.length cells
theorem refF_more (near : List (List Int)) : ∀ (f g : Nat) (cells : List Int), cells.length ≤ f + manyP cells → cells.length ≤ g + manyP cells → refF near f cells = refF near g cells
  | 0, 0, _, _, _ => rfl
  | 0, g + 1, cells, h1, _ => by
    have hm := roundP_many (near := near) (cells := cells)
    have hl := manyP_le (roundP near cells)
    rw [roundP_len] at hl
    rw [refF, refF, if_pos (by omega)]
  | f + 1, 0, cells, _, h2 => by
    have hm := roundP_many (near := near) (cells := cells)
    have hl := manyP_le (roundP near cells)
    rw [roundP_len] at hl
    rw [refF, refF, if_pos (by omega)]
  | f + 1, g + 1, cells, h1, h2 => by
    have hm := roundP_many (near := near) (cells := cells)
    rw [refF, refF]
    split
    · rfl
    · exact refF_more near f g _ (by rw [roundP_len]; omega) (by rw [roundP_len]; omega)
theorem refP_eq (near : List (List Int)) (cells : List Int) : refP near cells = if manyP (roundP near cells) = manyP cells then roundP near cells else refP near (roundP near cells) := by
  unfold refP
  have hm := roundP_many (near := near) (cells := cells)
  have hl := manyP_le (roundP near cells)
  rw [roundP_len] at hl
  rw [refF_more near cells.length (cells.length + 1) cells (by omega) (by omega), refF]
  split
  · rfl
  · rw [roundP_len]
theorem refP_done {near : List (List Int)} {cells : List Int} (h : manyP (roundP near cells) = manyP cells) : refP near cells = roundP near cells := by rw [refP_eq, if_pos h]
theorem refP_more {near : List (List Int)} {cells : List Int} (h : manyP (roundP near cells) ≠ manyP cells) : refP near cells = refP near (roundP near cells) := by rw [refP_eq, if_neg h]
/-- the numbers of cells of n vertices -/
structure Cells (n : Nat) (cells : List Int) : Prop where
  len : cells.length = n
  bd : ∀ v, v < n → 0 ≤ nth cells v ∧ nth cells v < n
theorem refF_cells (near : List (List Int)) : ∀ (f : Nat) (cells : List Int), Cells cells.length (refF near f cells)
  | 0, cells => ⟨roundP_len, fun v h => roundP_bd h⟩
  | f + 1, cells => by
    rw [refF]
    split
    · exact ⟨roundP_len, fun v h => roundP_bd h⟩
    · have := refF_cells near f (roundP near cells)
      rwa [roundP_len] at this
theorem refP_cells (near : List (List Int)) (cells : List Int) : Cells cells.length (refP near cells) := refF_cells near _ _

/-! the cell that is split -/
def tgtP (cells : List Int) : Int :=
  match (List.range cells.length).find? fun (c : Nat) => decide (2 ≤ cells.count (c : Int)) with
  | some c => c
  | none => -1
def vF (cells : List Int) (t : Int) (k : Nat) : List Int := (((List.range cells.length).drop k).filter fun (v : Nat) => nth cells v == t).map fun (v : Nat) => (v : Int)
def vertsP (cells : List Int) (t : Int) : List Int := vF cells t 0
theorem vF_end (cells : List Int) (t : Int) : vF cells t cells.length = [] := by rw [vF, List.drop_eq_nil_of_le (by simp)]; rfl
theorem vF_step (cells : List Int) (t : Int) {k : Nat} (h : k < cells.length) : vF cells t k = if nth cells k = t then (k : Int) :: vF cells t (k + 1) else vF cells t (k + 1) := by
  unfold vF
  rw [List.drop_eq_getElem_cons (by simpa using h), List.filter_cons]
  simp only [List.getElem_range]
  by_cases e : nth cells k = t
  · simp [e]
  · simp [e]
/-- the vertices of a cell among the first k ones -/
def vT (cells : List Int) (t : Int) (k : Nat) : List Int := ((List.range k).filter fun (v : Nat) => nth cells v == t).map fun (v : Nat) => (v : Int)
theorem vT_zero (cells : List Int) (t : Int) : vT cells t 0 = [] := rfl
theorem vT_step (cells : List Int) (t : Int) (k : Nat) : vT cells t (k + 1) = if nth cells k = t then vT cells t k ++ [(k : Int)] else vT cells t k := by
  unfold vT
  rw [List.range_succ, List.filter_append, List.map_append]
  by_cases e : nth cells k = t
  · simp [e]
  · simp [e]
theorem vT_all (cells : List Int) (t : Int) : vT cells t cells.length = vertsP cells t := by simp [vT, vertsP, vF]
theorem vT_len (cells : List Int) (t : Int) (k : Nat) : (vT cells t k).length ≤ k := by
  unfold vT
  rw [List.length_map]
  exact Nat.le_trans (List.length_filter_le _ _) (by simp)
theorem range_nth (cells : List Int) : (List.range cells.length).map (fun v => nth cells v) = cells := by
  apply List.ext_getElem (by simp)
  intro i h1 h2
  simp [nth_get h2]
theorem vertsP_count (cells : List Int) (t : Int) : (vertsP cells t).length = cells.count t := by
  have h : cells.count t = ((List.range cells.length).map fun v => nth cells v).count t := by rw [range_nth]
  rw [h, vertsP, vF, List.length_map, List.drop_zero, List.count_eq_countP, List.countP_map, List.countP_eq_length_filter]
  rfl
theorem vertsP_mem {cells : List Int} {t x : Int} (h : x ∈ vertsP cells t) : ∃ v : Nat, x = v ∧ v < cells.length ∧ nth cells v = t := by
  obtain ⟨v, hv, rfl⟩ := List.mem_map.1 h
  have := List.mem_filter.1 hv
  exact ⟨v, rfl, by simpa using this.1, by simpa using this.2⟩
theorem tgtP_neg {cells : List Int} (h : tgtP cells < 0) : ∀ c : Nat, c < cells.length → cells.count (c : Int) < 2 := by
  unfold tgtP at h
  split at h
  · omega
  · rename_i hn
    intro c hc
    have := List.find?_eq_none.1 hn c (by simpa using hc)
    simpa using this
theorem tgtP_nonneg {cells : List Int} (h : ¬ tgtP cells < 0) : ∃ c : Nat, tgtP cells = c ∧ c < cells.length ∧ 2 ≤ cells.count (c : Int) ∧ ∀ d : Nat, d < c → cells.count (d : Int) < 2 := by
  unfold tgtP at *
  split
  · rename_i c hc
    obtain ⟨h1, la, lb, h2, h3⟩ := List.find?_eq_some_iff_append.1 hc
    have hr : c < cells.length := by
      have : c ∈ List.range cells.length := by rw [h2]; exact List.mem_append_right _ List.mem_cons_self
      simpa using this
    refine ⟨c, rfl, hr, by simpa using h1, fun d hd => ?_⟩
    have hlen : la.length = c := by
      have e : (List.range cells.length)[la.length]? = some c := by rw [h2]; simp
      have := List.getElem?_eq_some_iff.1 e
      obtain ⟨_, e⟩ := this
      simpa using e
    have hd' : d ∈ la := by
      have e : (List.range cells.length)[d]? = some d := List.getElem?_range (by omega)
      rw [h2, List.getElem?_append_left (by omega)] at e
      exact List.mem_of_getElem? e
    have := h3 d hd'
    simpa using this
  · rename_i hn
    rw [hn] at h
    simp at h
theorem tgtP_val {cells : List Int} {c : Nat} (hc : c < cells.length) (h2 : 2 ≤ cells.count (c : Int)) (hl : ∀ d : Nat, d < c → cells.count (d : Int) < 2) : tgtP cells = c := by
  by_cases hn : tgtP cells < 0
  · have := tgtP_neg hn c hc
    omega
  · obtain ⟨c', e, h1, h3, h4⟩ := tgtP_nonneg hn
    rw [e]
    rcases Nat.lt_trichotomy c c' with h | h | h
    · have := h4 c h; omega
    · rw [h]
    · have := hl c' h; omega
theorem tgtP_none {cells : List Int} (h : ∀ c : Nat, c < cells.length → cells.count (c : Int) < 2) : tgtP cells = -1 := by
  unfold tgtP
  split
  · rename_i c hc
    obtain ⟨h1, la, lb, h2, h3⟩ := List.find?_eq_some_iff_append.1 hc
    have hr : c < cells.length := by
      have : c ∈ List.range cells.length := by rw [h2]; simp
      simpa using this
    have := h c hr
    simp at h1
    omega
  · rfl
/-- cells of one vertex each are a permutation -/
theorem tgtP_perm {n : Nat} {cells : List Int} (hc : Cells n cells) (h : tgtP cells < 0) : Perm cells := by
  have hn := tgtP_neg h
  have hnd : cells.Nodup := by
    rw [List.nodup_iff_count]
    intro a
    by_cases ha : a ∈ cells
    · obtain ⟨k, hk, e⟩ := mem_nth ha
      have hb := hc.bd k (by rw [← hc.len]; exact hk)
      rw [← hc.len] at hb
      have := hn a.toNat (by omega)
      rw [show ((a.toNat : Nat) : Int) = a by omega] at this
      omega
    · rw [List.count_eq_zero_of_not_mem ha]; omega
  exact ⟨fun k hk => by have := hc.bd k (by rw [← hc.len]; exact hk); rw [← hc.len] at this; exact this, ne_nodup hnd⟩
/-- two places of one number -/
theorem count_two {cells : List Int} {u v : Nat} (huv : v < u) (hu : u < cells.length) (he : nth cells u = nth cells v) : 2 ≤ cells.count (nth cells u) := by
  have h1 : cells = cells.take u ++ cells.drop u := (List.take_append_drop u cells).symm
  rw [h1, List.count_append]
  have a1 : 1 ≤ (cells.take u).count (nth (cells.take u ++ cells.drop u) u) := by
    rw [← h1, he]
    refine List.one_le_count_iff.2 ?_
    rw [nth_get (by omega)]
    exact List.mem_take_iff_getElem.2 ⟨v, by omega, rfl⟩
  have a2 : 1 ≤ (cells.drop u).count (nth (cells.take u ++ cells.drop u) u) := by
    rw [← h1, nth_get hu]
    refine List.one_le_count_iff.2 ?_
    rw [List.drop_eq_getElem_cons hu]
    exact List.mem_cons_self
  omega
theorem two_count {cells : List Int} {c : Int} (h : 2 ≤ cells.count c) : ∃ u v, v < u ∧ u < cells.length ∧ nth cells u = c ∧ nth cells v = c := by
  rw [← vertsP_count] at h
  match hv : vertsP cells c, h with
  | x :: y :: r, _ =>
    have hp : (vertsP cells c).Pairwise fun a b => a < b := by
      unfold vertsP vF
      rw [List.pairwise_map]
      refine List.Pairwise.filter _ ?_
      rw [List.drop_zero]
      exact List.pairwise_lt_range.imp fun h => by omega
    rw [hv] at hp
    have hxy := (List.pairwise_cons.1 hp).1 y List.mem_cons_self
    obtain ⟨v, rfl, h1, h2⟩ := vertsP_mem (cells := cells) (t := c) (x := x) (by rw [hv]; exact List.mem_cons_self)
    obtain ⟨u, rfl, h3, h4⟩ := vertsP_mem (cells := cells) (t := c) (x := y) (by rw [hv]; simp)
    exact ⟨u, v, by omega, h3, h4, h2⟩
/-- the first vertex of a split cell goes ahead of the others -/
def splitP (cells : List Int) (v : Nat) : List Int := (cells.map fun c => 2 * c + 1).set v (2 * nth cells v)
theorem splitP_len (cells : List Int) (v : Nat) : (splitP cells v).length = cells.length := by simp [splitP]
theorem splitP_nth {cells : List Int} {v u : Nat} (hu : u < cells.length) : nth (splitP cells v) u = if u = v then 2 * nth cells v else 2 * nth cells u + 1 := by
  rw [nth_get (by rw [splitP_len]; exact hu)]
  unfold splitP
  rw [List.getElem_set]
  split
  · rename_i h
    rw [if_pos h.symm]
  · rename_i h
    rw [if_neg (fun e => h e.symm), List.getElem_map, nth_get hu]
/-! neighbors -/
def nbB (es : List Ed) (a b : Nat) : Bool := es.any fun e => (e.1 == (a : Int) && e.2 == (b : Int)) || (e.1 == (b : Int) && e.2 == (a : Int))
def nearV (n : Nat) (es : List Ed) (a : Nat) : List Int := ((List.range n).filter fun (b : Nat) => nbB es a b).map fun (b : Nat) => (b : Int)
def nearP (n : Nat) (es : List Ed) : List (List Int) := (List.range n).map (nearV n es)
/-- the neighbors of a in the order of the edges -/
def adjE (a : Nat) (e : Ed) : List Int := (if e.1 = a then [e.2] else []) ++ (if e.2 = a then [e.1] else [])
def adjP (es : List Ed) (a : Nat) : List Int := es.flatMap (adjE a)
theorem adjP_snoc (es : List Ed) (e : Ed) (a : Nat) : adjP (es ++ [e]) a = adjP es a ++ adjE a e := by simp [adjP]
structure EdgesOk (n : Nat) (es : List Ed) : Prop where
  edge : ∀ e ∈ es, 0 ≤ e.1 ∧ e.1 < e.2 ∧ e.2 < (n : Int)
  strict : StrictL cmpE es
theorem lessE_trans {a b c : Ed} (h1 : lessE a b) (h2 : lessE b c) : lessE a c := by
  unfold lessE at *
  omega
theorem graph_edges {cs : List Int} {es : List Ed} (h : GraphOk cs es) : EdgesOk cs.length es := by
  refine ⟨fun e he => ?_, ?_⟩
  · obtain ⟨k, hk, rfl⟩ := List.mem_iff_getElem.1 he
    have := h.edge k hk
    rwa [nthE_get hk] at this
  · refine List.pairwise_iff_getElem.2 fun i j hi hj hij => (cmpE_neg _ _).2 ?_
    have hs : ∀ d i, i + 1 + d < es.length → lessE (nthE es i) (nthE es (i + 1 + d)) := by
      intro d
      induction d with
      | zero => intro i hi; exact h.ord i hi
      | succ d ih => intro i hi; exact lessE_trans (ih i (by omega)) (h.ord (i + 1 + d) (by omega))
    have := hs (j - i - 1) i (by omega)
    rw [show i + 1 + (j - i - 1) = j by omega, nthE_get hi, nthE_get hj] at this
    exact this
theorem adjP_mem {n : Nat} {es : List Ed} (h : EdgesOk n es) {a : Nat} (x : Int) : x ∈ adjP es a ↔ ∃ b : Nat, x = b ∧ b < n ∧ nbB es a b = true := by
  unfold adjP nbB
  rw [List.mem_flatMap]
  constructor
  · rintro ⟨e, he, hx⟩
    obtain ⟨h1, h2, h3⟩ := h.edge e he
    unfold adjE at hx
    rcases List.mem_append.1 hx with hx | hx
    · split at hx
      · rename_i h4
        rw [List.mem_singleton.1 hx]
        refine ⟨e.2.toNat, by omega, by omega, List.any_eq_true.2 ⟨e, he, ?_⟩⟩
        simp
        exact .inl ⟨h4, by omega⟩
      · cases hx
    · split at hx
      · rename_i h4
        rw [List.mem_singleton.1 hx]
        refine ⟨e.1.toNat, by omega, by omega, List.any_eq_true.2 ⟨e, he, ?_⟩⟩
        simp
        exact .inr ⟨by omega, h4⟩
      · cases hx
  · rintro ⟨b, rfl, hb, hn⟩
    obtain ⟨e, he, hq⟩ := List.any_eq_true.1 hn
    refine ⟨e, he, ?_⟩
    simp at hq
    unfold adjE
    rcases hq with ⟨h1, h2⟩ | ⟨h1, h2⟩
    · rw [if_pos h1]
      exact List.mem_append_left _ (by rw [h2]; exact List.mem_singleton_self _)
    · rw [if_pos h2]
      exact List.mem_append_right _ (by rw [h1]; exact List.mem_singleton_self _)
theorem adjP_nodup {n : Nat} {es : List Ed} (h : EdgesOk n es) (a : Nat) : (adjP es a).Nodup := by
  unfold adjP
  rw [List.Nodup, List.pairwise_flatMap]
  refine ⟨fun e he => ?_, ?_⟩
  · have := h.edge e he
    unfold adjE
    split <;> split <;> simp
    omega
  · refine List.Pairwise.imp_of_mem ?_ h.strict
    intro e f he hf hef x hx y hy hxy
    have h1 := h.edge e he
    have h2 := h.edge f hf
    have h3 := (cmpE_neg _ _).1 hef
    subst hxy
    unfold adjE at hx hy
    unfold lessE at h3
    rcases List.mem_append.1 hx with hx | hx <;> split at hx <;> rcases List.mem_append.1 hy with hy | hy <;> split at hy <;> simp at hx hy <;> omega
theorem nearV_sorted (n : Nat) (es : List Ed) (a : Nat) : (nearV n es a).Pairwise fun x y => x < y := by
  unfold nearV
  rw [List.pairwise_map]
  exact (List.pairwise_lt_range.filter _).imp fun h => by omega
theorem nearV_mem (n : Nat) (es : List Ed) (a : Nat) (x : Int) : x ∈ nearV n es a ↔ ∃ b : Nat, x = b ∧ b < n ∧ nbB es a b = true := by
  unfold nearV
  rw [List.mem_map]
  constructor
  · rintro ⟨b, hb, rfl⟩
    have := List.mem_filter.1 hb
    exact ⟨b, rfl, by simpa using this.1, this.2⟩
  · rintro ⟨b, rfl, h1, h2⟩
    exact ⟨b, List.mem_filter.2 ⟨by simpa using h1, h2⟩, rfl⟩
theorem nearV_adj {n : Nat} {es : List Ed} (h : EdgesOk n es) (a : Nat) : srt (adjP es a) = nearV n es a := by
  refine (srt_unique ?_ ((nearV_sorted n es a).imp fun h => by omega)).symm
  refine (List.perm_ext_iff_of_nodup ((nearV_sorted n es a).imp fun h => by omega) (adjP_nodup h a)).2 fun x => ?_
  rw [nearV_mem, adjP_mem h]
theorem nearP_len (n : Nat) (es : List Ed) : (nearP n es).length = n := by simp [nearP]
theorem nearP_row {n : Nat} {es : List Ed} {a : Nat} (h : a < n) : row (nearP n es) a = nearV n es a := by
  rw [row_get (by rw [nearP_len]; exact h)]
  simp [nearP]
theorem nearV_bd {n : Nat} {es : List Ed} {a : Nat} {x : Int} (h : x ∈ nearV n es a) : 0 ≤ x ∧ x < n := by
  obtain ⟨b, rfl, h1, _⟩ := (nearV_mem n es a x).1 h
  omega
theorem nearV_len (n : Nat) (es : List Ed) (a : Nat) : (nearV n es a).length ≤ n := by
  unfold nearV
  rw [List.length_map]
  exact Nat.le_trans (List.length_filter_le _ _) (by simp)

/-! other names of the vertices -/
/-- an edge between two vertices -/
def mmE (a b : Int) : Ed := (min a b, max a b)
def imgE (p : List Int) (e : Ed) : Ed := mmE (nth p e.1.toNat) (nth p e.2.toNat)
def relE (es : List Ed) (p : List Int) : List Ed := setG cmpE (es.map (imgE p))
/-- the edges of a table of n vertices -/
def tabE (n : Nat) (f : Nat → Nat → Bool) : List Ed := (List.range n).flatMap fun (a : Nat) => (((List.range n).drop (a + 1)).filter fun (b : Nat) => f a b).map fun (b : Nat) => ((a : Int), (b : Int))
theorem tabE_strict (n : Nat) (f : Nat → Nat → Bool) : StrictL cmpE (tabE n f) := by
  unfold tabE StrictL
  rw [List.pairwise_flatMap]
  refine ⟨fun a _ => ?_, ?_⟩
  · rw [List.pairwise_map]
    refine List.Pairwise.filter _ ?_
    refine (List.pairwise_lt_range.drop).imp fun {x y} h => (cmpE_neg _ _).2 ?_
    exact .inr ⟨rfl, by simp only []; omega⟩
  · refine List.pairwise_lt_range.imp fun {a b} hab x hx y hy => (cmpE_neg _ _).2 ?_
    obtain ⟨u, _, rfl⟩ := List.mem_map.1 hx
    obtain ⟨v, _, rfl⟩ := List.mem_map.1 hy
    exact .inl (by simp only []; omega)
theorem tabE_mem (n : Nat) (f : Nat → Nat → Bool) (e : Ed) : e ∈ tabE n f ↔ ∃ a b : Nat, e = ((a : Int), (b : Int)) ∧ a < b ∧ b < n ∧ f a b = true := by
  unfold tabE
  rw [List.mem_flatMap]
  constructor
  · rintro ⟨a, ha, he⟩
    obtain ⟨b, hb, rfl⟩ := List.mem_map.1 he
    obtain ⟨h1, h2⟩ := List.mem_filter.1 hb
    obtain ⟨i, hi, e⟩ := List.mem_iff_getElem.1 h1
    simp at hi e
    exact ⟨a, b, rfl, by omega, by omega, h2⟩
  · rintro ⟨a, b, rfl, h1, h2, h3⟩
    refine ⟨a, by simp; omega, List.mem_map.2 ⟨b, List.mem_filter.2 ⟨?_, h3⟩, rfl⟩⟩
    refine List.mem_iff_getElem.2 ⟨b - (a + 1), by simp; omega, ?_⟩
    simp
    omega
/-- whether an edge leads to this place of the table -/
def relB (es : List Ed) (p : List Int) (a b : Nat) : Bool := es.any fun e => (nth p e.1.toNat == (a : Int) && nth p e.2.toNat == (b : Int)) || (nth p e.2.toNat == (a : Int) && nth p e.1.toNat == (b : Int))
theorem relE_tab {n : Nat} {es : List Ed} {p : List Int} (h : EdgesOk n es) (hp : Perm p) (hl : p.length = n) : relE es p = tabE n (relB es p) := by
  refine setG_eq cmpE_ord (tabE_strict _ _) fun e => ?_
  rw [tabE_mem, List.mem_map]
  constructor
  · rintro ⟨a, b, rfl, h1, h2, h3⟩
    obtain ⟨e, he, hq⟩ := List.any_eq_true.1 h3
    refine ⟨e, he, ?_⟩
    simp at hq
    unfold imgE mmE
    rcases hq with ⟨h4, h5⟩ | ⟨h4, h5⟩
    · rw [h4, h5]
      exact Prod.ext (by simp only []; omega) (by simp only []; omega)
    · rw [h4, h5]
      exact Prod.ext (by simp only []; omega) (by simp only []; omega)
  · rintro ⟨f, hf, rfl⟩
    obtain ⟨h1, h2, h3⟩ := h.edge f hf
    have b1 := hp.bd f.1.toNat (by omega)
    have b2 := hp.bd f.2.toNat (by omega)
    have hne : nth p f.1.toNat ≠ nth p f.2.toNat := fun e => by
      have := perm_inj hp (by omega) (by omega) e
      omega
    refine ⟨(min (nth p f.1.toNat) (nth p f.2.toNat)).toNat, (max (nth p f.1.toNat) (nth p f.2.toNat)).toNat, ?_, by omega, by omega, List.any_eq_true.2 ⟨f, hf, ?_⟩⟩
    · unfold imgE mmE
      exact Prod.ext (by simp only []; omega) (by simp only []; omega)
    · rcases Int.le_total (nth p f.1.toNat) (nth p f.2.toNat) with hle | hle
      · have e1 : min (nth p f.1.toNat) (nth p f.2.toNat) = nth p f.1.toNat := Int.min_eq_left hle
        have e2 : max (nth p f.1.toNat) (nth p f.2.toNat) = nth p f.2.toNat := Int.max_eq_right hle
        rw [e1, e2]
        simp
        omega
      · have e1 : min (nth p f.1.toNat) (nth p f.2.toNat) = nth p f.2.toNat := Int.min_eq_right hle
        have e2 : max (nth p f.1.toNat) (nth p f.2.toNat) = nth p f.1.toNat := Int.max_eq_left hle
        rw [e1, e2]
        simp
        omega
theorem relE_len (es : List Ed) (p : List Int) : (relE es p).length ≤ es.length := by
  have := setG_len (c := cmpE) (es.map (imgE p))
  simpa [relE] using this

/-! forms compared -/
def flatE (es : List Ed) : List Int := es.flatMap fun e => [e.1, e.2]
def cmpF (c1 : List Int) (e1 : List Ed) (c2 : List Int) (e2 : List Ed) : Int := if cmpL c1 c2 ≠ 0 then cmpL c1 c2 else cmpL (flatE e1) (flatE e2)

/-! the search -/
structure St where
  left : Nat
  spent : Bool
  nodes : Nat
  leaves : Nat
  fc : List Int
  fe : List Ed
  best : List (List Int)
def leafC (cs : List Int) (es : List Ed) (s : St) (p : List Int) : Int := if s.best = [] then -1 else cmpF (relC cs p) (relE es p) s.fc s.fe
def leafP (cs : List Int) (es : List Ed) (s : St) (p : List Int) : St :=
  { s with leaves := s.leaves + 1, fc := if leafC cs es s p < 0 then relC cs p else s.fc, fe := if leafC cs es s p < 0 then relE es p else s.fe,
           best := if leafC cs es s p < 0 then [p] else if leafC cs es s p = 0 then s.best ++ [p] else s.best }
def loopP (near : List (List Int)) (sub : St → List Int → St) (cells : List Int) : List Int → St → St
  | [], s => s
  | v :: r, s => if s.spent then s else if s.left = 0 then { s with spent := true } else loopP near sub cells r (sub { s with left := s.left - 1, nodes := s.nodes + 1 } (refP near (splitP cells v.toNat)))
def searchP (cs : List Int) (es : List Ed) (near : List (List Int)) : Nat → St → List Int → St
  | 0, s, cells => if tgtP cells < 0 then leafP cs es s cells else loopP near (fun s _ => s) cells (vertsP cells (tgtP cells)) s
  | f + 1, s, cells => if tgtP cells < 0 then leafP cs es s cells else loopP near (searchP cs es near f) cells (vertsP cells (tgtP cells)) s
def runP (cs : List Int) (es : List Ed) (budget : Nat) : St := searchP cs es (nearP cs.length es) budget ⟨budget, false, 0, 0, [], [], []⟩ (refP (nearP cs.length es) cs)

/-- what a search keeps -/
structure Kept (n : Nat) (s t : St) : Prop where
  left : t.left ≤ s.left
  cnt : t.leaves + t.left ≤ s.leaves + s.left
  nodes : t.nodes + t.left = s.nodes + s.left
  best : t.best.length + s.leaves ≤ s.best.length + t.leaves
  rows : (∀ r ∈ s.best, Cells n r ∧ Perm r) → ∀ r ∈ t.best, Cells n r ∧ Perm r
  full : s.best ≠ [] → t.best ≠ []
theorem Kept.refl (n : Nat) (s : St) : Kept n s s := ⟨Nat.le_refl _, Nat.le_refl _, rfl, Nat.le_refl _, fun h => h, fun h => h⟩
theorem Kept.trans {n : Nat} {s t u : St} (h : Kept n s t) (k : Kept n t u) : Kept n s u :=
  ⟨Nat.le_trans k.left h.left, Nat.le_trans k.cnt h.cnt, k.nodes.trans h.nodes, by have := h.best; have := k.best; omega, fun q => k.rows (h.rows q), fun q => k.full (h.full q)⟩
/-- .. one leaf more -/
structure Kept1 (n : Nat) (s t : St) : Prop where
  left : t.left ≤ s.left
  cnt : t.leaves + t.left ≤ s.leaves + s.left + 1
  nodes : t.nodes + t.left = s.nodes + s.left
  best : t.best.length + s.leaves ≤ s.best.length + t.leaves
  rows : (∀ r ∈ s.best, Cells n r ∧ Perm r) → ∀ r ∈ t.best, Cells n r ∧ Perm r
  full : s.best ≠ [] → t.best ≠ []
  made : t.spent = true ∨ t.best ≠ []
theorem Kept.one {n : Nat} {s t : St} (h : Kept n s t) (hm : t.spent = true ∨ t.best ≠ []) : Kept1 n s t := ⟨h.left, by have := h.cnt; omega, h.nodes, h.best, h.rows, h.full, hm⟩
theorem leafP_best (cs : List Int) (es : List Ed) (s : St) (p : List Int) : (leafP cs es s p).best ≠ [] := by
  unfold leafP
  simp only []
  split
  · simp
  · split
    · simp
    · rename_i h1 h2
      intro h3
      apply h1
      simp [leafC, h3]
theorem leafP_kept {n : Nat} {cs : List Int} {es : List Ed} {s : St} {p : List Int} (hp : Cells n p) (h : tgtP p < 0) : Kept1 n s (leafP cs es s p) := by
  refine ⟨Nat.le_refl _, by simp [leafP]; omega, rfl, ?_, fun hs r hr => ?_, fun _ => leafP_best cs es s p, .inr (leafP_best cs es s p)⟩
  · simp only [leafP]
    split
    · simp; omega
    · split <;> simp <;> omega
  · simp only [leafP] at hr
    have hq := tgtP_perm hp h
    split at hr
    · rw [List.mem_singleton.1 hr]; exact ⟨hp, hq⟩
    · split at hr
      · rcases List.mem_append.1 hr with hr | hr
        · exact hs r hr
        · rw [List.mem_singleton.1 hr]; exact ⟨hp, hq⟩
      · exact hs r hr
theorem loopP_kept {n : Nat} {near : List (List Int)} {sub : St → List Int → St} {cells : List Int} {f : Nat} (hn : cells.length = n)
    (hsub : ∀ s c, s.left < f → Cells n c → Kept1 n s (sub s c)) : ∀ (vs : List Int) (s : St), s.left ≤ f → Kept n s (loopP near sub cells vs s) ∧ (vs ≠ [] → (loopP near sub cells vs s).spent = true ∨ (loopP near sub cells vs s).best ≠ [])
  | [], s, _ => ⟨Kept.refl n s, fun h => absurd rfl h⟩
  | v :: r, s, hl => by
    rw [loopP]
    by_cases h1 : s.spent = true
    · rw [if_pos h1]
      exact ⟨Kept.refl n s, fun _ => .inl h1⟩
    · rw [if_neg h1]
      by_cases h2 : s.left = 0
      · rw [if_pos h2]
        exact ⟨⟨Nat.le_refl _, Nat.le_refl _, rfl, Nat.le_refl _, fun h => h, fun h => h⟩, fun _ => .inl rfl⟩
      · rw [if_neg h2]
        have hc : Cells n (refP near (splitP cells v.toNat)) := by
          have := refP_cells near (splitP cells v.toNat)
          rwa [splitP_len, hn] at this
        have hk := hsub { s with left := s.left - 1, nodes := s.nodes + 1 } _ (by simp only []; omega) hc
        generalize sub { s with left := s.left - 1, nodes := s.nodes + 1 } (refP near (splitP cells v.toNat)) = t at *
        have k1 := hk.left; have k2 := hk.cnt; have k3 := hk.nodes; have k4 := hk.best
        simp only [] at k1 k2 k3 k4
        obtain ⟨h3, h4⟩ := loopP_kept hn hsub r t (by omega)
        refine ⟨Kept.trans ⟨by omega, by omega, by omega, by omega, hk.rows, hk.full⟩ h3, fun _ => ?_⟩
        rcases hk.made with h5 | h5
        · left
          cases r with
          | nil => exact h5
          | cons v' r' => rw [loopP, if_pos h5]; exact h5
        · exact .inr (h3.full h5)
theorem searchP_kept {n : Nat} (cs : List Int) (es : List Ed) (near : List (List Int)) : ∀ (f : Nat) (s : St) (cells : List Int), s.left ≤ f → Cells n cells → Kept1 n s (searchP cs es near f s cells)
  | 0, s, cells, hl, hc => by
    rw [searchP]
    split
    · rename_i h; exact leafP_kept hc h
    · rename_i h
      obtain ⟨c, e, h1, h2, _⟩ := tgtP_nonneg h
      have hv : vertsP cells (tgtP cells) ≠ [] := fun e' => by
        have := vertsP_count cells (c : Int)
        rw [← e, e'] at this
        simp at this
        rw [e] at this
        omega
      obtain ⟨h3, h4⟩ := loopP_kept (near := near) (f := 0) (sub := fun s _ => s) hc.len (fun s c h _ => absurd h (by omega)) (vertsP cells (tgtP cells)) s hl
      exact h3.one (h4 hv)
  | f + 1, s, cells, hl, hc => by
    rw [searchP]
    split
    · rename_i h; exact leafP_kept hc h
    · rename_i h
      obtain ⟨c, e, h1, h2, _⟩ := tgtP_nonneg h
      have hv : vertsP cells (tgtP cells) ≠ [] := fun e' => by
        have := vertsP_count cells (c : Int)
        rw [← e, e'] at this
        simp at this
        rw [e] at this
        omega
      obtain ⟨h3, h4⟩ := loopP_kept (near := near) (f := f + 1) hc.len (fun s c h hc => searchP_kept cs es near f s c (by omega) hc) (vertsP cells (tgtP cells)) s hl
      exact h3.one (h4 hv)
theorem runP_kept (cs : List Int) (es : List Ed) (b : Nat) : Kept1 cs.length ⟨b, false, 0, 0, [], [], []⟩ (runP cs es b) := searchP_kept cs es _ b _ _ (Nat.le_refl _) (refP_cells _ _)
theorem runP_rows (cs : List Int) (es : List Ed) (b : Nat) : ∀ r ∈ (runP cs es b).best, Cells cs.length r ∧ Perm r := (runP_kept cs es b).rows fun _ h => by cases h
theorem runP_best {cs : List Int} {es : List Ed} {b : Nat} (h : (runP cs es b).spent = false) : (runP cs es b).best ≠ [] := by
  rcases (runP_kept cs es b).made with h1 | h1
  · rw [h] at h1; cases h1
  · exact h1
theorem runP_len (cs : List Int) (es : List Ed) (b : Nat) : (runP cs es b).best.length ≤ b + 1 ∧ (runP cs es b).leaves ≤ b + 1 ∧ (runP cs es b).nodes ≤ b := by
  have h := runP_kept cs es b
  have h1 := h.cnt; have h2 := h.best; have h3 := h.nodes
  simp at h1 h2 h3
  omega
end Go.Proofs.YtncknfhfkmmhbaaGreat
