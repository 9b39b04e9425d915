/- Canonical forms of graphs, plain: orders, refinement, the search, what a search keeps. No program in sight. -/
import Derived.Test.YtdkbcjdimhgmnaaGreatSGE
set_option linter.unusedVariables false
set_option linter.unusedSimpArgs false
namespace Go.Proofs.YtdkbcjdimhgmnaaGreat
/-! the other orders -/
theorem cmpL_ord : TOrd cmpL where
  eq_of := cmpL_zero
  self := cmpL_refl
  swap := cmpL_swap
  trans := cmpL_trans
theorem cmpE_ord : TOrd cmpE where
  eq_of := fun {x y} h => by
    unfold cmpE orI at h
    rcases sgnI_cases x.1 y.1 with ⟨h1, e⟩ | ⟨h1, e⟩ | ⟨h1, e⟩ <;> rcases sgnI_cases x.2 y.2 with ⟨h2, e'⟩ | ⟨h2, e'⟩ | ⟨h2, e'⟩ <;> rw [e, e'] at h <;> simp at h
    exact Prod.ext h1 h2
  self := fun x => by simp [cmpE, orI, sgnI]
  swap := fun x y => by
    unfold cmpE orI
    rw [sgnI_ord.swap x.1 y.1, sgnI_ord.swap x.2 y.2]
    split <;> split <;> omega
  trans := fun {x y z} h1 h2 => by
    unfold cmpE orI at *
    rcases sgnI_cases x.1 y.1 with ⟨a, e⟩ | ⟨a, e⟩ | ⟨a, e⟩ <;> rcases sgnI_cases y.1 z.1 with ⟨a', e'⟩ | ⟨a', e'⟩ | ⟨a', e'⟩ <;> rcases sgnI_cases x.1 z.1 with ⟨a'', e''⟩ | ⟨a'', e''⟩ | ⟨a'', e''⟩ <;> rw [e] at h1 <;> rw [e'] at h2 <;> rw [e''] <;> simp at h1 h2 ⊢ <;> first | omega | exact sgnI_ord.trans h1 h2
/-! refinement -/
def keyP (near : List (List Int)) (cells : List Int) (v : Nat) : List Int := nth cells v :: srt ((row near v).map fun w => nth cells w.toNat)
def keysP (near : List (List Int)) (cells : List Int) : List (List Int) := (List.range cells.length).map (keyP near cells)
def kindsP (near : List (List Int)) (cells : List Int) : List (List Int) := setG cmpL (keysP near cells)
def roundP (near : List (List Int)) (cells : List Int) : List Int := (keysP near cells).map fun k => (idxG cmpL (kindsP near cells) k : Int)
def manyP (cells : List Int) : Nat := (setG sgnI cells).length
section
variable {near : List (List Int)} {cells : List Int}
theorem keysP_len : (keysP near cells).length = cells.length := by simp [keysP]
theorem roundP_len : (roundP near cells).length = cells.length := by simp [roundP, keysP]
theorem keyP_mem {v : Nat} (h : v < cells.length) : keyP near cells v ∈ keysP near cells := List.mem_map.2 ⟨v, List.mem_range.2 h, rfl⟩
theorem kindsP_mem {v : Nat} (h : v < cells.length) : keyP near cells v ∈ kindsP near cells := (setG_mem cmpL_ord _ _).2 (keyP_mem h)
theorem kindsP_strict : StrictL cmpL (kindsP near cells) := setG_strict cmpL_ord _
theorem roundP_nth {v : Nat} (h : v < cells.length) : nth (roundP near cells) v = (idxG cmpL (kindsP near cells) (keyP near cells v) : Int) := by
  rw [nth_get (by rw [roundP_len]; exact h)]
  simp [roundP, keysP]
theorem kindsP_len : (kindsP near cells).length ≤ cells.length := by
  have := setG_len (c := cmpL) (keysP near cells)
  rw [keysP_len] at this
  exact this
theorem roundP_bd {v : Nat} (h : v < cells.length) : 0 ≤ nth (roundP near cells) v ∧ nth (roundP near cells) v < cells.length := by
  rw [roundP_nth h]
  have h1 := (idxG_mem cmpL_ord kindsP_strict (kindsP_mem (near := near) h)).1
  have h2 := kindsP_len (near := near) (cells := cells)
  omega
theorem roundP_fine {u v : Nat} (hu : u < cells.length) (hv : v < cells.length) (he : nth (roundP near cells) u = nth (roundP near cells) v) : nth cells u = nth cells v := by
  rw [roundP_nth hu, roundP_nth hv] at he
  have := idxG_inj cmpL_ord kindsP_strict (kindsP_mem (near := near) hu) (kindsP_mem (near := near) hv) (by omega)
  unfold keyP at this
  injection this
theorem manyP_le (l : List Int) : manyP l ≤ l.length := setG_len _
theorem manyP_mono {l m : List Int} (hlen : m.length = l.length) (hf : ∀ u v, u < l.length → v < l.length → nth m u = nth m v → nth l u = nth l v) : manyP l ≤ manyP m := by
  have hnd := strict_nodup sgnI_ord (setG_strict sgnI_ord l)
  let f : Int → Int := fun z => nth l (m.idxOf z)
  have hsub : setG sgnI l ⊆ (setG sgnI m).map f := fun x hx => by
    obtain ⟨k, hk, rfl⟩ := mem_nth ((setG_mem sgnI_ord l x).1 hx)
    have hm : nth m k ∈ m := nth_mem (by omega)
    refine List.mem_map.2 ⟨nth m k, (setG_mem sgnI_ord m _).2 hm, ?_⟩
    have hi : m.idxOf (nth m k) < m.length := List.idxOf_lt_length_of_mem hm
    refine hf _ _ (by omega) hk ?_
    rw [nth_get hi]
    simp
  have := List.Nodup.length_le_of_subset hnd hsub
  simpa [manyP] using this
theorem roundP_many : manyP cells ≤ manyP (roundP near cells) := manyP_mono roundP_len fun _ _ hu hv he => roundP_fine hu hv he
end
def refF (near : List (List Int)) : Nat → List Int → List Int
  | 0, cells => roundP near cells
  | f + 1, cells => if manyP (roundP near cells) = manyP cells then roundP near cells else refF near f (roundP near cells)
def refP (near : List (List Int)) (cells : List Int) : List Int := refF near cells.length cells
theorem refF_more (near : List (List Int)) : ∀ (f g : Nat) (cells : List Int), cells.length ≤ f + manyP cells → cells.length ≤ g + manyP cells → refF near f cells = refF near g cells
  | 0, 0, _, _, _ => rfl
  | 0, g + 1, cells, h1, _ => by
    have hm := roundP_many (near := near) (cells := cells)
    have hl := manyP_le (roundP near cells)
    rw [roundP_len] at hl
    rw [refF, refF, if_pos (by omega)]
  | f + 1, 0, cells, _, h2 => by
    have hm := roundP_many (near := near) (cells := cells)
    have hl := manyP_le (roundP near cells)
    rw [roundP_len] at hl
    rw [refF, refF, if_pos (by omega)]
  | f + 1, g + 1, cells, h1, h2 => by
    have hm := roundP_many (near := near) (cells := cells)
    rw [refF, refF]
    split
    · rfl
    · exact refF_more near f g _ (by rw [roundP_len]; omega) (by rw [roundP_len]; omega)
theorem refP_eq (near : List (List Int)) (cells : List Int) : refP near cells = if manyP (roundP near cells) = manyP cells then roundP near cells else refP near (roundP near cells) := by
  unfold refP
  have hm := roundP_many (near := near) (cells := cells)
  have hl := manyP_le (roundP near cells)
  rw [roundP_len] at hl
  rw [refF_more near cells.length (cells.length + 1) cells (by omega) (by omega), refF]
  split
  · rfl
  · rw [roundP_len]
theorem refP_done {near : List (List Int)} {cells : List Int} (h : manyP (roundP near cells) = manyP cells) : refP near cells = roundP near cells := by rw [refP_eq, if_pos h]
theorem refP_more {near : List (List Int)} {cells : List Int} (h : manyP (roundP near cells) ≠ manyP cells) : refP near cells = refP near (roundP near cells) := by rw [refP_eq, if_neg h]
structure Cells (n : Nat) (cells : List Int) : Prop where
  len : cells.length = n
  bd : ∀ v, v < n → 0 ≤ nth cells v ∧ nth cells v < n
theorem refF_cells (near : List (List Int)) : ∀ (f : Nat) (cells : List Int), Cells cells.length (refF near f cells)
  | 0, cells => ⟨roundP_len, fun v h => roundP_bd h⟩
  | f + 1, cells => by
    rw [refF]
    split
    · exact ⟨roundP_len, fun v h => roundP_bd h⟩
    · have := refF_cells near f (roundP near cells)
      rwa [roundP_len] at this
theorem refP_cells (near : List (List Int)) (cells : List Int) : Cells cells.length (refP near cells) := refF_cells near _ _
/-! the cell that is split -/
def tgtP (cells : List Int) : Int :=
  match (List.range cells.length).find? fun (c : Nat) => decide (2 ≤ cells.count (c : Int)) with
  | some c => c
  | none => -1
def vF (cells : List Int) (t : Int) (k : Nat) : List Int := (((List.range cells.length).drop k).filter fun (v : Nat) => nth cells v == t).map fun (v : Nat) => (v : Int)
def vertsP (cells : List Int) (t : Int) : List Int := vF cells t 0
def vT (cells : List Int) (t : Int) (k : Nat) : List Int := ((List.range k).filter fun (v : Nat) => nth cells v == t).map fun (v : Nat) => (v : Int)
theorem vT_step (cells : List Int) (t : Int) (k : Nat) : vT cells t (k + 1) = if nth cells k = t then vT cells t k ++ [(k : Int)] else vT cells t k := by
  unfold vT
  rw [List.range_succ, List.filter_append, List.map_append]
  by_cases e : nth cells k = t
  · simp [e]
  · simp [e]
theorem vT_all (cells : List Int) (t : Int) : vT cells t cells.length = vertsP cells t := by simp [vT, vertsP, vF]
theorem vT_len (cells : List Int) (t : Int) (k : Nat) : (vT cells t k).length ≤ k := by
  unfold vT
  rw [List.length_map]
  exact Nat.le_trans (List.length_filter_le _ _) (by simp)
theorem range_nth (cells : List Int) : (List.range cells.length).map (fun v => nth cells v) = cells := by
  apply List.ext_getElem (by simp)
  intro i h1 h2
  simp [nth_get h2]
theorem vertsP_count (cells : List Int) (t : Int) : (vertsP cells t).length = cells.count t := by
  have h : cells.count t = ((List.range cells.length).map fun v => nth cells v).count t := by rw [range_nth]
  rw [h, vertsP, vF, List.length_map, List.drop_zero, List.count_eq_countP, List.countP_map, List.countP_eq_length_filter]
  rfl
theorem vertsP_mem {cells : List Int} {t x : Int} (h : x ∈ vertsP cells t) : ∃ v : Nat, x = v ∧ v < cells.length ∧ nth cells v = t := by
  obtain ⟨v, hv, rfl⟩ := List.mem_map.1 h
  have := List.mem_filter.1 hv
  exact ⟨v, rfl, by simpa using this.1, by simpa using this.2⟩
theorem tgtP_neg {cells : List Int} (h : tgtP cells < 0) : ∀ c : Nat, c < cells.length → cells.count (c : Int) < 2 := by
  unfold tgtP at h
  split at h
  · omega
  · rename_i hn
    intro c hc
    have := List.find?_eq_none.1 hn c (by simpa using hc)
    simpa using this
theorem tgtP_nonneg {cells : List Int} (h : ¬ tgtP cells < 0) : ∃ c : Nat, tgtP cells = c ∧ c < cells.length ∧ 2 ≤ cells.count (c : Int) ∧ ∀ d : Nat, d < c → cells.count (d : Int) < 2 := by
  unfold tgtP at *
  split
  · rename_i c hc
    obtain ⟨h1, la, lb, h2, h3⟩ := List.find?_eq_some_iff_append.1 hc
    have hr : c < cells.length := by
      have : c ∈ List.range cells.length := by rw [h2]; exact List.mem_append_right _ List.mem_cons_self
      simpa using this
    refine ⟨c, rfl, hr, by simpa using h1, fun d hd => ?_⟩
    have hlen : la.length = c := by
      have e : (List.range cells.length)[la.length]? = some c := by rw [h2]; simp
      have := List.getElem?_eq_some_iff.1 e
      obtain ⟨_, e⟩ := this
      simpa using e
    have hd' : d ∈ la := by
      have e : (List.range cells.length)[d]? = some d := List.getElem?_range (by omega)
      rw [h2, List.getElem?_append_left (by omega)] at e
      exact List.mem_of_getElem? e
    have := h3 d hd'
    simpa using this
  · rename_i hn
    rw [hn] at h
    simp at h
theorem tgtP_val {cells : List Int} {c : Nat} (hc : c < cells.length) (h2 : 2 ≤ cells.count (c : Int)) (hl : ∀ d : Nat, d < c → cells.count (d : Int) < 2) : tgtP cells = c := by
  by_cases hn : tgtP cells < 0
  · have := tgtP_neg hn c hc
    omega
  · obtain ⟨c', e, h1, h3, h4⟩ := tgtP_nonneg hn
    rw [e]
    rcases Nat.lt_trichotomy c c' with h | h | h
    · have := h4 c h; omega
    · rw [h]
    · have := hl c' h; omega
theorem tgtP_none {cells : List Int} (h : ∀ c : Nat, c < cells.length → cells.count (c : Int) < 2) : tgtP cells = -1 := by
  unfold tgtP
  split
  · rename_i c hc
    obtain ⟨h1, la, lb, h2, h3⟩ := List.find?_eq_some_iff_append.1 hc
    have hr : c < cells.length := by
      have : c ∈ List.range cells.length := by rw [h2]; simp
      simpa using this
    have := h c hr
    simp at h1
    omega
  · rfl
theorem tgtP_perm {n : Nat} {cells : List Int} (hc : Cells n cells) (h : tgtP cells < 0) : Perm cells := by
  have hn := tgtP_neg h
  have hnd : cells.Nodup := by
    rw [List.nodup_iff_count]
    intro a
    by_cases ha : a ∈ cells
    · obtain ⟨k, hk, e⟩ := mem_nth ha
      have hb := hc.bd k (by rw [← hc.len]; exact hk)
      rw [← hc.len] at hb
      have := hn a.toNat (by omega)
      rw [show ((a.toNat : Nat) : Int) = a by omega] at this
      omega
    · rw [List.count_eq_zero_of_not_mem ha]; omega
  exact ⟨fun k hk => by have := hc.bd k (by rw [← hc.len]; exact hk); rw [← hc.len] at this; exact this, ne_nodup hnd⟩
def splitP (cells : List Int) (v : Nat) : List Int := (cells.map fun c => 2 * c + 1).set v (2 * nth cells v)
theorem splitP_len (cells : List Int) (v : Nat) : (splitP cells v).length = cells.length := by simp [splitP]
theorem splitP_nth {cells : List Int} {v u : Nat} (hu : u < cells.length) : nth (splitP cells v) u = if u = v then 2 * nth cells v else 2 * nth cells u + 1 := by
  rw [nth_get (by rw [splitP_len]; exact hu)]
  unfold splitP
  rw [List.getElem_set]
  split
  · rename_i h
    rw [if_pos h.symm]
  · rename_i h
    rw [if_neg (fun e => h e.symm), List.getElem_map, nth_get hu]
/-! neighbors -/
def nbB (es : List Ed) (a b : Nat) : Bool := es.any fun e => (e.1 == (a : Int) && e.2 == (b : Int)) || (e.1 == (b : Int) && e.2 == (a : Int))
def nearV (n : Nat) (es : List Ed) (a : Nat) : List Int := ((List.range n).filter fun (b : Nat) => nbB es a b).map fun (b : Nat) => (b : Int)
def nearP (n : Nat) (es : List Ed) : List (List Int) := (List.range n).map (nearV n es)
def adjE (a : Nat) (e : Ed) : List Int := (if e.1 = a then [e.2] else []) ++ (if e.2 = a then [e.1] else [])
def adjP (es : List Ed) (a : Nat) : List Int := es.flatMap (adjE a)
theorem adjP_snoc (es : List Ed) (e : Ed) (a : Nat) : adjP (es ++ [e]) a = adjP es a ++ adjE a e := by simp [adjP]
structure EdgesOk (n : Nat) (es : List Ed) : Prop where
  edge : ∀ e ∈ es, 0 ≤ e.1 ∧ e.1 < e.2 ∧ e.2 < (n : Int)
  strict : StrictL cmpE es
theorem lessE_trans {a b c : Ed} (h1 : lessE a b) (h2 : lessE b c) : lessE a c := by
  unfold lessE at *
  omega
theorem graph_edges {cs : List Int} {es : List Ed} (h : GraphOk cs es) : EdgesOk cs.length es := by
  refine ⟨fun e he => ?_, ?_⟩
  · obtain ⟨k, hk, rfl⟩ := List.mem_iff_getElem.1 he
    have := h.edge k hk
    rwa [nthE_get hk] at this
  · refine List.pairwise_iff_getElem.2 fun i j hi hj hij => (cmpE_neg _ _).2 ?_
    have hs : ∀ d i, i + 1 + d < es.length → lessE (nthE es i) (nthE es (i + 1 + d)) := by
      intro d
      induction d with
      | zero => intro i hi; exact h.ord i hi
      | succ d ih => intro i hi; exact lessE_trans (ih i (by omega)) (h.ord (i + 1 + d) (by omega))
    have := hs (j - i - 1) i (by omega)
    rw [show i + 1 + (j - i - 1) = j by omega, nthE_get hi, nthE_get hj] at this
    exact this
theorem adjP_mem {n : Nat} {es : List Ed} (h : EdgesOk n es) {a : Nat} (x : Int) : x ∈ adjP es a ↔ ∃ b : Nat, x = b ∧ b < n ∧ nbB es a b = true := by
  unfold adjP nbB
  rw [List.mem_flatMap]
  constructor
  · rintro ⟨e, he, hx⟩
    obtain ⟨h1, h2, h3⟩ := h.edge e he
    unfold adjE at hx
    rcases List.mem_append.1 hx with hx | hx
    · split at hx
      · rename_i h4
        rw [List.mem_singleton.1 hx]
        refine ⟨e.2.toNat, by omega, by omega, List.any_eq_true.2 ⟨e, he, ?_⟩⟩
        simp
        exact .inl ⟨h4, by omega⟩
      · cases hx
    · split at hx
      · rename_i h4
        rw [List.mem_singleton.1 hx]
        refine ⟨e.1.toNat, by omega, by omega, List.any_eq_true.2 ⟨e, he, ?_⟩⟩
        simp
        exact .inr ⟨by omega, h4⟩
      · cases hx
  · rintro ⟨b, rfl, hb, hn⟩
    obtain ⟨e, he, hq⟩ := List.any_eq_true.1 hn
    refine ⟨e, he, ?_⟩
    simp at hq
    unfold adjE
    rcases hq with ⟨h1, h2⟩ | ⟨h1, h2⟩
    · rw [if_pos h1]
      exact List.mem_append_left _ (by rw [h2]; exact List.mem_singleton_self _)
    · rw [if_pos h2]
      exact List.mem_append_right _ (by rw [h1]; exact List.mem_singleton_self _)
theorem adjP_nodup {n : Nat} {es : List Ed} (h : EdgesOk n es) (a : Nat) : (adjP es a).Nodup := by
  unfold adjP
  rw [List.Nodup, List.pairwise_flatMap]
  refine ⟨fun e he => ?_, ?_⟩
  · have := h.edge e he
    unfold adjE
    split <;> split <;> simp
    omega
  · refine List.Pairwise.imp_of_mem ?_ h.strict
    intro e f he hf hef x hx y hy hxy
    have h1 := h.edge e he
    have h2 := h.edge f hf
    have h3 := (cmpE_neg _ _).1 hef
    subst hxy
    unfold adjE at hx hy
    unfold lessE at h3
    rcases List.mem_append.1 hx with hx | hx <;> split at hx <;> rcases List.mem_append.1 hy with hy | hy <;> split at hy <;> simp at hx hy <;> omega
theorem nearV_sorted (n : Nat) (es : List Ed) (a : Nat) : (nearV n es a).Pairwise fun x y => x < y := by
  unfold nearV
  rw [List.pairwise_map]
  exact (List.pairwise_lt_range.filter _).imp fun h => by omega
theorem nearV_mem (n : Nat) (es : List Ed) (a : Nat) (x : Int) : x ∈ nearV n es a ↔ ∃ b : Nat, x = b ∧ b < n ∧ nbB es a b = true := by
  unfold nearV
  rw [List.mem_map]
  constructor
  · rintro ⟨b, hb, rfl⟩
    have := List.mem_filter.1 hb
    exact ⟨b, rfl, by simpa using this.1, this.2⟩
  · rintro ⟨b, rfl, h1, h2⟩
    exact ⟨b, List.mem_filter.2 ⟨by simpa using h1, h2⟩, rfl⟩
theorem nearV_adj {n : Nat} {es : List Ed} (h : EdgesOk n es) (a : Nat) : srt (adjP es a) = nearV n es a := by
  refine (srt_unique ?_ ((nearV_sorted n es a).imp fun h => by omega)).symm
  refine (List.perm_ext_iff_of_nodup ((nearV_sorted n es a).imp fun h => by omega) (adjP_nodup h a)).2 fun x => ?_
  rw [nearV_mem, adjP_mem h]
theorem nearP_len (n : Nat) (es : List Ed) : (nearP n es).length = n := by simp [nearP]
theorem nearP_row {n : Nat} {es : List Ed} {a : Nat} (h : a < n) : row (nearP n es) a = nearV n es a := by
  rw [row_get (by rw [nearP_len]; exact h)]
  simp [nearP]
theorem nearV_bd {n : Nat} {es : List Ed} {a : Nat} {x : Int} (h : x ∈ nearV n es a) : 0 ≤ x ∧ x < n := by
  obtain ⟨b, rfl, h1, _⟩ := (nearV_mem n es a x).1 h
  omega
theorem nearV_len (n : Nat) (es : List Ed) (a : Nat) : (nearV n es a).length ≤ n := by
  unfold nearV
  rw [List.length_map]
  exact Nat.le_trans (List.length_filter_le _ _) (by simp)
/-! other names of the vertices -/
def relTo (cs p : List Int) (k : Nat) : List Int := (List.range k).foldl (fun acc v => acc.set (nth p v).toNat (nth cs v)) (List.replicate cs.length 0)
def relC (cs p : List Int) : List Int := relTo cs p cs.length
theorem relTo_zero (cs p : List Int) : relTo cs p 0 = List.replicate cs.length 0 := rfl
theorem relTo_step (cs p : List Int) (k : Nat) : relTo cs p (k + 1) = (relTo cs p k).set (nth p k).toNat (nth cs k) := by simp [relTo, List.range_succ, List.foldl_append]
theorem relTo_len (cs p : List Int) (k : Nat) : (relTo cs p k).length = cs.length := by
  induction k with
  | zero => simp [relTo]
  | succ k ih => rw [relTo_step, List.length_set, ih]
def mmE (a b : Int) : Ed := (min a b, max a b)
def imgE (p : List Int) (e : Ed) : Ed := mmE (nth p e.1.toNat) (nth p e.2.toNat)
def relE (es : List Ed) (p : List Int) : List Ed := setG cmpE (es.map (imgE p))
def tabE (n : Nat) (f : Nat → Nat → Bool) : List Ed := (List.range n).flatMap fun (a : Nat) => (((List.range n).drop (a + 1)).filter fun (b : Nat) => f a b).map fun (b : Nat) => ((a : Int), (b : Int))
theorem tabE_strict (n : Nat) (f : Nat → Nat → Bool) : StrictL cmpE (tabE n f) := by
  unfold tabE StrictL
  rw [List.pairwise_flatMap]
  refine ⟨fun a _ => ?_, ?_⟩
  · rw [List.pairwise_map]
    refine List.Pairwise.filter _ ?_
    refine (List.pairwise_lt_range.drop).imp fun {x y} h => (cmpE_neg _ _).2 ?_
    exact .inr ⟨rfl, by simp only []; omega⟩
  · refine List.pairwise_lt_range.imp fun {a b} hab x hx y hy => (cmpE_neg _ _).2 ?_
    obtain ⟨u, _, rfl⟩ := List.mem_map.1 hx
    obtain ⟨v, _, rfl⟩ := List.mem_map.1 hy
    exact .inl (by simp only []; omega)
theorem tabE_mem (n : Nat) (f : Nat → Nat → Bool) (e : Ed) : e ∈ tabE n f ↔ ∃ a b : Nat, e = ((a : Int), (b : Int)) ∧ a < b ∧ b < n ∧ f a b = true := by
  unfold tabE
  rw [List.mem_flatMap]
  constructor
  · rintro ⟨a, ha, he⟩
    obtain ⟨b, hb, rfl⟩ := List.mem_map.1 he
    obtain ⟨h1, h2⟩ := List.mem_filter.1 hb
    obtain ⟨i, hi, e⟩ := List.mem_iff_getElem.1 h1
    simp at hi e
    exact ⟨a, b, rfl, by omega, by omega, h2⟩
  · rintro ⟨a, b, rfl, h1, h2, h3⟩
    refine ⟨a, by simp; omega, List.mem_map.2 ⟨b, List.mem_filter.2 ⟨?_, h3⟩, rfl⟩⟩
    refine List.mem_iff_getElem.2 ⟨b - (a + 1), by simp; omega, ?_⟩
    simp
    omega
def relB (es : List Ed) (p : List Int) (a b : Nat) : Bool := es.any fun e => (nth p e.1.toNat == (a : Int) && nth p e.2.toNat == (b : Int)) || (nth p e.2.toNat == (a : Int) && nth p e.1.toNat == (b : Int))
theorem perm_inj {p : List Int} (h : Perm p) {i j : Nat} (hi : i < p.length) (hj : j < p.length) (he : nth p i = nth p j) : i = j := by
  rcases Nat.lt_trichotomy i j with h1 | h1 | h1
  · exact absurd he (h.ne i j h1 hj)
  · exact h1
  · exact absurd he.symm (h.ne j i h1 hi)
theorem relE_tab {n : Nat} {es : List Ed} {p : List Int} (h : EdgesOk n es) (hp : Perm p) (hl : p.length = n) : relE es p = tabE n (relB es p) := by
  refine setG_eq cmpE_ord (tabE_strict _ _) fun e => ?_
  rw [tabE_mem, List.mem_map]
  constructor
  · rintro ⟨a, b, rfl, h1, h2, h3⟩
    obtain ⟨e, he, hq⟩ := List.any_eq_true.1 h3
    refine ⟨e, he, ?_⟩
    simp at hq
    unfold imgE mmE
    rcases hq with ⟨h4, h5⟩ | ⟨h4, h5⟩
    · rw [h4, h5]
      exact Prod.ext (by simp only []; omega) (by simp only []; omega)
    · rw [h4, h5]
      exact Prod.ext (by simp only []; omega) (by simp only []; omega)
  · rintro ⟨f, hf, rfl⟩
    obtain ⟨h1, h2, h3⟩ := h.edge f hf
    have b1 := hp.bd f.1.toNat (by omega)
    have b2 := hp.bd f.2.toNat (by omega)
    have hne : nth p f.1.toNat ≠ nth p f.2.toNat := fun e => by
      have := perm_inj hp (by omega) (by omega) e
      omega
    refine ⟨(min (nth p f.1.toNat) (nth p f.2.toNat)).toNat, (max (nth p f.1.toNat) (nth p f.2.toNat)).toNat, ?_, by omega, by omega, List.any_eq_true.2 ⟨f, hf, ?_⟩⟩
    · unfold imgE mmE
      exact Prod.ext (by simp only []; omega) (by simp only []; omega)
    · rcases Int.le_total (nth p f.1.toNat) (nth p f.2.toNat) with hle | hle
      · have e1 : min (nth p f.1.toNat) (nth p f.2.toNat) = nth p f.1.toNat := Int.min_eq_left hle
        have e2 : max (nth p f.1.toNat) (nth p f.2.toNat) = nth p f.2.toNat := Int.max_eq_right hle
        rw [e1, e2]
        simp
        omega
      · have e1 : min (nth p f.1.toNat) (nth p f.2.toNat) = nth p f.2.toNat := Int.min_eq_right hle
        have e2 : max (nth p f.1.toNat) (nth p f.2.toNat) = nth p f.1.toNat := Int.max_eq_left hle
        rw [e1, e2]
        simp
        omega
theorem relE_len (es : List Ed) (p : List Int) : (relE es p).length ≤ es.length := by
  have := setG_len (c := cmpE) (es.map (imgE p))
  simpa [relE] using this
/-! forms compared -/
def flatE (es : List Ed) : List Int := es.flatMap fun e => [e.1, e.2]
def cmpF (c1 : List Int) (e1 : List Ed) (c2 : List Int) (e2 : List Ed) : Int := if cmpL c1 c2 ≠ 0 then cmpL c1 c2 else cmpL (flatE e1) (flatE e2)
/-! the search -/
structure St where
  left : Nat
  spent : Bool
  nodes : Nat
  leaves : Nat
  fc : List Int
  fe : List Ed
  best : List (List Int)
def leafC (cs : List Int) (es : List Ed) (s : St) (p : List Int) : Int := if s.best = [] then -1 else cmpF (relC cs p) (relE es p) s.fc s.fe
def leafP (cs : List Int) (es : List Ed) (s : St) (p : List Int) : St :=
  { s with leaves := s.leaves + 1, fc := if leafC cs es s p < 0 then relC cs p else s.fc, fe := if leafC cs es s p < 0 then relE es p else s.fe,
           best := if leafC cs es s p < 0 then [p] else if leafC cs es s p = 0 then s.best ++ [p] else s.best }
def loopP (near : List (List Int)) (sub : St → List Int → St) (cells : List Int) : List Int → St → St
  | [], s => s
  | v :: r, s => if s.spent then s else if s.left = 0 then { s with spent := true } else loopP near sub cells r (sub { s with left := s.left - 1, nodes := s.nodes + 1 } (refP near (splitP cells v.toNat)))
def searchP (cs : List Int) (es : List Ed) (near : List (List Int)) : Nat → St → List Int → St
  | 0, s, cells => if tgtP cells < 0 then leafP cs es s cells else loopP near (fun s _ => s) cells (vertsP cells (tgtP cells)) s
  | f + 1, s, cells => if tgtP cells < 0 then leafP cs es s cells else loopP near (searchP cs es near f) cells (vertsP cells (tgtP cells)) s
def runP (cs : List Int) (es : List Ed) (budget : Nat) : St := searchP cs es (nearP cs.length es) budget ⟨budget, false, 0, 0, [], [], []⟩ (refP (nearP cs.length es) cs)
structure Kept (n : Nat) (s t : St) : Prop where
  left : t.left ≤ s.left
  cnt : t.leaves + t.left ≤ s.leaves + s.left
  nodes : t.nodes + t.left = s.nodes + s.left
  best : t.best.length + s.leaves ≤ s.best.length + t.leaves
  rows : (∀ r ∈ s.best, Cells n r ∧ Perm r) → ∀ r ∈ t.best, Cells n r ∧ Perm r
  full : s.best ≠ [] → t.best ≠ []
theorem Kept.refl (n : Nat) (s : St) : Kept n s s := ⟨Nat.le_refl _, Nat.le_refl _, rfl, Nat.le_refl _, fun h => h, fun h => h⟩
theorem Kept.trans {n : Nat} {s t u : St} (h : Kept n s t) (k : Kept n t u) : Kept n s u :=
  ⟨Nat.le_trans k.left h.left, Nat.le_trans k.cnt h.cnt, k.nodes.trans h.nodes, by have := h.best; have := k.best; omega, fun q => k.rows (h.rows q), fun q => k.full (h.full q)⟩
structure Kept1 (n : Nat) (s t : St) : Prop where
  left : t.left ≤ s.left
  cnt : t.leaves + t.left ≤ s.leaves + s.left + 1
  nodes : t.nodes + t.left = s.nodes + s.left
  best : t.best.length + s.leaves ≤ s.best.length + t.leaves
  rows : (∀ r ∈ s.best, Cells n r ∧ Perm r) → ∀ r ∈ t.best, Cells n r ∧ Perm r
  full : s.best ≠ [] → t.best ≠ []
  made : t.spent = true ∨ t.best ≠ []
theorem Kept.one {n : Nat} {s t : St} (h : Kept n s t) (hm : t.spent = true ∨ t.best ≠ []) : Kept1 n s t := ⟨h.left, by have := h.cnt; omega, h.nodes, h.best, h.rows, h.full, hm⟩
theorem leafP_best (cs : List Int) (es : List Ed) (s : St) (p : List Int) : (leafP cs es s p).best ≠ [] := by
  unfold leafP
  simp only []
  split
  · simp
  · split
    · simp
    · rename_i h1 h2
      intro h3
      apply h1
      simp [leafC, h3]
theorem leafP_kept {n : Nat} {cs : List Int} {es : List Ed} {s : St} {p : List Int} (hp : Cells n p) (h : tgtP p < 0) : Kept1 n s (leafP cs es s p) := by
  refine ⟨Nat.le_refl _, by simp [leafP]; omega, rfl, ?_, fun hs r hr => ?_, fun _ => leafP_best cs es s p, .inr (leafP_best cs es s p)⟩
  · simp only [leafP]
    split
    · simp; omega
    · split <;> simp <;> omega
  · simp only [leafP] at hr
    have hq := tgtP_perm hp h
    split at hr
    · rw [List.mem_singleton.1 hr]; exact ⟨hp, hq⟩
    · split at hr
      · rcases List.mem_append.1 hr with hr | hr
        · exact hs r hr
        · rw [List.mem_singleton.1 hr]; exact ⟨hp, hq⟩
      · exact hs r hr
theorem loopP_kept {n : Nat} {near : List (List Int)} {sub : St → List Int → St} {cells : List Int} {f : Nat} (hn : cells.length = n)
    (hsub : ∀ s c, s.left < f → Cells n c → Kept1 n s (sub s c)) : ∀ (vs : List Int) (s : St), s.left ≤ f → Kept n s (loopP near sub cells vs s) ∧ (vs ≠ [] → (loopP near sub cells vs s).spent = true ∨ (loopP near sub cells vs s).best ≠ [])
  | [], s, _ => ⟨Kept.refl n s, fun h => absurd rfl h⟩
  | v :: r, s, hl => by
    rw [loopP]
    by_cases h1 : s.spent = true
    · rw [if_pos h1]
      exact ⟨Kept.refl n s, fun _ => .inl h1⟩
    · rw [if_neg h1]
      by_cases h2 : s.left = 0
      · rw [if_pos h2]
        exact ⟨⟨Nat.le_refl _, Nat.le_refl _, rfl, Nat.le_refl _, fun h => h, fun h => h⟩, fun _ => .inl rfl⟩
      · rw [if_neg h2]
        have hc : Cells n (refP near (splitP cells v.toNat)) := by
          have := refP_cells near (splitP cells v.toNat)
          rwa [splitP_len, hn] at this
        have hk := hsub { s with left := s.left - 1, nodes := s.nodes + 1 } _ (by simp only []; omega) hc
        generalize sub { s with left := s.left - 1, nodes := s.nodes + 1 } (refP near (splitP cells v.toNat)) = t at *
        have k1 := hk.left; have k2 := hk.cnt; have k3 := hk.nodes; have k4 := hk.best
        simp only [] at k1 k2 k3 k4
        obtain ⟨h3, h4⟩ := loopP_kept hn hsub r t (by omega)
        refine ⟨Kept.trans ⟨by omega, by omega, by omega, by omega, hk.rows, hk.full⟩ h3, fun _ => ?_⟩
        rcases hk.made with h5 | h5
        · left
          cases r with
          | nil => exact h5
          | cons v' r' => rw [loopP, if_pos h5]; exact h5
        · exact .inr (h3.full h5)
theorem searchP_kept {n : Nat} (cs : List Int) (es : List Ed) (near : List (List Int)) : ∀ (f : Nat) (s : St) (cells : List Int), s.left ≤ f → Cells n cells → Kept1 n s (searchP cs es near f s cells)
  | 0, s, cells, hl, hc => by
    rw [searchP]
    split
    · rename_i h; exact leafP_kept hc h
    · rename_i h
      obtain ⟨c, e, h1, h2, _⟩ := tgtP_nonneg h
      have hv : vertsP cells (tgtP cells) ≠ [] := fun e' => by
        have := vertsP_count cells (c : Int)
        rw [← e, e'] at this
        simp at this
        rw [e] at this
        omega
      obtain ⟨h3, h4⟩ := loopP_kept (near := near) (f := 0) (sub := fun s _ => s) hc.len (fun s c h _ => absurd h (by omega)) (vertsP cells (tgtP cells)) s hl
      exact h3.one (h4 hv)
  | f + 1, s, cells, hl, hc => by
    rw [searchP]
    split
    · rename_i h; exact leafP_kept hc h
    · rename_i h
      obtain ⟨c, e, h1, h2, _⟩ := tgtP_nonneg h
      have hv : vertsP cells (tgtP cells) ≠ [] := fun e' => by
        have := vertsP_count cells (c : Int)
        rw [← e, e'] at this
        simp at this
        rw [e] at this
        omega
      obtain ⟨h3, h4⟩ := loopP_kept (near := near) (f := f + 1) hc.len (fun s c h hc => searchP_kept cs es near f s c (by omega) hc) (vertsP cells (tgtP cells)) s hl
      exact h3.one (h4 hv)
theorem runP_kept (cs : List Int) (es : List Ed) (b : Nat) : Kept1 cs.length ⟨b, false, 0, 0, [], [], []⟩ (runP cs es b) := searchP_kept cs es _ b _ _ (Nat.le_refl _) (refP_cells _ _)
theorem runP_best {cs : List Int} {es : List Ed} {b : Nat} (h : (runP cs es b).spent = false) : (runP cs es b).best ≠ [] := by
  rcases (runP_kept cs es b).made with h1 | h1
  · rw [h] at h1; cases h1
  · exact h1
end Go.Proofs.YtdkbcjdimhgmnaaGreat
namespace Go.Proofs.YtdkbcjdimhgmnaaGreat
/-! permutations as lists -/
def iotaP (n : Nat) : List Int := (List.range n).map fun (k : Nat) => (k : Int)
theorem iotaP_len (n : Nat) : (iotaP n).length = n := by simp [iotaP]
theorem iotaP_nth {n k : Nat} (h : k < n) : nth (iotaP n) k = k := by rw [nth_get (by rw [iotaP_len]; exact h)]; simp [iotaP]
theorem nth_ext {l m : List Int} (hl : l.length = m.length) (h : ∀ k, k < l.length → nth l k = nth m k) : l = m := by
  apply List.ext_getElem hl
  intro k h1 h2
  have := h k h1
  rwa [nth_get h1, nth_get h2] at this
theorem nth_set {l : List Int} {i j : Nat} {x : Int} (hj : j < l.length) : nth (l.set i x) j = if i = j then x else nth l j := by
  rw [nth_get (by simpa using hj), List.getElem_set]
  split
  · rfl
  · rw [nth_get hj]
theorem perm_iota {p : List Int} (h : Perm p) : p.Perm (iotaP p.length) := by
  have h1 := perm_inOrder h
  have h2 : srt p = iotaP p.length := nth_ext (by rw [srt_len, iotaP_len]) fun k hk => by
    rw [srt_len] at hk
    rw [h1 k hk, iotaP_nth hk]
  rw [← h2]
  exact (srt_perm p).symm
theorem perm_surj {p : List Int} (h : Perm p) {i : Nat} (hi : i < p.length) : ∃ v, v < p.length ∧ nth p v = i := by
  have : (i : Int) ∈ p := (perm_iota h).mem_iff.2 (by unfold iotaP; exact List.mem_map.2 ⟨i, by simpa using hi, rfl⟩)
  exact mem_nth this
theorem perm_lt {p : List Int} (h : Perm p) {v : Nat} (hv : v < p.length) : (nth p v).toNat < p.length ∧ ((nth p v).toNat : Int) = nth p v := by
  have := h.bd v hv
  omega
theorem relTo_nth {cs p : List Int} (hp : Perm p) (hl : p.length = cs.length) : ∀ (k : Nat), k ≤ cs.length → ∀ v, v < k → nth (relTo cs p k) (nth p v).toNat = nth cs v
  | 0, _, v, h => absurd h (by omega)
  | k + 1, hk, v, hv => by
    have b := perm_lt hp (v := v) (by omega)
    have b' := perm_lt hp (v := k) (by omega)
    rw [relTo_step, nth_set (by rw [relTo_len]; omega)]
    by_cases e : k = v
    · subst e
      rw [if_pos rfl]
    · rw [if_neg (fun h => e (perm_inj hp (by omega) (by omega) (by omega)))]
      exact relTo_nth hp hl k (by omega) v (by omega)
theorem relC_nth {cs p : List Int} (hp : Perm p) (hl : p.length = cs.length) {v : Nat} (hv : v < cs.length) : nth (relC cs p) (nth p v).toNat = nth cs v := relTo_nth hp hl _ (Nat.le_refl _) v hv
theorem relC_len (cs p : List Int) : (relC cs p).length = cs.length := relTo_len cs p _
def thenP (p q : List Int) : List Int := p.map fun x => nth q x.toNat
theorem thenP_len (p q : List Int) : (thenP p q).length = p.length := by simp [thenP]
theorem thenP_nth {p q : List Int} {v : Nat} (hv : v < p.length) : nth (thenP p q) v = nth q (nth p v).toNat := by
  rw [nth_get (by rw [thenP_len]; exact hv), nth_get hv]
  simp [thenP]
def invP (p : List Int) : List Int := relC (iotaP p.length) p
theorem invP_len (p : List Int) : (invP p).length = p.length := by rw [invP, relC_len, iotaP_len]
theorem invP_nth {p : List Int} (hp : Perm p) {v : Nat} (hv : v < p.length) : nth (invP p) (nth p v).toNat = v := by
  rw [invP, relC_nth hp (by rw [iotaP_len]) (by rw [iotaP_len]; exact hv), iotaP_nth hv]
theorem perm_of {n : Nat} {p : List Int} (hl : p.length = n) (hb : ∀ v, v < n → 0 ≤ nth p v ∧ nth p v < n) (hi : ∀ u v, u < n → v < n → nth p u = nth p v → u = v) : Perm p :=
  ⟨fun k hk => by rw [hl] at hk ⊢; exact hb k hk, fun i j hij hj e => by have := hi i j (by omega) (by omega) e; omega⟩
theorem thenP_perm {p q : List Int} (hp : Perm p) (hq : Perm q) (hl : p.length = q.length) : Perm (thenP p q) := by
  refine perm_of (thenP_len p q) (fun v hv => ?_) (fun u v hu hv e => ?_)
  · rw [thenP_nth hv]
    have := perm_lt hp hv
    have := hq.bd (nth p v).toNat (by omega)
    omega
  · rw [thenP_nth hu, thenP_nth hv] at e
    have a := perm_lt hp hu
    have b := perm_lt hp hv
    have := perm_inj hq (by omega) (by omega) e
    exact perm_inj hp hu hv (by omega)
theorem invP_right {p : List Int} (hp : Perm p) {i : Nat} (hi : i < p.length) : nth p (nth (invP p) i).toNat = i := by
  obtain ⟨v, hv, e⟩ := perm_surj hp hi
  have := invP_nth hp hv
  rw [e] at this
  simp at this
  rw [this]
  simpa using e
theorem invP_perm {p : List Int} (hp : Perm p) : Perm (invP p) := by
  refine perm_of (invP_len p) (fun v hv => ?_) (fun u v hu hv e => ?_)
  · obtain ⟨u, hu, e⟩ := perm_surj hp hv
    have := invP_nth hp hu
    rw [e] at this
    simp at this
    rw [this]
    omega
  · have a := invP_right hp hu
    have b := invP_right hp hv
    rw [e, b] at a
    omega
theorem nbB_symm (es : List Ed) (a b : Nat) : nbB es a b = nbB es b a := by
  unfold nbB
  congr 1
  funext e
  rw [Bool.or_comm]
theorem relB_symm (es : List Ed) (p : List Int) (a b : Nat) : relB es p a b = relB es p b a := by
  unfold relB
  congr 1
  funext e
  rw [Bool.or_comm]
  simp only [Bool.and_comm]
theorem relB_nb {n : Nat} {es : List Ed} {p : List Int} (h : EdgesOk n es) (hp : Perm p) (hl : p.length = n) {x y : Nat} (hx : x < n) (hy : y < n) : relB es p (nth p x).toNat (nth p y).toNat = nbB es x y := by
  have bx := perm_lt hp (v := x) (by omega)
  have bY := perm_lt hp (v := y) (by omega)
  unfold relB nbB
  rw [Bool.eq_iff_iff, List.any_eq_true, List.any_eq_true]
  refine exists_congr fun e => and_congr_right fun he => ?_
  obtain ⟨h1, h2, h3⟩ := h.edge e he
  have i1 : ∀ {u : Nat}, u < n → (nth p e.1.toNat = nth p u ↔ e.1 = (u : Int)) := fun {u} hu => ⟨fun q => by have := perm_inj hp (by omega) (by omega) q; omega, fun q => by rw [q]; simp⟩
  have i2 : ∀ {u : Nat}, u < n → (nth p e.2.toNat = nth p u ↔ e.2 = (u : Int)) := fun {u} hu => ⟨fun q => by have := perm_inj hp (by omega) (by omega) q; omega, fun q => by rw [q]; simp⟩
  simp only [Bool.or_eq_true, Bool.and_eq_true, beq_iff_eq, bx.2, bY.2, i1 hx, i1 hy, i2 hx, i2 hy]
  constructor
  · rintro (⟨a, b⟩ | ⟨a, b⟩)
    · exact .inl ⟨a, b⟩
    · exact .inr ⟨b, a⟩
  · rintro (⟨a, b⟩ | ⟨a, b⟩)
    · exact .inl ⟨a, b⟩
    · exact .inr ⟨b, a⟩
theorem relE_mem {n : Nat} {es : List Ed} {p : List Int} (h : EdgesOk n es) (hp : Perm p) (hl : p.length = n) {a b : Nat} (hab : a < b) (hb : b < n) : ((a : Int), (b : Int)) ∈ relE es p ↔ relB es p a b = true := by
  rw [relE_tab h hp hl, tabE_mem]
  constructor
  · rintro ⟨a', b', e, _, _, h3⟩
    have e1 : a = a' := by have := congrArg Prod.fst e; simp at this; omega
    have e2 : b = b' := by have := congrArg Prod.snd e; simp at this; omega
    rw [e1, e2]; exact h3
  · intro h3
    exact ⟨a, b, rfl, hab, hb, h3⟩
theorem tabE_congr {n : Nat} {f g : Nat → Nat → Bool} (h : ∀ a b, a < b → b < n → f a b = g a b) : tabE n f = tabE n g := by
  refine strict_unique cmpE_ord (tabE_strict _ _) (tabE_strict _ _) fun e => ?_
  rw [tabE_mem, tabE_mem]
  refine exists_congr fun a => exists_congr fun b => and_congr_right fun _ => ?_
  constructor
  · rintro ⟨h1, h2, h3⟩; exact ⟨h1, h2, by rw [← h a b h1 h2]; exact h3⟩
  · rintro ⟨h1, h2, h3⟩; exact ⟨h1, h2, by rw [h a b h1 h2]; exact h3⟩
theorem nbB_irrefl {n : Nat} {es : List Ed} (h : EdgesOk n es) (a : Nat) : nbB es a a = false := by
  cases hb : nbB es a a with
  | false => rfl
  | true =>
    obtain ⟨e, he, hq⟩ := List.any_eq_true.1 hb
    have h4 := h.edge e he
    simp at hq
    omega
theorem relE_same {n : Nat} {es fs : List Ed} {p q : List Int} (h : EdgesOk n es) (k : EdgesOk n fs) (hp : Perm p) (hl : p.length = n) (hq : Perm q) (hm : q.length = n) :
    relE es p = relE fs q ↔ ∀ x y x' y', x < n → y < n → x' < n → y' < n → nth p x = nth q x' → nth p y = nth q y' → nbB es x y = nbB fs x' y' := by
  constructor
  · intro he x y x' y' hx hy hx' hy' ex ey
    have bx := perm_lt hp (v := x) (by omega)
    have bY := perm_lt hp (v := y) (by omega)
    rw [← relB_nb h hp hl hx hy, ← relB_nb k hq hm hx' hy', ← ex, ← ey]
    rcases Nat.lt_trichotomy (nth p x).toNat (nth p y).toNat with h1 | h1 | h1
    · rw [Bool.eq_iff_iff, ← relE_mem h hp hl h1 (by omega), ← relE_mem k hq hm h1 (by omega), he]
    · have e : x = y := perm_inj hp (by omega) (by omega) (by omega)
      subst e
      have e' : x' = y' := perm_inj hq (by omega) (by omega) (by rw [← ex, ← ey])
      subst e'
      rw [relB_nb h hp hl hx hx, ex, relB_nb k hq hm hx' hx', nbB_irrefl h, nbB_irrefl k]
    · rw [relB_symm es, relB_symm fs, Bool.eq_iff_iff, ← relE_mem h hp hl h1 (by omega), ← relE_mem k hq hm h1 (by omega), he]
  · intro hh
    rw [relE_tab h hp hl, relE_tab k hq hm]
    refine tabE_congr fun a b hab hb => ?_
    obtain ⟨x, hx, ex⟩ := perm_surj hp (i := a) (by omega)
    obtain ⟨y, hy, ey⟩ := perm_surj hp (i := b) (by omega)
    obtain ⟨x', hx', ex'⟩ := perm_surj hq (i := a) (by omega)
    obtain ⟨y', hy', ey'⟩ := perm_surj hq (i := b) (by omega)
    have := hh x y x' y' (by omega) (by omega) (by omega) (by omega) (by rw [ex, ex']) (by rw [ey, ey'])
    rw [← relB_nb h hp hl (by omega) (by omega), ← relB_nb k hq hm (by omega) (by omega), ex, ey, ex', ey'] at this
    simpa using this
theorem relC_same {n : Nat} {cs ds p q : List Int} (hc : cs.length = n) (hd : ds.length = n) (hp : Perm p) (hl : p.length = n) (hq : Perm q) (hm : q.length = n) :
    relC cs p = relC ds q ↔ ∀ x x', x < n → x' < n → nth p x = nth q x' → nth cs x = nth ds x' := by
  constructor
  · intro he x x' hx hx' e
    rw [← relC_nth hp (by omega) (v := x) (by omega), ← relC_nth hq (by omega) (v := x') (by omega), he, e]
  · intro hh
    refine nth_ext (by rw [relC_len, relC_len]; omega) fun k hk => ?_
    rw [relC_len] at hk
    obtain ⟨x, hx, ex⟩ := perm_surj hp (i := k) (by omega)
    obtain ⟨x', hx', ex'⟩ := perm_surj hq (i := k) (by omega)
    have := hh x x' (by omega) (by omega) (by rw [ex, ex'])
    rw [← relC_nth hp (by omega) (v := x) (by omega), ← relC_nth hq (by omega) (v := x') (by omega), ex, ex'] at this
    simpa using this
end Go.Proofs.YtdkbcjdimhgmnaaGreat
namespace Go.Proofs.YtdkbcjdimhgmnaaGreat
/-! the search and relabelings -/
structure Iso (n : Nat) (es fs : List Ed) (s : List Int) : Prop where
  perm : Perm s
  len : s.length = n
  nb : ∀ x y, x < n → y < n → nbB fs (nth s x).toNat (nth s y).toNat = nbB es x y
section
variable {n : Nat} {es fs : List Ed} {s : List Int}
theorem Iso.near (h : Iso n es fs s) {v : Nat} (hv : v < n) : (nearV n fs (nth s v).toNat).Perm ((nearV n es v).map fun x => nth s x.toNat) := by
  have hnd1 : (nearV n fs (nth s v).toNat).Nodup := (nearV_sorted n fs _).imp fun h => by omega
  have hnd2 : ((nearV n es v).map fun x => nth s x.toNat).Nodup := by
    rw [List.Nodup, List.pairwise_map]
    refine List.Pairwise.imp_of_mem ?_ (nearV_sorted n es v)
    intro a b ha hb hab e
    have h1 := nearV_bd ha
    have h2 := nearV_bd hb
    have := perm_inj h.perm (by rw [h.len]; omega) (by rw [h.len]; omega) e
    omega
  refine (List.perm_ext_iff_of_nodup hnd1 hnd2).2 fun x => ?_
  rw [nearV_mem, List.mem_map]
  constructor
  · rintro ⟨b, rfl, hb, hnb⟩
    obtain ⟨u, hu, e⟩ := perm_surj h.perm (i := b) (by rw [h.len]; exact hb)
    rw [h.len] at hu
    refine ⟨u, (nearV_mem n es v _).2 ⟨u, rfl, hu, ?_⟩, by simpa using e⟩
    rw [← h.nb v u hv hu, e]
    simpa using hnb
  · rintro ⟨y, hy, rfl⟩
    obtain ⟨u, rfl, hu, hnb⟩ := (nearV_mem n es v y).1 hy
    have b := perm_lt h.perm (v := u) (by rw [h.len]; exact hu)
    refine ⟨(nth s u).toNat, by simpa using b.2.symm, by rw [← h.len]; exact b.1, ?_⟩
    rw [h.nb v u hv hu]
    exact hnb
theorem Iso.key (h : Iso n es fs s) {c : List Int} (_ : c.length = n) {v : Nat} (hv : v < n) : keyP (nearP n es) (thenP s c) v = keyP (nearP n fs) c (nth s v).toNat := by
  have b := perm_lt h.perm (v := v) (by rw [h.len]; exact hv)
  rw [h.len] at b
  unfold keyP
  rw [thenP_nth (by rw [h.len]; exact hv), nearP_row hv, nearP_row b.1]
  congr 1
  refine srt_perm_eq ?_
  have h1 := (h.near hv).map fun w => nth c w.toNat
  rw [List.map_map] at h1
  refine List.Perm.trans (List.Perm.of_eq ?_) h1.symm
  refine List.map_congr_left fun x hx => ?_
  have hb := nearV_bd hx
  simp only [Function.comp]
  rw [thenP_nth (by rw [h.len]; omega)]
theorem Iso.keys (h : Iso n es fs s) {c : List Int} (hc : c.length = n) (x : List Int) : x ∈ keysP (nearP n es) (thenP s c) ↔ x ∈ keysP (nearP n fs) c := by
  unfold keysP
  rw [List.mem_map, List.mem_map]
  constructor
  · rintro ⟨v, hv, rfl⟩
    have hv : v < n := by simpa [thenP_len, h.len] using hv
    have b := perm_lt h.perm (v := v) (by rw [h.len]; exact hv)
    rw [h.len] at b
    exact ⟨(nth s v).toNat, by simp [hc]; exact b.1, (h.key hc hv).symm⟩
  · rintro ⟨v, hv, rfl⟩
    have hv : v < n := by simpa [hc] using hv
    obtain ⟨u, hu, e⟩ := perm_surj h.perm (i := v) (by rw [h.len]; exact hv)
    rw [h.len] at hu
    refine ⟨u, by simp [thenP_len, h.len]; exact hu, ?_⟩
    rw [h.key hc hu, e]
    simp
theorem Iso.kinds (h : Iso n es fs s) {c : List Int} (hc : c.length = n) : kindsP (nearP n es) (thenP s c) = kindsP (nearP n fs) c :=
  setG_eq cmpL_ord kindsP_strict fun x => ((setG_mem cmpL_ord _ x).trans (h.keys hc x).symm)
theorem Iso.round (h : Iso n es fs s) {c : List Int} (hc : c.length = n) : roundP (nearP n es) (thenP s c) = thenP s (roundP (nearP n fs) c) := by
  refine nth_ext (by rw [roundP_len, thenP_len, thenP_len]) fun v hv => ?_
  rw [roundP_len, thenP_len] at hv
  have b := perm_lt h.perm (v := v) hv
  rw [h.len] at b hv
  rw [roundP_nth (by rw [thenP_len, h.len]; exact hv), thenP_nth (by rw [h.len]; exact hv), roundP_nth (by rw [hc]; exact b.1), h.kinds hc, h.key hc hv]
theorem thenP_perm_list (hs : Perm s) (hl : s.length = n) {c : List Int} (hc : c.length = n) : (thenP s c).Perm c := by
  have h1 := (perm_iota hs).map fun x => nth c x.toNat
  refine List.Perm.trans h1 (List.Perm.of_eq ?_)
  refine nth_ext (by simp [iotaP_len, hl, hc]) fun k hk => ?_
  have hk : k < n := by simpa [iotaP_len, hl] using hk
  have := thenP_nth (p := iotaP s.length) (q := c) (v := k) (by rw [iotaP_len, hl]; exact hk)
  rw [iotaP_nth (by rw [hl]; exact hk)] at this
  simpa [thenP] using this
theorem manyP_perm {l m : List Int} (h : l.Perm m) : manyP l = manyP m := by
  unfold manyP
  rw [setG_eq sgnI_ord (setG_strict sgnI_ord m) fun x => (setG_mem sgnI_ord m x).trans (h.mem_iff).symm]
theorem Iso.many (h : Iso n es fs s) {c : List Int} (hc : c.length = n) : manyP (thenP s c) = manyP c := manyP_perm (thenP_perm_list h.perm h.len hc)
theorem Iso.refF (h : Iso n es fs s) : ∀ (f : Nat) {c : List Int}, c.length = n → Go.Proofs.YtdkbcjdimhgmnaaGreat.refF (nearP n es) f (thenP s c) = thenP s (Go.Proofs.YtdkbcjdimhgmnaaGreat.refF (nearP n fs) f c)
  | 0, c, hc => h.round hc
  | f + 1, c, hc => by
    rw [Go.Proofs.YtdkbcjdimhgmnaaGreat.refF, Go.Proofs.YtdkbcjdimhgmnaaGreat.refF, h.round hc, h.many (by rw [roundP_len]; exact hc), h.many hc]
    split
    · rfl
    · exact h.refF f (by rw [roundP_len]; exact hc)
theorem Iso.ref (h : Iso n es fs s) {c : List Int} (hc : c.length = n) : refP (nearP n es) (thenP s c) = thenP s (refP (nearP n fs) c) := by
  unfold refP
  rw [thenP_len, h.len, hc]
  exact h.refF n hc
theorem Iso.tgt (h : Iso n es fs s) {c : List Int} (hc : c.length = n) : tgtP (thenP s c) = tgtP c := by
  have hp := thenP_perm_list h.perm h.len hc
  by_cases hn : tgtP c < 0
  · have h1 := tgtP_neg hn
    rw [tgtP_none (cells := thenP s c) fun d hd => by rw [hp.count_eq]; exact h1 d (by rw [thenP_len, h.len] at hd; omega)]
    have h2 := tgtP_none (cells := c) h1
    rw [h2]
  · obtain ⟨d, e, h1, h2, h3⟩ := tgtP_nonneg hn
    rw [e]
    exact tgtP_val (by rw [thenP_len, h.len]; omega) (by rw [hp.count_eq]; exact h2) fun x hx => by rw [hp.count_eq]; exact h3 x hx
theorem Iso.split (h : Iso n es fs s) {c : List Int} (hc : c.length = n) {v : Nat} (hv : v < n) : splitP (thenP s c) v = thenP s (splitP c (nth s v).toNat) := by
  refine nth_ext (by rw [splitP_len, thenP_len, thenP_len]) fun u hu => ?_
  rw [splitP_len, thenP_len, h.len] at hu
  have b := perm_lt h.perm (v := u) (by rw [h.len]; exact hu)
  have b' := perm_lt h.perm (v := v) (by rw [h.len]; exact hv)
  rw [h.len] at b b'
  rw [splitP_nth (by rw [thenP_len, h.len]; exact hu), thenP_nth (by rw [h.len]; exact hv), thenP_nth (by rw [h.len]; exact hu), thenP_nth (by rw [h.len]; exact hu), splitP_nth (by rw [hc]; exact b.1)]
  by_cases e : u = v
  · rw [if_pos e, if_pos (by rw [e])]
  · rw [if_neg e, if_neg fun e' => e (perm_inj h.perm (by rw [h.len]; exact hu) (by rw [h.len]; exact hv) (by omega))]
end
inductive Leaf (near : List (List Int)) : List Int → List Int → Prop
  | here {c : List Int} (h : tgtP c < 0) : Leaf near c c
  | down {c p : List Int} (v : Nat) (h : ¬ tgtP c < 0) (hv : v < c.length) (ht : nth c v = tgtP c) (hp : Leaf near (refP near (splitP c v)) p) : Leaf near c p
theorem Leaf.cells {near : List (List Int)} {n : Nat} {c p : List Int} (h : Leaf near c p) : Cells n c → Cells n p ∧ Perm p := by
  induction h with
  | here h => exact fun hc => ⟨hc, tgtP_perm hc h⟩
  | @down c p v h hv ht hp ih =>
    intro hc
    refine ih ?_
    have := refP_cells near (splitP c v)
    rwa [splitP_len, hc.len] at this
theorem Leaf.iso {n : Nat} {es fs : List Ed} {s : List Int} (hi : Iso n es fs s) {c p : List Int} (h : Leaf (nearP n fs) c p) : c.length = n → Leaf (nearP n es) (thenP s c) (thenP s p) := by
  induction h with
  | here h => exact fun hc => .here (by rw [hi.tgt hc]; exact h)
  | @down c p v h hv ht hp ih =>
    intro hc
    rw [hc] at hv
    obtain ⟨u, hu, e⟩ := perm_surj hi.perm (i := v) (by rw [hi.len]; exact hv)
    rw [hi.len] at hu
    refine .down u (by rw [hi.tgt hc]; exact h) (by rw [thenP_len, hi.len]; exact hu) (by rw [thenP_nth (by rw [hi.len]; exact hu), e, hi.tgt hc]; simpa using ht) ?_
    rw [hi.split hc hu, hi.ref (by rw [splitP_len]; exact hc), e]
    have := ih (by
      have := (refP_cells (nearP n fs) (splitP c v)).len
      rw [this, splitP_len]; exact hc)
    simpa using this
/-! which leaves a search keeps -/
theorem cmpF_zero {c1 c2 : List Int} {e1 e2 : List Ed} (h : cmpF c1 e1 c2 e2 = 0) : c1 = c2 ∧ flatE e1 = flatE e2 := by
  unfold cmpF at h
  split at h
  · rename_i h1; exact absurd h h1
  · rename_i h1
    exact ⟨cmpL_zero (by simpa using h1), cmpL_zero h⟩
theorem flatE_inj {e1 e2 : List Ed} (h : flatE e1 = flatE e2) : e1 = e2 := by
  induction e1 generalizing e2 with
  | nil =>
    cases e2 with
    | nil => rfl
    | cons b r => simp [flatE] at h
  | cons a r ih =>
    cases e2 with
    | nil => simp [flatE] at h
    | cons b r' =>
      simp [flatE] at h
      rw [ih (e2 := r') (by simpa [flatE] using h.2.2)]
      congr 1
      exact Prod.ext h.1 h.2.1
theorem cmpF_self (c : List Int) (e : List Ed) : cmpF c e c e = 0 := by simp [cmpF, cmpL_refl]
theorem cmpF_swap (c1 c2 : List Int) (e1 e2 : List Ed) : cmpF c2 e2 c1 e1 = - cmpF c1 e1 c2 e2 := by
  unfold cmpF
  rw [cmpL_swap c1 c2, cmpL_swap (flatE e1) (flatE e2)]
  split <;> split <;> omega
theorem cmpF_trans {c1 c2 c3 : List Int} {e1 e2 e3 : List Ed} (h1 : cmpF c1 e1 c2 e2 ≤ 0) (h2 : cmpF c2 e2 c3 e3 ≤ 0) : cmpF c1 e1 c3 e3 ≤ 0 := by
  unfold cmpF at *
  by_cases a : cmpL c1 c2 = 0
  · have := cmpL_zero a
    subst this
    rw [if_neg (by simpa using cmpL_refl c1)] at h1
    by_cases b : cmpL c1 c3 = 0
    · have := cmpL_zero b
      subst this
      rw [if_neg (by simpa using cmpL_refl c1)] at h2 ⊢
      exact cmpL_trans h1 h2
    · rw [if_pos b] at h2 ⊢
      exact h2
  · rw [if_pos a] at h1
    by_cases b : cmpL c2 c3 = 0
    · have := cmpL_zero b
      subst this
      rw [if_pos a]
      exact h1
    · rw [if_pos b] at h2
      have h3 := cmpL_ord.lt_trans (x := c1) (y := c2) (z := c3) (by omega) (by omega)
      rw [if_pos (by omega)]
      omega
section
variable (cs : List Int) (es : List Ed)
def formLe (p : List Int) (s : St) : Prop := 0 ≤ cmpF (relC cs p) (relE es p) s.fc s.fe
structure Seen (P : List Int → Prop) (s : St) : Prop where
  forms : ∀ p ∈ s.best, relC cs p = s.fc ∧ relE es p = s.fe
  all : ∀ p, P p → s.best ≠ [] ∧ formLe cs es p s ∧ (relC cs p = s.fc ∧ relE es p = s.fe → p ∈ s.best)
theorem Seen.leaf {P : List Int → Prop} {s : St} (h : Seen cs es P s) (p : List Int) : Seen cs es (fun q => P q ∨ q = p) (leafP cs es s p) := by
  by_cases hb : s.best = []
  · have hc : leafC cs es s p = -1 := by simp [leafC, hb]
    have e : leafP cs es s p = { s with leaves := s.leaves + 1, fc := relC cs p, fe := relE es p, best := [p] } := by simp [leafP, hc]
    rw [e]
    refine ⟨fun q hq => by rw [List.mem_singleton.1 hq]; exact ⟨rfl, rfl⟩, fun q hq => ⟨by simp, ?_, fun _ => ?_⟩⟩
    · rcases hq with hq | rfl
      · exact absurd hb (h.all q hq).1
      · show 0 ≤ cmpF _ _ _ _
        rw [cmpF_self]; omega
    · rcases hq with hq | rfl
      · exact absurd hb (h.all q hq).1
      · simp
  · have hc : leafC cs es s p = cmpF (relC cs p) (relE es p) s.fc s.fe := by simp [leafC, hb]
    rcases Int.lt_trichotomy (leafC cs es s p) 0 with h1 | h1 | h1
    · have e : leafP cs es s p = { s with leaves := s.leaves + 1, fc := relC cs p, fe := relE es p, best := [p] } := by simp [leafP, h1]
      rw [e]
      refine ⟨fun q hq => by rw [List.mem_singleton.1 hq]; exact ⟨rfl, rfl⟩, fun q hq => ⟨by simp, ?_, fun hf => ?_⟩⟩
      · show 0 ≤ cmpF _ _ _ _
        rcases hq with hq | rfl
        · have h2 := (h.all q hq).2.1
          unfold formLe at h2
          have h3 := cmpF_swap (relC cs q) s.fc (relE es q) s.fe
          have h4 := cmpF_trans (c1 := relC cs p) (e1 := relE es p) (c2 := s.fc) (e2 := s.fe) (c3 := relC cs q) (e3 := relE es q) (by omega) (by omega)
          have h5 := cmpF_swap (relC cs q) (relC cs p) (relE es q) (relE es p)
          show 0 ≤ cmpF (relC cs q) (relE es q) (relC cs p) (relE es p)
          omega
        · rw [cmpF_self]; omega
      · rcases hq with hq | rfl
        · exfalso
          have h2 := (h.all q hq).2.1
          unfold formLe at h2
          simp only [] at hf
          rw [hf.1, hf.2, ← hc] at h2
          omega
        · simp
    · have e : leafP cs es s p = { s with leaves := s.leaves + 1, best := s.best ++ [p] } := by simp [leafP, h1]
      rw [e]
      rw [h1] at hc
      obtain ⟨f1, f2⟩ := cmpF_zero hc.symm
      have f2 := flatE_inj f2
      refine ⟨fun q hq => ?_, fun q hq => ⟨by simp, ?_, fun hf => ?_⟩⟩
      · rcases List.mem_append.1 hq with hq | hq
        · exact h.forms q hq
        · rw [List.mem_singleton.1 hq]; exact ⟨f1, f2⟩
      · rcases hq with hq | rfl
        · exact (h.all q hq).2.1
        · show 0 ≤ cmpF (relC cs q) (relE es q) s.fc s.fe
          omega
      · rcases hq with hq | rfl
        · exact List.mem_append_left _ ((h.all q hq).2.2 hf)
        · simp
    · have e : leafP cs es s p = { s with leaves := s.leaves + 1 } := by
        have a1 : ¬ leafC cs es s p < 0 := by omega
        have a2 : ¬ leafC cs es s p = 0 := by omega
        simp only [leafP, if_neg a1, if_neg a2]
      rw [e]
      refine ⟨h.forms, fun q hq => ⟨hb, ?_, fun hf => ?_⟩⟩
      · rcases hq with hq | rfl
        · exact (h.all q hq).2.1
        · show 0 ≤ cmpF (relC cs q) (relE es q) s.fc s.fe
          omega
      · rcases hq with hq | rfl
        · exact (h.all q hq).2.2 hf
        · exfalso
          simp only [] at hf
          rw [hf.1, hf.2, cmpF_self] at hc
          omega
theorem Seen.weak {P Q : List Int → Prop} {s : St} (h : Seen cs es P s) (hQ : ∀ p, Q p → P p) : Seen cs es Q s := ⟨h.forms, fun p hp => h.all p (hQ p hp)⟩
theorem Seen.next {P : List Int → Prop} {s t : St} (h : Seen cs es P s) (h1 : t.best = s.best) (h2 : t.fc = s.fc) (h3 : t.fe = s.fe) : Seen cs es P t := by
  obtain ⟨a, b⟩ := h
  refine ⟨fun p hp => ?_, fun p hp => ?_⟩
  · rw [h2, h3]; exact a p (by rw [← h1]; exact hp)
  · unfold formLe
    rw [h1, h2, h3]
    exact b p hp
theorem loopP_seen {n : Nat} {near : List (List Int)} {sub : St → List Int → St} {cells : List Int} {f : Nat} (hn : cells.length = n)
    (hk : ∀ s c, s.left < f → Cells n c → Kept1 n s (sub s c))
    (hsub : ∀ s c P, s.left < f → Cells n c → Seen cs es P s → (sub s c).spent = false → s.spent = false → Seen cs es (fun q => P q ∨ Leaf near c q) (sub s c)) :
    ∀ (vs : List Int) (s : St) (P : List Int → Prop), s.left ≤ f → Seen cs es P s → (loopP near sub cells vs s).spent = false → Seen cs es (fun q => P q ∨ ∃ v ∈ vs, Leaf near (refP near (splitP cells v.toNat)) q) (loopP near sub cells vs s)
  | [], s, P, _, h, _ => h.weak cs es fun p hp => hp.elim id fun ⟨v, hv, _⟩ => by cases hv
  | x :: r, s, P, hl, h, hs => by
    rw [loopP] at hs ⊢
    by_cases h1 : s.spent = true
    · rw [if_pos h1] at hs
      rw [h1] at hs; cases hs
    · rw [if_neg h1] at hs ⊢
      by_cases h2 : s.left = 0
      · rw [if_pos h2] at hs
        cases hs
      · rw [if_neg h2] at hs ⊢
        have hc : Cells n (refP near (splitP cells x.toNat)) := by
          have := refP_cells near (splitP cells x.toNat)
          rwa [splitP_len, hn] at this
        have k1 := (hk { s with left := s.left - 1, nodes := s.nodes + 1 } _ (by simp only []; omega) hc).left
        have k2 := hsub { s with left := s.left - 1, nodes := s.nodes + 1 } _ P (by simp only []; omega) hc (h.next cs es rfl rfl rfl)
        generalize sub { s with left := s.left - 1, nodes := s.nodes + 1 } (refP near (splitP cells x.toNat)) = t at *
        simp only [] at k1
        have ht : t.spent = false := by
          cases hq : t.spent with
          | false => rfl
          | true =>
            exfalso
            cases r with
            | nil => rw [loopP] at hs; rw [hq] at hs; cases hs
            | cons y r' => rw [loopP, if_pos hq] at hs; rw [hq] at hs; cases hs
        have k3 := k2 ht (by simpa using h1)
        have k4 := loopP_seen hn hk hsub r t _ (by omega) k3 hs
        refine k4.weak cs es fun p hp => ?_
        rcases hp with hp | ⟨v, hv, hp⟩
        · exact .inl (.inl hp)
        · rcases List.mem_cons.1 hv with rfl | hv
          · exact .inl (.inr hp)
          · exact .inr ⟨v, hv, hp⟩
theorem vertsP_at {cells : List Int} {t : Int} {v : Nat} (hv : v < cells.length) (ht : nth cells v = t) : (v : Int) ∈ vertsP cells t := by
  unfold vertsP vF
  exact List.mem_map.2 ⟨v, List.mem_filter.2 ⟨by simpa using hv, by simpa using ht⟩, rfl⟩
theorem searchP_seen {n : Nat} (near : List (List Int)) : ∀ (f : Nat) (s : St) (cells : List Int) (P : List Int → Prop), s.left ≤ f → Cells n cells → Seen cs es P s → (searchP cs es near f s cells).spent = false →
    Seen cs es (fun q => P q ∨ Leaf near cells q) (searchP cs es near f s cells)
  | 0, s, cells, P, hl, hc, h, hs => by
    rw [searchP] at hs ⊢
    by_cases ht : tgtP cells < 0
    · rw [if_pos ht] at hs ⊢
      refine (h.leaf cs es cells).weak cs es fun p hp => hp.imp_right fun hp => ?_
      cases hp with
      | here _ => rfl
      | down _ h' => exact absurd ht h'
    · rw [if_neg ht] at hs ⊢
      have := loopP_seen cs es (near := near) (f := 0) (sub := fun s _ => s) hc.len (fun s c h _ => absurd h (by omega)) (fun s c P h => absurd h (by omega)) (vertsP cells (tgtP cells)) s P hl h hs
      refine this.weak cs es fun p hp => hp.imp_right fun hp => ?_
      cases hp with
      | here h' => exact absurd h' ht
      | down v _ hv hvt hp => exact ⟨v, vertsP_at hv hvt, by simpa using hp⟩
  | f + 1, s, cells, P, hl, hc, h, hs => by
    rw [searchP] at hs ⊢
    by_cases ht : tgtP cells < 0
    · rw [if_pos ht] at hs ⊢
      refine (h.leaf cs es cells).weak cs es fun p hp => hp.imp_right fun hp => ?_
      cases hp with
      | here _ => rfl
      | down _ h' => exact absurd ht h'
    · rw [if_neg ht] at hs ⊢
      have := loopP_seen cs es (near := near) (f := f + 1) (sub := searchP cs es near f) hc.len (fun s c h hc => searchP_kept cs es near f s c (by omega) hc) (fun s c P h hc hp hs _ => searchP_seen near f s c P (by omega) hc hp hs) (vertsP cells (tgtP cells)) s P hl h hs
      refine this.weak cs es fun p hp => hp.imp_right fun hp => ?_
      cases hp with
      | here h' => exact absurd h' ht
      | down v _ hv hvt hp => exact ⟨v, vertsP_at hv hvt, by simpa using hp⟩
theorem runP_seen {b : Nat} (h : (runP cs es b).spent = false) : Seen cs es (Leaf (nearP cs.length es) (refP (nearP cs.length es) cs)) (runP cs es b) := by
  have h0 : Seen cs es (fun _ => False) ⟨b, false, 0, 0, [], [], []⟩ := by
    refine ⟨fun p h => ?_, fun p h => ?_⟩
    · cases h
    · exact h.elim
  exact (searchP_seen cs es (nearP cs.length es) b _ _ _ (Nat.le_refl _) (refP_cells _ _) h0 h).weak cs es fun p hp => .inr hp
theorem loopP_from {n : Nat} {near : List (List Int)} {sub : St → List Int → St} {cells : List Int} {f : Nat} (hn : cells.length = n) (Q : List Int → Prop)
    (hk : ∀ s c, s.left < f → Cells n c → Kept1 n s (sub s c)) :
    ∀ (vs : List Int) (s : St), s.left ≤ f → (∀ v ∈ vs, ∀ s, s.left < f → (∀ p ∈ s.best, Q p) → ∀ p ∈ (sub s (refP near (splitP cells v.toNat))).best, Q p) → (∀ p ∈ s.best, Q p) → ∀ p ∈ (loopP near sub cells vs s).best, Q p
  | [], s, _, _, h => h
  | x :: r, s, hl, hsub, h => by
    rw [loopP]
    by_cases h1 : s.spent = true
    · rw [if_pos h1]; exact h
    · rw [if_neg h1]
      by_cases h2 : s.left = 0
      · rw [if_pos h2]; exact h
      · rw [if_neg h2]
        have hc : Cells n (refP near (splitP cells x.toNat)) := by
          have := refP_cells near (splitP cells x.toNat)
          rwa [splitP_len, hn] at this
        have k1 := (hk { s with left := s.left - 1, nodes := s.nodes + 1 } _ (by simp only []; omega) hc).left
        have k2 := hsub x List.mem_cons_self { s with left := s.left - 1, nodes := s.nodes + 1 } (by simp only []; omega) h
        simp only [] at k1
        exact loopP_from hn Q hk r _ (by omega) (fun v hv => hsub v (List.mem_cons_of_mem _ hv)) k2
theorem leafP_from (Q : List Int → Prop) {s : St} {p : List Int} (h : ∀ q ∈ s.best, Q q) (hp : Q p) : ∀ q ∈ (leafP cs es s p).best, Q q := by
  intro q hq
  unfold leafP at hq
  simp only [] at hq
  split at hq
  · rw [List.mem_singleton.1 hq]; exact hp
  · split at hq
    · rcases List.mem_append.1 hq with hq | hq
      · exact h q hq
      · rw [List.mem_singleton.1 hq]; exact hp
    · exact h q hq
theorem searchP_from {n : Nat} (near : List (List Int)) (Q : List Int → Prop) : ∀ (f : Nat) (s : St) (cells : List Int), s.left ≤ f → Cells n cells → (∀ p ∈ s.best, Q p) → (∀ p, Leaf near cells p → Q p) → ∀ p ∈ (searchP cs es near f s cells).best, Q p
  | 0, s, cells, hl, hc, h, hq => by
    rw [searchP]
    split
    · rename_i ht; exact leafP_from cs es Q h (hq _ (.here ht))
    · exact loopP_from (near := near) (f := 0) (sub := fun s _ => s) hc.len Q (fun s c h _ => absurd h (by omega)) _ s hl (fun v _ s h => absurd h (by omega)) h
  | f + 1, s, cells, hl, hc, h, hq => by
    rw [searchP]
    split
    · rename_i ht; exact leafP_from cs es Q h (hq _ (.here ht))
    · rename_i ht
      refine loopP_from (near := near) (f := f + 1) (sub := searchP cs es near f) hc.len Q (fun s c h hc => searchP_kept cs es near f s c (by omega) hc) _ s hl (fun v hv s hs hp => ?_) h
      obtain ⟨u, rfl, hu, hut⟩ := vertsP_mem hv
      refine searchP_from (n := n) near Q f s _ (by omega) ?_ hp fun p hp => hq p (.down u ht hu hut (by simpa using hp))
      have := refP_cells near (splitP cells ((u : Int).toNat))
      rwa [splitP_len, hc.len] at this
theorem runP_leaf (b : Nat) : ∀ p ∈ (runP cs es b).best, Leaf (nearP cs.length es) (refP (nearP cs.length es) cs) p :=
  searchP_from cs es (nearP cs.length es) _ b _ _ (Nat.le_refl _) (refP_cells _ _) (fun _ h => by cases h) fun _ h => h
end
end Go.Proofs.YtdkbcjdimhgmnaaGreat
namespace Go.Proofs.YtdkbcjdimhgmnaaGreat
/-! the automorphisms that a search finds are all of them -/
theorem row0_mem {l : List (List Int)} (h : l ≠ []) : row l 0 ∈ l := by
  cases l with
  | nil => exact absurd rfl h
  | cons a r => simp [row]
section
variable {cs : List Int} {es : List Ed} {b : Nat}
end
end Go.Proofs.YtdkbcjdimhgmnaaGreat
namespace Go.Proofs.YtdkbcjdimhgmnaaGreat
/-! repetitions taken out, place by place -/
section
variable {α : Type} [DecidableEq α]
theorem comp_snoc : ∀ (l : List α) (x : α), comp (l ++ [x]) = if l.getLast? = some x then comp l else comp l ++ [x]
  | [], x => by simp [comp]
  | [y], x => by
    by_cases e : y = x
    · subst e; simp [comp]
    · simp [comp, e]
  | y :: z :: r, x => by
    have ih := comp_snoc (z :: r) x
    have hlast : (y :: z :: r).getLast? = (z :: r).getLast? := by simp [List.getLast?_cons_cons]
    rw [hlast]
    show comp (y :: z :: (r ++ [x])) = _
    rw [comp]
    have ih' : comp (z :: (r ++ [x])) = if (z :: r).getLast? = some x then comp (z :: r) else comp (z :: r) ++ [x] := ih
    rw [ih']
    by_cases e : y = z
    · rw [if_pos e]
      conv => rhs; rw [comp, if_pos e]
    · rw [if_neg e]
      conv => rhs; rw [comp, if_neg e]
      split <;> simp
theorem comp_take_step {l : List α} {k : Nat} (h : k + 1 < l.length) : comp (l.take (k + 1 + 1)) = if l[k + 1] = l[k] then comp (l.take (k + 1)) else comp (l.take (k + 1)) ++ [l[k + 1]] := by
  have e : (l.take (k + 1)).getLast? = some l[k] := by
    rw [List.getLast?_eq_getElem?, List.length_take, Nat.min_eq_left (by omega), List.getElem?_take]
    simp
  rw [List.take_succ_eq_append_getElem h, comp_snoc, e]
  by_cases h2 : l[k + 1] = l[k]
  · rw [if_pos (by rw [h2]), if_pos h2]
  · rw [if_neg (by intro h3; injection h3 with h3; exact h2 h3.symm), if_neg h2]
theorem comp_same : ∀ {l : List α}, (∀ (k : Nat) (h : k + 1 < l.length), l[k + 1] ≠ l[k]) → comp l = l
  | [], _ => rfl
  | [_], _ => rfl
  | y :: z :: r, h => by
    have h0 := h 0 (by simp)
    simp at h0
    rw [comp, if_neg (fun e => h0 e.symm), comp_same fun k hk => ?_]
    have := h (k + 1) (by simpa using hk)
    simpa using this
structure CompT (d z : List α) (k j : Nat) : Prop where
  len : z.length = d.length
  kj : k < j
  jd : j ≤ d.length
  front : z.take k = comp (d.take j)
  klen : (comp (d.take j)).length = k
  rest : ∀ i, j ≤ i + 1 → z[i]? = d[i]?
theorem CompT.start {d : List α} {k : Nat} (h : k + 1 < d.length) (hs : ∀ (i : Nat) (hi : i + 1 ≤ k) (hd : i + 1 < d.length), d[i + 1] ≠ d[i]) (he : d[k + 1] = d[k]) : CompT d d (k + 1) (k + 1 + 1) := by
  have e1 : comp (d.take (k + 1)) = d.take (k + 1) := comp_same fun i hi => by
    have hi' : i + 1 < k + 1 := by rw [List.length_take] at hi; omega
    rw [List.getElem_take, List.getElem_take]
    exact hs i (by omega) (by omega)
  have e2 : comp (d.take (k + 1 + 1)) = d.take (k + 1) := by rw [comp_take_step h, if_pos he, e1]
  exact ⟨rfl, by omega, by omega, e2.symm, by rw [e2, List.length_take]; omega, fun _ _ => rfl⟩
theorem CompT.same {d z : List α} {k j : Nat} (h : CompT d z k (j + 1)) (hj : j + 1 < d.length) (he : d[j + 1] = d[j]) : CompT d z k (j + 1 + 1) := by
  have e2 : comp (d.take (j + 1 + 1)) = comp (d.take (j + 1)) := by rw [comp_take_step hj, if_pos he]
  exact ⟨h.len, by have := h.kj; omega, by omega, by rw [e2]; exact h.front, by rw [e2]; exact h.klen, fun i hi => h.rest i (by omega)⟩
theorem CompT.new {d z : List α} {k j : Nat} (h : CompT d z k (j + 1)) (hj : j + 1 < d.length) (he : d[j + 1] ≠ d[j]) : CompT d (z.set k d[j + 1]) (k + 1) (j + 1 + 1) := by
  have e2 : comp (d.take (j + 1 + 1)) = comp (d.take (j + 1)) ++ [d[j + 1]] := by rw [comp_take_step hj, if_neg he]
  have hk := h.kj
  have hl := h.len
  refine ⟨by simpa using hl, by omega, by omega, ?_, by rw [e2, List.length_append, h.klen]; rfl, fun i hi => ?_⟩
  · rw [e2, ← h.front, List.take_succ_eq_append_getElem (by simp; omega), List.take_set_of_le (by omega)]
    simp
  · rw [List.getElem?_set_ne (by omega)]
    exact h.rest i (by omega)
theorem CompT.done {d z : List α} {k : Nat} (h : CompT d z k d.length) : z.take k = comp d ∧ (comp d).length = k := by
  have h1 := h.front
  have h2 := h.klen
  rw [List.take_length] at h1 h2
  exact ⟨h1, h2⟩
end
end Go.Proofs.YtdkbcjdimhgmnaaGreat
