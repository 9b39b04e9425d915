/- Orders that tell any two apart, sets as strictly rising lists. No program in sight. -/
import Derived.Test.YtcnjlkabdfcjdaaZAD
import Derived.Test.YtcnjlkabdfcjdaaZAF
set_option linter.unusedVariables false
set_option linter.unusedSimpArgs false
namespace Go.Proofs.Ytcnjlkabdfcjdaa

theorem sgnI_cases (x y : Int) : (x < y ∧ sgnI x y = -1) ∨ (x = y ∧ sgnI x y = 0) ∨ (y < x ∧ sgnI x y = 1) := by
  unfold sgnI
  by_cases h1 : x < y
  · exact .inl ⟨h1, by rw [if_pos h1]⟩
  · by_cases h2 : y < x
    · exact .inr (.inr ⟨h2, by rw [if_neg h1, if_pos h2]⟩)
    · exact .inr (.inl ⟨by omega, by rw [if_neg h1, if_neg h2]⟩)
/-! orders that tell any two apart -/
structure TOrd {α : Type} (c : α → α → Int) : Prop where
  eq_of : ∀ {x y}, c x y = 0 → x = y
  self : ∀ x, c x x = 0
  swap : ∀ x y, c y x = - c x y
  trans : ∀ {x y z}, c x y ≤ 0 → c y z ≤ 0 → c x z ≤ 0
section
variable {α : Type} {c : α → α → Int}
theorem TOrd.lt_trans (h : TOrd c) {x y z : α} (h1 : c x y < 0) (h2 : c y z < 0) : c x z < 0 := by
  have h3 := h.trans (x := x) (y := y) (z := z) (by omega) (by omega)
  rcases Int.lt_or_eq_of_le h3 with h4 | h4
  · exact h4
  · have e := h.eq_of h4
    subst e
    have := h.swap x y
    omega
theorem TOrd.lt_of_lt_le (h : TOrd c) {x y z : α} (h1 : c x y < 0) (h2 : c y z ≤ 0) : c x z < 0 := by
  rcases Int.lt_or_eq_of_le h2 with h4 | h4
  · exact h.lt_trans h1 h4
  · have e := h.eq_of h4
    subst e
    exact h1
theorem TOrd.lt_of_le_lt (h : TOrd c) {x y z : α} (h1 : c x y ≤ 0) (h2 : c y z < 0) : c x z < 0 := by
  rcases Int.lt_or_eq_of_le h1 with h4 | h4
  · exact h.lt_trans h4 h2
  · have e := h.eq_of h4
    subst e
    exact h2
theorem TOrd.ne_of_lt (h : TOrd c) {x y : α} (h1 : c x y < 0) : x ≠ y := by
  rintro rfl
  have := h.self x
  omega
def StrictL (c : α → α → Int) (l : List α) : Prop := l.Pairwise fun x y => c x y < 0
def SortedL (c : α → α → Int) (l : List α) : Prop := l.Pairwise fun x y => c x y ≤ 0
theorem strict_unique (h : TOrd c) : ∀ {l m : List α}, StrictL c l → StrictL c m → (∀ x, x ∈ l ↔ x ∈ m) → l = m
  | [], [], _, _, _ => rfl
  | [], b :: m, _, _, hm => absurd ((hm b).2 List.mem_cons_self) (by simp)
  | a :: l, [], _, _, hm => absurd ((hm a).1 List.mem_cons_self) (by simp)
  | a :: l, b :: m, hl, hr, hm => by
    have hl' := List.pairwise_cons.1 hl
    have hr' := List.pairwise_cons.1 hr
    have e : a = b := by
      have h1 := (hm a).1 List.mem_cons_self
      have h2 := (hm b).2 List.mem_cons_self
      rcases List.mem_cons.1 h1 with h1 | h1
      · exact h1
      · rcases List.mem_cons.1 h2 with h2 | h2
        · exact h2.symm
        · have k1 := hr'.1 a h1
          have k2 := hl'.1 b h2
          have := h.swap a b
          omega
    subst e
    congr 1
    refine strict_unique h hl'.2 hr'.2 fun x => ⟨fun hx => ?_, fun hx => ?_⟩
    · rcases List.mem_cons.1 ((hm x).1 (List.mem_cons_of_mem _ hx)) with e | hx'
      · exact absurd e.symm (h.ne_of_lt (hl'.1 x hx))
      · exact hx'
    · rcases List.mem_cons.1 ((hm x).2 (List.mem_cons_of_mem _ hx)) with e | hx'
      · exact absurd e.symm (h.ne_of_lt (hr'.1 x hx))
      · exact hx'
/-- a list in order without repetitions -/
def comp [DecidableEq α] : List α → List α
  | [] => []
  | [x] => [x]
  | x :: y :: r => if x = y then comp (y :: r) else x :: comp (y :: r)
theorem comp_mem [DecidableEq α] (l : List α) (x : α) : x ∈ comp l ↔ x ∈ l := by
  induction l using comp.induct with
  | case1 => simp [comp]
  | case2 y => simp [comp]
  | case3 y r ih =>
    rw [comp, if_pos rfl, ih]
    simp
  | case4 y z r hne ih =>
    rw [comp, if_neg hne, List.mem_cons, ih]
    simp
theorem comp_strict [DecidableEq α] (h : TOrd c) {l : List α} (hs : SortedL c l) : StrictL c (comp l) := by
  induction l using comp.induct with
  | case1 => simp [comp, StrictL]
  | case2 y => simp [comp, StrictL]
  | case3 y r ih =>
    rw [comp, if_pos rfl]
    exact ih (List.pairwise_cons.1 hs).2
  | case4 y z r hne ih =>
    rw [comp, if_neg hne]
    have hs' := List.pairwise_cons.1 hs
    refine List.pairwise_cons.2 ⟨fun x hx => ?_, ih hs'.2⟩
    have hx := (comp_mem _ _).1 hx
    have hyz : c y z < 0 := by
      have := hs'.1 z List.mem_cons_self
      rcases Int.lt_or_eq_of_le this with h4 | h4
      · exact h4
      · exact absurd (h.eq_of h4) hne
    rcases List.mem_cons.1 hx with rfl | hx
    · exact hyz
    · exact h.lt_of_lt_le hyz ((List.pairwise_cons.1 hs'.2).1 x hx)
/-- an element put to its place among rising ones, once -/
def putG (c : α → α → Int) : List α → α → List α
  | [], x => [x]
  | y :: r, x => if c y x < 0 then y :: putG c r x else if c y x = 0 then y :: r else x :: y :: r
theorem putG_mem (h : TOrd c) (l : List α) (x z : α) : z ∈ putG c l x ↔ z = x ∨ z ∈ l := by
  induction l with
  | nil => simp [putG]
  | cons y r ih =>
    unfold putG
    split
    · rw [List.mem_cons, ih, List.mem_cons]
      constructor
      · rintro (h1 | h1 | h1)
        · exact .inr (.inl h1)
        · exact .inl h1
        · exact .inr (.inr h1)
      · rintro (h1 | h1 | h1)
        · exact .inr (.inl h1)
        · exact .inl h1
        · exact .inr (.inr h1)
    · split
      · rename_i h0
        have e := h.eq_of h0
        subst e
        simp
      · simp
theorem putG_strict (h : TOrd c) {l : List α} (hl : StrictL c l) (x : α) : StrictL c (putG c l x) := by
  induction l with
  | nil => simp [putG, StrictL]
  | cons y r ih =>
    have hl' := List.pairwise_cons.1 hl
    unfold putG
    split
    · rename_i h1
      refine List.pairwise_cons.2 ⟨fun z hz => ?_, ih hl'.2⟩
      rcases (putG_mem h r x z).1 hz with rfl | hz
      · exact h1
      · exact hl'.1 z hz
    · split
      · exact hl
      · rename_i h1 h2
        have h3 : c x y < 0 := by
          have := h.swap y x
          omega
        refine List.pairwise_cons.2 ⟨fun z hz => ?_, hl⟩
        rcases List.mem_cons.1 hz with rfl | hz
        · exact h3
        · exact h.lt_trans h3 (hl'.1 z hz)
/-- all below x so far -/
theorem putG_before {l : List α} {x : α} {k : Nat} (hk : k ≤ l.length) (h : ∀ y, y ∈ l.take k → c y x < 0) : putG c l x = l.take k ++ putG c (l.drop k) x := by
  induction l generalizing k with
  | nil => simp at hk; subst hk; simp
  | cons y r ih =>
    cases k with
    | zero => simp
    | succ k =>
      simp only [List.take_succ_cons, List.drop_succ_cons, List.cons_append]
      rw [← ih (by simpa using hk) fun z hz => h z (by rw [List.take_succ_cons]; exact List.mem_cons_of_mem _ hz)]
      rw [putG, if_pos (h y (by rw [List.take_succ_cons]; exact List.mem_cons_self))]
/-- the rising list of what a list holds -/
def setG (c : α → α → Int) (l : List α) : List α := l.foldl (putG c) []
theorem setG_gen (h : TOrd c) (l acc : List α) (ha : StrictL c acc) : StrictL c (l.foldl (putG c) acc) ∧ ∀ x, x ∈ l.foldl (putG c) acc ↔ x ∈ acc ∨ x ∈ l := by
  induction l generalizing acc with
  | nil => exact ⟨ha, fun x => by simp⟩
  | cons y r ih =>
    obtain ⟨h1, h2⟩ := ih (putG c acc y) (putG_strict h ha y)
    refine ⟨h1, fun x => ?_⟩
    rw [List.foldl_cons, h2, putG_mem h, List.mem_cons]
    constructor
    · rintro ((h3 | h3) | h3)
      · exact .inr (.inl h3)
      · exact .inl h3
      · exact .inr (.inr h3)
    · rintro (h3 | h3 | h3)
      · exact .inl (.inr h3)
      · exact .inl (.inl h3)
      · exact .inr h3
theorem setG_strict (h : TOrd c) (l : List α) : StrictL c (setG c l) := (setG_gen h l [] List.Pairwise.nil).1
theorem setG_mem (h : TOrd c) (l : List α) (x : α) : x ∈ setG c l ↔ x ∈ l := by
  have := (setG_gen h l [] List.Pairwise.nil).2 x
  simpa [setG] using this
theorem setG_eq (h : TOrd c) {l m : List α} (hm : StrictL c m) (he : ∀ x, x ∈ m ↔ x ∈ l) : setG c l = m :=
  strict_unique h (setG_strict h l) hm fun x => (setG_mem h l x).trans (he x).symm
theorem setG_comp [DecidableEq α] (h : TOrd c) {l m : List α} (hs : SortedL c m) (hp : ∀ x, x ∈ m ↔ x ∈ l) : comp m = setG c l :=
  (setG_eq h (comp_strict h hs) fun x => (comp_mem m x).trans (hp x)).symm
theorem setG_snoc (l : List α) (x : α) : setG c (l ++ [x]) = putG c (setG c l) x := by simp [setG, List.foldl_append]
theorem strict_nodup (h : TOrd c) {l : List α} (hl : StrictL c l) : l.Nodup := hl.imp fun h1 => h.ne_of_lt h1
theorem putG_len (l : List α) (x : α) : (putG c l x).length ≤ l.length + 1 := by
  induction l with
  | nil => simp [putG]
  | cons y r ih =>
    unfold putG
    split
    · simp; omega
    · split <;> simp
theorem setG_len (l : List α) : (setG c l).length ≤ l.length := by
  have : ∀ acc : List α, (l.foldl (putG c) acc).length ≤ acc.length + l.length := by
    induction l with
    | nil => intro acc; simp
    | cons y r ih =>
      intro acc
      have h1 := ih (putG c acc y)
      have h2 := putG_len (c := c) acc y
      simp only [List.foldl_cons, List.length_cons]
      omega
  simpa [setG] using this []
/-- where an element stands in a rising list: how many are below it -/
def idxG (c : α → α → Int) (l : List α) (x : α) : Nat := l.countP fun y => decide (c y x < 0)
theorem idxG_at (h : TOrd c) {l : List α} (hl : StrictL c l) {k : Nat} (hk : k < l.length) : idxG c l l[k] = k := by
  induction l generalizing k with
  | nil => simp at hk
  | cons y r ih =>
    have hl' := List.pairwise_cons.1 hl
    unfold idxG
    cases k with
    | zero =>
      simp only [List.getElem_cons_zero]
      rw [List.countP_eq_zero]
      intro z hz
      rcases List.mem_cons.1 hz with rfl | hz
      · have := h.self z; simp; omega
      · have := hl'.1 z hz; have := h.swap y z; simp; omega
    | succ k =>
      simp only [List.getElem_cons_succ]
      have hk' : k < r.length := by simpa using hk
      rw [List.countP_cons_of_pos (by simpa using hl'.1 _ (List.getElem_mem hk'))]
      have := ih hl'.2 hk'
      unfold idxG at this
      omega
theorem idxG_mem (h : TOrd c) {l : List α} (hl : StrictL c l) {x : α} (hx : x ∈ l) : idxG c l x < l.length ∧ l[idxG c l x]? = some x := by
  obtain ⟨k, hk, rfl⟩ := List.mem_iff_getElem.1 hx
  rw [idxG_at h hl hk]
  exact ⟨hk, List.getElem?_eq_getElem hk⟩
theorem idxG_inj (h : TOrd c) {l : List α} (hl : StrictL c l) {x y : α} (hx : x ∈ l) (hy : y ∈ l) (he : idxG c l x = idxG c l y) : x = y := by
  have h1 := (idxG_mem h hl hx).2
  have h2 := (idxG_mem h hl hy).2
  rw [he, h2] at h1
  injection h1 with h1
  exact h1.symm
end
/-! the order of numbers -/
theorem sgnI_ord : TOrd sgnI where
  eq_of := fun {x y} h => by
    rcases sgnI_cases x y with ⟨_, e⟩ | ⟨h', _⟩ | ⟨_, e⟩
    · omega
    · exact h'
    · omega
  self := fun x => by rcases sgnI_cases x x with ⟨h, e⟩ | ⟨_, e⟩ | ⟨h, e⟩ <;> omega
  swap := fun x y => by
    rcases sgnI_cases x y with ⟨h, e⟩ | ⟨h, e⟩ | ⟨h, e⟩ <;> rcases sgnI_cases y x with ⟨h', e'⟩ | ⟨h', e'⟩ | ⟨h', e'⟩ <;> omega
  trans := fun {x y z} h1 h2 => by
    rcases sgnI_cases x y with ⟨h, e⟩ | ⟨h, e⟩ | ⟨h, e⟩ <;> rcases sgnI_cases y z with ⟨h', e'⟩ | ⟨h', e'⟩ | ⟨h', e'⟩ <;> rcases sgnI_cases x z with ⟨h'', e''⟩ | ⟨h'', e''⟩ | ⟨h'', e''⟩ <;> omega
theorem srt_sorted (l : List Int) : SortedL sgnI (srt l) := (srt_le l).imp fun {x y} h => by
  rcases sgnI_cases x y with ⟨_, e⟩ | ⟨_, e⟩ | ⟨_, e⟩ <;> omega
theorem srt_mem (l : List Int) (x : Int) : x ∈ srt l ↔ x ∈ l := (srt_perm l).mem_iff
/-- what two lists with the same numbers, as often, are in order -/
theorem srt_unique {l m : List Int} (hp : m.Perm l) (hm : m.Pairwise fun x y => x ≤ y) : m = srt l :=
  (hp.trans (srt_perm l).symm).eq_of_pairwise (fun _ _ _ _ h1 h2 => Int.le_antisymm h1 h2) hm (srt_le l)
theorem srt_perm_eq {l m : List Int} (hp : m.Perm l) : srt m = srt l := srt_unique ((srt_perm m).trans hp) (srt_le m)

end Go.Proofs.Ytcnjlkabdfcjdaa
/- Permutations as lists, plain. No program in sight. -/
namespace Go.Proofs.Ytcnjlkabdfcjdaa

def relTo (cs p : List Int) (k : Nat) : List Int := (List.range k).foldl (fun acc v => acc.set (nth p v).toNat (nth cs v)) (List.replicate cs.length 0)
def relC (cs p : List Int) : List Int := relTo cs p cs.length
theorem relTo_zero (cs p : List Int) : relTo cs p 0 = List.replicate cs.length 0 := rfl
theorem relTo_step (cs p : List Int) (k : Nat) : relTo cs p (k + 1) = (relTo cs p k).set (nth p k).toNat (nth cs k) := by simp [relTo, List.range_succ, List.foldl_append]
theorem relTo_len (cs p : List Int) (k : Nat) : (relTo cs p k).length = cs.length := by
  induction k with
  | zero => simp [relTo]
  | succ k ih => rw [relTo_step, List.length_set, ih]
/-! permutations as lists -/
theorem perm_inj {p : List Int} (h : Perm p) {i j : Nat} (hi : i < p.length) (hj : j < p.length) (he : nth p i = nth p j) : i = j := by
  rcases Nat.lt_trichotomy i j with h1 | h1 | h1
  · exact absurd he (h.ne i j h1 hj)
  · exact h1
  · exact absurd he.symm (h.ne j i h1 hi)
def iotaP (n : Nat) : List Int := (List.range n).map fun (k : Nat) => (k : Int)
theorem iotaP_len (n : Nat) : (iotaP n).length = n := by simp [iotaP]
theorem iotaP_nth {n k : Nat} (h : k < n) : nth (iotaP n) k = k := by rw [nth_get (by rw [iotaP_len]; exact h)]; simp [iotaP]
theorem nth_ext {l m : List Int} (hl : l.length = m.length) (h : ∀ k, k < l.length → nth l k = nth m k) : l = m := by
  apply List.ext_getElem hl
  intro k h1 h2
  have := h k h1
  rwa [nth_get h1, nth_get h2] at this
theorem nth_set {l : List Int} {i j : Nat} {x : Int} (hj : j < l.length) : nth (l.set i x) j = if i = j then x else nth l j := by
  rw [nth_get (by simpa using hj), List.getElem_set]
  split
  · rfl
  · rw [nth_get hj]
theorem perm_iota {p : List Int} (h : Perm p) : p.Perm (iotaP p.length) := by
  have h1 := perm_inOrder h
  have h2 : srt p = iotaP p.length := nth_ext (by rw [srt_len, iotaP_len]) fun k hk => by
    rw [srt_len] at hk
    rw [h1 k hk, iotaP_nth hk]
  rw [← h2]
  exact (srt_perm p).symm
theorem perm_surj {p : List Int} (h : Perm p) {i : Nat} (hi : i < p.length) : ∃ v, v < p.length ∧ nth p v = i := by
  have : (i : Int) ∈ p := (perm_iota h).mem_iff.2 (by unfold iotaP; exact List.mem_map.2 ⟨i, by simpa using hi, rfl⟩)
  exact mem_nth this
theorem perm_lt {p : List Int} (h : Perm p) {v : Nat} (hv : v < p.length) : (nth p v).toNat < p.length ∧ ((nth p v).toNat : Int) = nth p v := by
  have := h.bd v hv
  omega
theorem relTo_nth {cs p : List Int} (hp : Perm p) (hl : p.length = cs.length) : ∀ (k : Nat), k ≤ cs.length → ∀ v, v < k → nth (relTo cs p k) (nth p v).toNat = nth cs v
  | 0, _, v, h => absurd h (by omega)
  | k + 1, hk, v, hv => by
    have b := perm_lt hp (v := v) (by omega)
    have b' := perm_lt hp (v := k) (by omega)
    rw [relTo_step, nth_set (by rw [relTo_len]; omega)]
    by_cases e : k = v
    · subst e
      rw [if_pos rfl]
    · rw [if_neg (fun h => e (perm_inj hp (by omega) (by omega) (by omega)))]
      exact relTo_nth hp hl k (by omega) v (by omega)
theorem relC_nth {cs p : List Int} (hp : Perm p) (hl : p.length = cs.length) {v : Nat} (hv : v < cs.length) : nth (relC cs p) (nth p v).toNat = nth cs v := relTo_nth hp hl _ (Nat.le_refl _) v hv
theorem relC_len (cs p : List Int) : (relC cs p).length = cs.length := relTo_len cs p _
/-- first p, then q -/
def thenP (p q : List Int) : List Int := p.map fun x => nth q x.toNat
theorem thenP_len (p q : List Int) : (thenP p q).length = p.length := by simp [thenP]
theorem thenP_nth {p q : List Int} {v : Nat} (hv : v < p.length) : nth (thenP p q) v = nth q (nth p v).toNat := by
  rw [nth_get (by rw [thenP_len]; exact hv), nth_get hv]
  simp [thenP]
def invP (p : List Int) : List Int := relC (iotaP p.length) p
theorem invP_len (p : List Int) : (invP p).length = p.length := by rw [invP, relC_len, iotaP_len]
theorem invP_nth {p : List Int} (hp : Perm p) {v : Nat} (hv : v < p.length) : nth (invP p) (nth p v).toNat = v := by
  rw [invP, relC_nth hp (by rw [iotaP_len]) (by rw [iotaP_len]; exact hv), iotaP_nth hv]
theorem perm_of {n : Nat} {p : List Int} (hl : p.length = n) (hb : ∀ v, v < n → 0 ≤ nth p v ∧ nth p v < n) (hi : ∀ u v, u < n → v < n → nth p u = nth p v → u = v) : Perm p :=
  ⟨fun k hk => by rw [hl] at hk ⊢; exact hb k hk, fun i j hij hj e => by have := hi i j (by omega) (by omega) e; omega⟩
theorem thenP_perm {p q : List Int} (hp : Perm p) (hq : Perm q) (hl : p.length = q.length) : Perm (thenP p q) := by
  refine perm_of (thenP_len p q) (fun v hv => ?_) (fun u v hu hv e => ?_)
  · rw [thenP_nth hv]
    have := perm_lt hp hv
    have := hq.bd (nth p v).toNat (by omega)
    omega
  · rw [thenP_nth hu, thenP_nth hv] at e
    have a := perm_lt hp hu
    have b := perm_lt hp hv
    have := perm_inj hq (by omega) (by omega) e
    exact perm_inj hp hu hv (by omega)
theorem invP_right {p : List Int} (hp : Perm p) {i : Nat} (hi : i < p.length) : nth p (nth (invP p) i).toNat = i := by
  obtain ⟨v, hv, e⟩ := perm_surj hp hi
  have := invP_nth hp hv
  rw [e] at this
  simp at this
  rw [this]
  simpa using e
theorem invP_perm {p : List Int} (hp : Perm p) : Perm (invP p) := by
  refine perm_of (invP_len p) (fun v hv => ?_) (fun u v hu hv e => ?_)
  · obtain ⟨u, hu, e⟩ := perm_surj hp hv
    have := invP_nth hp hu
    rw [e] at this
    simp at this
    rw [this]
    omega
  · have a := invP_right hp hu
    have b := invP_right hp hv
    rw [e, b] at a
    omega
theorem iotaP_perm (n : Nat) : Perm (iotaP n) := by
  refine perm_of (iotaP_len n) (fun v hv => ?_) (fun u v hu hv e => ?_)
  · rw [iotaP_nth hv]; omega
  · rw [iotaP_nth hu, iotaP_nth hv] at e; omega
end Go.Proofs.Ytcnjlkabdfcjdaa
