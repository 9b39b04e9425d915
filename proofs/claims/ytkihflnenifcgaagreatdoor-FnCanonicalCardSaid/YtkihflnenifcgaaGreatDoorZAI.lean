/- Copies of lists, on both sides: memory of the call's own that reads the same. No condition beyond those stated. -/
import Derived.Test.YtkihflnenifcgaaGreatDoorZAE
import Derived.Test.YtkihflnenifcgaaGreatDoorZAG
import Derived.Test.YtkihflnenifcgaaGreatDoorZAH
set_option linter.unusedVariables false
set_option linter.unusedSimpArgs false
namespace Go.Proofs.YtkihflnenifcgaaGreatDoor
open Go.RowKit

theorem RI.all64 {w : World} {A : Option Addr} {n : Nat} {zs : List Int} (h : RI w A n zs) : All64 zs := fun z hz => by
  obtain ⟨j, hj, rfl⟩ := List.mem_iff_getElem.1 hz
  obtain ⟨ad, ha, hc, hi⟩ := h.get (k := j) (by rw [← h.len]; exact hj)
  rwa [nth_get hj] at hi
theorem RI.news {w : World} {A : Option Addr} {n : Nat} {zs : List Int} (h : RI w A n zs) : ∀ j u, (ints zs)[j]? = some u → ∃ ad, A = some ad ∧ w.cell? (ad.add j) = some u := fun j u hu => by
  rw [ints, List.getElem?_map] at hu
  cases hz : zs[j]? with
  | none => rw [hz] at hu; simp at hu
  | some z =>
    rw [hz] at hu
    obtain ⟨ad, v, ha, hc, rfl, _⟩ := RS.at_ h j z hz
    injection hu with hu
    subst hu
    exact ⟨ad, ha, hc⟩

set_option maxHeartbeats 400000 in
theorem sizeI_any (A : Option Addr) (n c : Nat) (w : World) (_ : n ≤ 9223372036854775807) : Calls Tryz.prog 23 #[.slice A n c] w fun e w' => e = .returned (.int .i64 n) ∧ w = w' := by
  go_enter Tryz.func23, Tryz.ntmps23
  go_wp2
  go_ret
  exact ⟨rfl, rfl⟩

set_option maxHeartbeats 400000 in
theorem clone_any (A : Option Addr) (n c : Nat) (zs : List Int) (w : World) (ha : RI w A n zs) (hn : n ≤ 1099511627776) :
    Calls Tryz.prog 50 #[.slice A n c] w (RetI w 2 zs) := by
  have hq := fun (wx : World) => Lib.run_eql_slice_nil (P := Tryz.prog) wx 24 2 A n c 0 0 Tryz.underlying24
  cases A with
  | none =>
    have h0 : zs = [] := by
      rcases Nat.eq_zero_or_pos n with h | h
      · exact List.eq_nil_of_length_eq_zero (by rw [ha.len, h])
      · obtain ⟨ad, h', _⟩ := ha.get h
        cases h'
    subst h0
    simp only [Option.isNone_none] at hq
    go_enter Tryz.func50, Tryz.ntmps50
    go_wp2
    go_ret
    exact ⟨_, _, _, rfl, OI.nil_ _ _ _, Below.refl _ _⟩
  | some a =>
    simp only [Option.isNone_some] at hq
    have ho := OI.lit w w.heap.size 2 [] (Nat.le_refl _) (by simp) All64.nil_
    have hb := below_alloc w (.cells (ints []).toArray 2)
    have hr := ha.keep hb
    have hl := Lib.hid ha.len
    have hal := ha.all64
    clear ha
    go_enter Tryz.func50, Tryz.ntmps50
    go_wp2_with (at_builtin; refine wpList_app _ rfl _ _ 24 rfl 2 (.int .i64 0) 1 8 Tryz.underlying24 int_info rfl (by omega) (by omega) w.heap.size _ 0 0 (ints []) rfl ho.os _ n c (ints zs) rfl (by simp [ints, hl.out]) hr.news (ints_oneCell _) (by omega) (by simp) ?_; intro A2 c2 w2 ho2 hg2 hn2)
    have hw2 := below_own hb hg2 (by simp) (fun b hb => (ho.os.lt hb).1)
    have hi2 := OI.cat ho2 All64.nil_ hal
    clear ho hb hr ho2 hg2 hn2
    go_wp2
    go_ret
    exact ⟨A2, n, c2, by simp, by simpa using hi2, hw2⟩
set_option maxHeartbeats 400000 in
theorem l00Own_any (A : Option Addr) (n c : Nat) (zs : List Int) (w : World) (ha : RI w A n zs) (hn : n ≤ 1099511627776) :
    Calls Tryz.prog 94 #[.slice A n c] w (RetI w 2 zs) := by
  have ho := OI.lit w w.heap.size 2 [] (Nat.le_refl _) (by simp) All64.nil_
  have hb := below_alloc w (.cells (ints []).toArray 2)
  have hr := ha.keep hb
  have hl := Lib.hid ha.len
  have hal := ha.all64
  clear ha
  go_enter Tryz.func94, Tryz.ntmps94
  go_wp2_with (at_builtin; refine wpList_app _ rfl _ _ 24 rfl 2 (.int .i64 0) 1 8 Tryz.underlying24 int_info rfl (by omega) (by omega) w.heap.size _ 0 0 (ints []) rfl ho.os _ n c (ints zs) rfl (by simp [ints, hl.out]) hr.news (ints_oneCell _) (by omega) (by simp) ?_; intro A2 c2 w2 ho2 hg2 hn2)
  have hw2 := below_own hb hg2 (by simp) (fun b hb => (ho.os.lt hb).1)
  have hi2 := OI.cat ho2 All64.nil_ hal
  clear ho hb hr ho2 hg2 hn2
  go_wp2
  go_ret
  exact ⟨A2, n, c2, by simp, by simpa using hi2, hw2⟩
theorem row_le_cells (zss : List (List Int)) {j : Nat} (h : j < zss.length) : (row zss j).length ≤ cells zss := by
  have h1 := cells_take zss h
  have h2 := cells_le zss (j + 1)
  omega
theorem take_row {zss : List (List Int)} {j : Nat} (h : j < zss.length) : zss.take (j + 1) = zss.take j ++ [row zss j] := by
  rw [List.take_succ_eq_append_getElem h, row_get h]
theorem OR.of_own {w : World} {B : Nat} {e2 e1 : TypeId} {A : Option Addr} {n c : Nat} (h : OS w B e2 1 A n c []) (hne : e2 ≠ e1) : OR w B e2 e1 A n c [] :=
  ⟨[], by simpa using h, rfl, fun _ _ _ h => by simp at h, fun _ _ _ _ _ h => by simp at h, hne⟩


end Go.Proofs.YtkihflnenifcgaaGreatDoor
/- Sorted lists, plain: a list of n numbers is a permutation of 0 to n - 1 just if it is that in order. No program in sight. -/
namespace Go.Proofs.YtkihflnenifcgaaGreatDoor

def srt (zs : List Int) : List Int := zs.mergeSort fun x y => decide (x ≤ y)
theorem srt_perm (zs : List Int) : (srt zs).Perm zs := List.mergeSort_perm _ _
theorem srt_len (zs : List Int) : (srt zs).length = zs.length := (srt_perm zs).length_eq
theorem srt_le (zs : List Int) : (srt zs).Pairwise fun x y => x ≤ y := by
  have h := List.pairwise_mergeSort (le := fun x y : Int => decide (x ≤ y)) (fun a b c h1 h2 => by simp at *; omega) (fun a b => by simp; omega) zs
  exact h.imp fun h => by simpa using h
theorem srt_mono {zs : List Int} {i j : Nat} (h : i ≤ j) (hj : j < zs.length) : nth (srt zs) i ≤ nth (srt zs) j := by
  have hl := srt_len zs
  rcases Nat.eq_or_lt_of_le h with rfl | h'
  · exact Int.le_refl _
  · have := List.pairwise_iff_getElem.1 (srt_le zs) i j (by omega) (by omega) h'
    rwa [nth_get (by omega), nth_get (by omega)]
theorem nodup_ne {zs : List Int} (h : ∀ i j, i < j → j < zs.length → nth zs i ≠ nth zs j) : zs.Nodup := by
  rw [List.Nodup, List.pairwise_iff_getElem]
  intro i j hi hj hij
  have := h i j hij hj
  rwa [nth_get hi, nth_get hj] at this
theorem ne_nodup {zs : List Int} (h : zs.Nodup) : ∀ i j, i < j → j < zs.length → nth zs i ≠ nth zs j := fun i j hij hj => by
  rw [List.Nodup, List.pairwise_iff_getElem] at h
  have := h i j (by omega) hj hij
  rwa [nth_get (by omega), nth_get hj]
theorem mem_nth {zs : List Int} {x : Int} (h : x ∈ zs) : ∃ k, k < zs.length ∧ nth zs k = x := by
  obtain ⟨k, hk, rfl⟩ := List.mem_iff_getElem.1 h
  exact ⟨k, hk, nth_get hk⟩
theorem nth_mem {zs : List Int} {k : Nat} (h : k < zs.length) : nth zs k ∈ zs := by
  rw [nth_get h]
  exact List.getElem_mem h
def inOrder (zs : List Int) : Prop := ∀ k, k < zs.length → nth (srt zs) k = (k : Int)
theorem perm_inOrder {zs : List Int} (h : Perm zs) : inOrder zs := by
  have hl := srt_len zs
  have hnd : (srt zs).Nodup := (srt_perm zs).nodup_iff.2 (nodup_ne h.ne)
  have hne := ne_nodup hnd
  have hbd : ∀ k, k < zs.length → 0 ≤ nth (srt zs) k ∧ nth (srt zs) k < zs.length := fun k hk => by
    have hm : nth (srt zs) k ∈ zs := (srt_perm zs).mem_iff.1 (nth_mem (by omega))
    obtain ⟨j, hj, e⟩ := mem_nth hm
    rw [← e]
    exact h.bd j hj
  have hup : ∀ k, k + 1 < zs.length → nth (srt zs) k < nth (srt zs) (k + 1) := fun k hk => by
    have h1 := srt_mono (zs := zs) (i := k) (j := k + 1) (by omega) hk
    have h2 := hne k (k + 1) (by omega) (by omega)
    omega
  have hlo : ∀ k, k < zs.length → (k : Int) ≤ nth (srt zs) k := by
    intro k
    induction k with
    | zero => intro hk; exact (hbd 0 hk).1
    | succ k ih => intro hk; have := ih (by omega); have := hup k hk; omega
  have hhi : ∀ j k, k + 1 + j = zs.length → nth (srt zs) k ≤ (k : Int) := by
    intro j
    induction j with
    | zero => intro k hk; have := (hbd k (by omega)).2; omega
    | succ j ih => intro k hk; have := ih (k + 1) (by omega); have := hup k (by omega); omega
  intro k hk
  have := hlo k hk
  have := hhi (zs.length - 1 - k) k (by omega)
  omega
theorem inOrder_perm {zs : List Int} (h : inOrder zs) : Perm zs := by
  have hl := srt_len zs
  refine ⟨fun k hk => ?_, ?_⟩
  · have hm : nth zs k ∈ srt zs := (srt_perm zs).mem_iff.2 (nth_mem hk)
    obtain ⟨j, hj, e⟩ := mem_nth hm
    rw [← e, h j (by omega)]
    omega
  · refine ne_nodup ((srt_perm zs).nodup_iff.1 (nodup_ne fun i j hij hj => ?_))
    rw [h i (by omega), h j (by omega)]
    omega
theorem perm_iff (zs : List Int) : Perm zs ↔ inOrder zs := ⟨perm_inOrder, inOrder_perm⟩
end Go.Proofs.YtkihflnenifcgaaGreatDoor
/- Orders that tell any two apart, sets as strictly rising lists. No program in sight. -/
namespace Go.Proofs.YtkihflnenifcgaaGreatDoor

theorem sgnI_cases (x y : Int) : (x < y ∧ sgnI x y = -1) ∨ (x = y ∧ sgnI x y = 0) ∨ (y < x ∧ sgnI x y = 1) := by
  unfold sgnI
  by_cases h1 : x < y
  · exact .inl ⟨h1, by rw [if_pos h1]⟩
  · by_cases h2 : y < x
    · exact .inr (.inr ⟨h2, by rw [if_neg h1, if_pos h2]⟩)
    · exact .inr (.inl ⟨by omega, by rw [if_neg h1, if_neg h2]⟩)
/-! orders that tell any two apart -/
structure TOrd {α : Type} (c : α → α → Int) : Prop where
  eq_of : ∀ {x y}, c x y = 0 → x = y
  self : ∀ x, c x x = 0
  swap : ∀ x y, c y x = - c x y
  trans : ∀ {x y z}, c x y ≤ 0 → c y z ≤ 0 → c x z ≤ 0
section
variable {α : Type} {c : α → α → Int}
theorem TOrd.lt_trans (h : TOrd c) {x y z : α} (h1 : c x y < 0) (h2 : c y z < 0) : c x z < 0 := by
  have h3 := h.trans (x := x) (y := y) (z := z) (by omega) (by omega)
  rcases Int.lt_or_eq_of_le h3 with h4 | h4
  · exact h4
  · have e := h.eq_of h4
    subst e
    have := h.swap x y
    omega
theorem TOrd.lt_of_lt_le (h : TOrd c) {x y z : α} (h1 : c x y < 0) (h2 : c y z ≤ 0) : c x z < 0 := by
  rcases Int.lt_or_eq_of_le h2 with h4 | h4
  · exact h.lt_trans h1 h4
  · have e := h.eq_of h4
    subst e
    exact h1
theorem TOrd.lt_of_le_lt (h : TOrd c) {x y z : α} (h1 : c x y ≤ 0) (h2 : c y z < 0) : c x z < 0 := by
  rcases Int.lt_or_eq_of_le h1 with h4 | h4
  · exact h.lt_trans h4 h2
  · have e := h.eq_of h4
    subst e
    exact h2
theorem TOrd.ne_of_lt (h : TOrd c) {x y : α} (h1 : c x y < 0) : x ≠ y := by
  rintro rfl
  have := h.self x
  omega
def StrictL (c : α → α → Int) (l : List α) : Prop := l.Pairwise fun x y => c x y < 0
def SortedL (c : α → α → Int) (l : List α) : Prop := l.Pairwise fun x y => c x y ≤ 0
theorem strict_unique (h : TOrd c) : ∀ {l m : List α}, StrictL c l → StrictL c m → (∀ x, x ∈ l ↔ x ∈ m) → l = m
  | [], [], _, _, _ => rfl
  | [], b :: m, _, _, hm => absurd ((hm b).2 List.mem_cons_self) (by simp)
  | a :: l, [], _, _, hm => absurd ((hm a).1 List.mem_cons_self) (by simp)
  | a :: l, b :: m, hl, hr, hm => by
    have hl' := List.pairwise_cons.1 hl
    have hr' := List.pairwise_cons.1 hr
    have e : a = b := by
      have h1 := (hm a).1 List.mem_cons_self
      have h2 := (hm b).2 List.mem_cons_self
      rcases List.mem_cons.1 h1 with h1 | h1
      · exact h1
      · rcases List.mem_cons.1 h2 with h2 | h2
        · exact h2.symm
        · have k1 := hr'.1 a h1
          have k2 := hl'.1 b h2
          have := h.swap a b
          omega
    subst e
    congr 1
    refine strict_unique h hl'.2 hr'.2 fun x => ⟨fun hx => ?_, fun hx => ?_⟩
    · rcases List.mem_cons.1 ((hm x).1 (List.mem_cons_of_mem _ hx)) with e | hx'
      · exact absurd e.symm (h.ne_of_lt (hl'.1 x hx))
      · exact hx'
    · rcases List.mem_cons.1 ((hm x).2 (List.mem_cons_of_mem _ hx)) with e | hx'
      · exact absurd e.symm (h.ne_of_lt (hr'.1 x hx))
      · exact hx'
/-- a list in order without repetitions -/
def comp [DecidableEq α] : List α → List α
  | [] => []
  | [x] => [x]
  | x :: y :: r => if x = y then comp (y :: r) else x :: comp (y :: r)
theorem comp_mem [DecidableEq α] (l : List α) (x : α) : x ∈ comp l ↔ x ∈ l := by
  induction l using comp.induct with
  | case1 => simp [comp]
  | case2 y => simp [comp]
  | case3 y r ih =>
    rw [comp, if_pos rfl, ih]
    simp
  | case4 y z r hne ih =>
    rw [comp, if_neg hne, List.mem_cons, ih]
    simp
theorem comp_strict [DecidableEq α] (h : TOrd c) {l : List α} (hs : SortedL c l) : StrictL c (comp l) := by
  induction l using comp.induct with
  | case1 => simp [comp, StrictL]
  | case2 y => simp [comp, StrictL]
  | case3 y r ih =>
    rw [comp, if_pos rfl]
    exact ih (List.pairwise_cons.1 hs).2
  | case4 y z r hne ih =>
    rw [comp, if_neg hne]
    have hs' := List.pairwise_cons.1 hs
    refine List.pairwise_cons.2 ⟨fun x hx => ?_, ih hs'.2⟩
    have hx := (comp_mem _ _).1 hx
    have hyz : c y z < 0 := by
      have := hs'.1 z List.mem_cons_self
      rcases Int.lt_or_eq_of_le this with h4 | h4
      · exact h4
      · exact absurd (h.eq_of h4) hne
    rcases List.mem_cons.1 hx with rfl | hx
    · exact hyz
    · exact h.lt_of_lt_le hyz ((List.pairwise_cons.1 hs'.2).1 x hx)
/-- an element put to its place among rising ones, once -/
def putG (c : α → α → Int) : List α → α → List α
  | [], x => [x]
  | y :: r, x => if c y x < 0 then y :: putG c r x else if c y x = 0 then y :: r else x :: y :: r
theorem putG_mem (h : TOrd c) (l : List α) (x z : α) : z ∈ putG c l x ↔ z = x ∨ z ∈ l := by
  induction l with
  | nil => simp [putG]
  | cons y r ih =>
    unfold putG
    split
    · rw [List.mem_cons, ih, List.mem_cons]
      constructor
      · rintro (h1 | h1 | h1)
        · exact .inr (.inl h1)
        · exact .inl h1
        · exact .inr (.inr h1)
      · rintro (h1 | h1 | h1)
        · exact .inr (.inl h1)
        · exact .inl h1
        · exact .inr (.inr h1)
    · split
      · rename_i h0
        have e := h.eq_of h0
        subst e
        simp
      · simp
theorem putG_strict (h : TOrd c) {l : List α} (hl : StrictL c l) (x : α) : StrictL c (putG c l x) := by
  induction l with
  | nil => simp [putG, StrictL]
  | cons y r ih =>
    have hl' := List.pairwise_cons.1 hl
    unfold putG
    split
    · rename_i h1
      refine List.pairwise_cons.2 ⟨fun z hz => ?_, ih hl'.2⟩
      rcases (putG_mem h r x z).1 hz with rfl | hz
      · exact h1
      · exact hl'.1 z hz
    · split
      · exact hl
      · rename_i h1 h2
        have h3 : c x y < 0 := by
          have := h.swap y x
          omega
        refine List.pairwise_cons.2 ⟨fun z hz => ?_, hl⟩
        rcases List.mem_cons.1 hz with rfl | hz
        · exact h3
        · exact h.lt_trans h3 (hl'.1 z hz)
/-- all below x so far -/
theorem putG_before {l : List α} {x : α} {k : Nat} (hk : k ≤ l.length) (h : ∀ y, y ∈ l.take k → c y x < 0) : putG c l x = l.take k ++ putG c (l.drop k) x := by
  induction l generalizing k with
  | nil => simp at hk; subst hk; simp
  | cons y r ih =>
    cases k with
    | zero => simp
    | succ k =>
      simp only [List.take_succ_cons, List.drop_succ_cons, List.cons_append]
      rw [← ih (by simpa using hk) fun z hz => h z (by rw [List.take_succ_cons]; exact List.mem_cons_of_mem _ hz)]
      rw [putG, if_pos (h y (by rw [List.take_succ_cons]; exact List.mem_cons_self))]
/-- the rising list of what a list holds -/
def setG (c : α → α → Int) (l : List α) : List α := l.foldl (putG c) []
theorem setG_gen (h : TOrd c) (l acc : List α) (ha : StrictL c acc) : StrictL c (l.foldl (putG c) acc) ∧ ∀ x, x ∈ l.foldl (putG c) acc ↔ x ∈ acc ∨ x ∈ l := by
  induction l generalizing acc with
  | nil => exact ⟨ha, fun x => by simp⟩
  | cons y r ih =>
    obtain ⟨h1, h2⟩ := ih (putG c acc y) (putG_strict h ha y)
    refine ⟨h1, fun x => ?_⟩
    rw [List.foldl_cons, h2, putG_mem h, List.mem_cons]
    constructor
    · rintro ((h3 | h3) | h3)
      · exact .inr (.inl h3)
      · exact .inl h3
      · exact .inr (.inr h3)
    · rintro (h3 | h3 | h3)
      · exact .inl (.inr h3)
      · exact .inl (.inl h3)
      · exact .inr h3
theorem setG_strict (h : TOrd c) (l : List α) : StrictL c (setG c l) := (setG_gen h l [] List.Pairwise.nil).1
theorem setG_mem (h : TOrd c) (l : List α) (x : α) : x ∈ setG c l ↔ x ∈ l := by
  have := (setG_gen h l [] List.Pairwise.nil).2 x
  simpa [setG] using this
theorem setG_eq (h : TOrd c) {l m : List α} (hm : StrictL c m) (he : ∀ x, x ∈ m ↔ x ∈ l) : setG c l = m :=
  strict_unique h (setG_strict h l) hm fun x => (setG_mem h l x).trans (he x).symm
theorem setG_comp [DecidableEq α] (h : TOrd c) {l m : List α} (hs : SortedL c m) (hp : ∀ x, x ∈ m ↔ x ∈ l) : comp m = setG c l :=
  (setG_eq h (comp_strict h hs) fun x => (comp_mem m x).trans (hp x)).symm
theorem setG_snoc (l : List α) (x : α) : setG c (l ++ [x]) = putG c (setG c l) x := by simp [setG, List.foldl_append]
theorem strict_nodup (h : TOrd c) {l : List α} (hl : StrictL c l) : l.Nodup := hl.imp fun h1 => h.ne_of_lt h1
theorem putG_len (l : List α) (x : α) : (putG c l x).length ≤ l.length + 1 := by
  induction l with
  | nil => simp [putG]
  | cons y r ih =>
    unfold putG
    split
    · simp; omega
    · split <;> simp
theorem setG_len (l : List α) : (setG c l).length ≤ l.length := by
  have : ∀ acc : List α, (l.foldl (putG c) acc).length ≤ acc.length + l.length := by
    induction l with
    | nil => intro acc; simp
    | cons y r ih =>
      intro acc
      have h1 := ih (putG c acc y)
      have h2 := putG_len (c := c) acc y
      simp only [List.foldl_cons, List.length_cons]
      omega
  simpa [setG] using this []
/-- where an element stands in a rising list: how many are below it -/
def idxG (c : α → α → Int) (l : List α) (x : α) : Nat := l.countP fun y => decide (c y x < 0)
theorem idxG_at (h : TOrd c) {l : List α} (hl : StrictL c l) {k : Nat} (hk : k < l.length) : idxG c l l[k] = k := by
  induction l generalizing k with
  | nil => simp at hk
  | cons y r ih =>
    have hl' := List.pairwise_cons.1 hl
    unfold idxG
    cases k with
    | zero =>
      simp only [List.getElem_cons_zero]
      rw [List.countP_eq_zero]
      intro z hz
      rcases List.mem_cons.1 hz with rfl | hz
      · have := h.self z; simp; omega
      · have := hl'.1 z hz; have := h.swap y z; simp; omega
    | succ k =>
      simp only [List.getElem_cons_succ]
      have hk' : k < r.length := by simpa using hk
      rw [List.countP_cons_of_pos (by simpa using hl'.1 _ (List.getElem_mem hk'))]
      have := ih hl'.2 hk'
      unfold idxG at this
      omega
theorem idxG_mem (h : TOrd c) {l : List α} (hl : StrictL c l) {x : α} (hx : x ∈ l) : idxG c l x < l.length ∧ l[idxG c l x]? = some x := by
  obtain ⟨k, hk, rfl⟩ := List.mem_iff_getElem.1 hx
  rw [idxG_at h hl hk]
  exact ⟨hk, List.getElem?_eq_getElem hk⟩
theorem idxG_inj (h : TOrd c) {l : List α} (hl : StrictL c l) {x y : α} (hx : x ∈ l) (hy : y ∈ l) (he : idxG c l x = idxG c l y) : x = y := by
  have h1 := (idxG_mem h hl hx).2
  have h2 := (idxG_mem h hl hy).2
  rw [he, h2] at h1
  injection h1 with h1
  exact h1.symm
end
/-! the order of numbers -/
theorem sgnI_ord : TOrd sgnI where
  eq_of := fun {x y} h => by
    rcases sgnI_cases x y with ⟨_, e⟩ | ⟨h', _⟩ | ⟨_, e⟩
    · omega
    · exact h'
    · omega
  self := fun x => by rcases sgnI_cases x x with ⟨h, e⟩ | ⟨_, e⟩ | ⟨h, e⟩ <;> omega
  swap := fun x y => by
    rcases sgnI_cases x y with ⟨h, e⟩ | ⟨h, e⟩ | ⟨h, e⟩ <;> rcases sgnI_cases y x with ⟨h', e'⟩ | ⟨h', e'⟩ | ⟨h', e'⟩ <;> omega
  trans := fun {x y z} h1 h2 => by
    rcases sgnI_cases x y with ⟨h, e⟩ | ⟨h, e⟩ | ⟨h, e⟩ <;> rcases sgnI_cases y z with ⟨h', e'⟩ | ⟨h', e'⟩ | ⟨h', e'⟩ <;> rcases sgnI_cases x z with ⟨h'', e''⟩ | ⟨h'', e''⟩ | ⟨h'', e''⟩ <;> omega
theorem srt_sorted (l : List Int) : SortedL sgnI (srt l) := (srt_le l).imp fun {x y} h => by
  rcases sgnI_cases x y with ⟨_, e⟩ | ⟨_, e⟩ | ⟨_, e⟩ <;> omega
theorem srt_mem (l : List Int) (x : Int) : x ∈ srt l ↔ x ∈ l := (srt_perm l).mem_iff
/-- what two lists with the same numbers, as often, are in order -/
theorem srt_unique {l m : List Int} (hp : m.Perm l) (hm : m.Pairwise fun x y => x ≤ y) : m = srt l :=
  (hp.trans (srt_perm l).symm).eq_of_pairwise (fun _ _ _ _ h1 h2 => Int.le_antisymm h1 h2) hm (srt_le l)
theorem srt_perm_eq {l m : List Int} (hp : m.Perm l) : srt m = srt l := srt_unique ((srt_perm m).trans hp) (srt_le m)

end Go.Proofs.YtkihflnenifcgaaGreatDoor
