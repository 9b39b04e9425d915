/- Orders that tell any two apart, sets as strictly rising lists. No program in sight. -/
import Derived.Test.YtkihflnenifcgaaGreatDoorZAH
import Derived.Test.YtkihflnenifcgaaGreatDoorZAE
import Derived.Test.YtkihflnenifcgaaGreatDoorZAF
import Derived.Deep.RegionHeld3
set_option linter.unusedVariables false
set_option linter.unusedSimpArgs false
namespace Go.Proofs.YtkihflnenifcgaaGreatDoor

theorem sgnI_cases (x y : Int) : (x < y ∧ sgnI x y = -1) ∨ (x = y ∧ sgnI x y = 0) ∨ (y < x ∧ sgnI x y = 1) := by
  unfold sgnI
  by_cases h1 : x < y
  · exact .inl ⟨h1, by rw [if_pos h1]⟩
  · by_cases h2 : y < x
    · exact .inr (.inr ⟨h2, by rw [if_neg h1, if_pos h2]⟩)
    · exact .inr (.inl ⟨by omega, by rw [if_neg h1, if_neg h2]⟩)
/-! orders that tell any two apart -/
structure TOrd {α : Type} (c : α → α → Int) : Prop where
  eq_of : ∀ {x y}, c x y = 0 → x = y
  self : ∀ x, c x x = 0
  swap : ∀ x y, c y x = - c x y
  trans : ∀ {x y z}, c x y ≤ 0 → c y z ≤ 0 → c x z ≤ 0
section
variable {α : Type} {c : α → α → Int}
theorem TOrd.lt_trans (h : TOrd c) {x y z : α} (h1 : c x y < 0) (h2 : c y z < 0) : c x z < 0 := by
  have h3 := h.trans (x := x) (y := y) (z := z) (by omega) (by omega)
  rcases Int.lt_or_eq_of_le h3 with h4 | h4
  · exact h4
  · have e := h.eq_of h4
    subst e
    have := h.swap x y
    omega
theorem TOrd.lt_of_lt_le (h : TOrd c) {x y z : α} (h1 : c x y < 0) (h2 : c y z ≤ 0) : c x z < 0 := by
  rcases Int.lt_or_eq_of_le h2 with h4 | h4
  · exact h.lt_trans h1 h4
  · have e := h.eq_of h4
    subst e
    exact h1
theorem TOrd.lt_of_le_lt (h : TOrd c) {x y z : α} (h1 : c x y ≤ 0) (h2 : c y z < 0) : c x z < 0 := by
  rcases Int.lt_or_eq_of_le h1 with h4 | h4
  · exact h.lt_trans h4 h2
  · have e := h.eq_of h4
    subst e
    exact h2
theorem TOrd.ne_of_lt (h : TOrd c) {x y : α} (h1 : c x y < 0) : x ≠ y := by
  rintro rfl
  have := h.self x
  omega
def StrictL (c : α → α → Int) (l : List α) : Prop := l.Pairwise fun x y => c x y < 0
def SortedL (c : α → α → Int) (l : List α) : Prop := l.Pairwise fun x y => c x y ≤ 0
theorem strict_unique (h : TOrd c) : ∀ {l m : List α}, StrictL c l → StrictL c m → (∀ x, x ∈ l ↔ x ∈ m) → l = m
  | [], [], _, _, _ => rfl
  | [], b :: m, _, _, hm => absurd ((hm b).2 List.mem_cons_self) (by simp)
  | a :: l, [], _, _, hm => absurd ((hm a).1 List.mem_cons_self) (by simp)
  | a :: l, b :: m, hl, hr, hm => by
    have hl' := List.pairwise_cons.1 hl
    have hr' := List.pairwise_cons.1 hr
    have e : a = b := by
      have h1 := (hm a).1 List.mem_cons_self
      have h2 := (hm b).2 List.mem_cons_self
      rcases List.mem_cons.1 h1 with h1 | h1
      · exact h1
      · rcases List.mem_cons.1 h2 with h2 | h2
        · exact h2.symm
        · have k1 := hr'.1 a h1
          have k2 := hl'.1 b h2
          have := h.swap a b
          omega
    subst e
    congr 1
    refine strict_unique h hl'.2 hr'.2 fun x => ⟨fun hx => ?_, fun hx => ?_⟩
    · rcases List.mem_cons.1 ((hm x).1 (List.mem_cons_of_mem _ hx)) with e | hx'
      · exact absurd e.symm (h.ne_of_lt (hl'.1 x hx))
      · exact hx'
    · rcases List.mem_cons.1 ((hm x).2 (List.mem_cons_of_mem _ hx)) with e | hx'
      · exact absurd e.symm (h.ne_of_lt (hr'.1 x hx))
      · exact hx'
/-- a list in order without repetitions -/
def comp [DecidableEq α] : List α → List α
  | [] => []
  | [x] => [x]
  | x :: y :: r => if x = y then comp (y :: r) else x :: comp (y :: r)
theorem comp_mem [DecidableEq α] (l : List α) (x : α) : x ∈ comp l ↔ x ∈ l := by
  induction l using comp.induct with
  | case1 => simp [comp]
  | case2 y => simp [comp]
  | case3 y r ih =>
    rw [comp, if_pos rfl, ih]
    simp
  | case4 y z r hne ih =>
    rw [comp, if_neg hne, List.mem_cons, ih]
    simp
theorem comp_strict [DecidableEq α] (h : TOrd c) {l : List α} (hs : SortedL c l) : StrictL c (comp l) := by
  induction l using comp.induct with
  | case1 => simp [comp, StrictL]
  | case2 y => simp [comp, StrictL]
  | case3 y r ih =>
    rw [comp, if_pos rfl]
    exact ih (List.pairwise_cons.1 hs).2
  | case4 y z r hne ih =>
    rw [comp, if_neg hne]
    have hs' := List.pairwise_cons.1 hs
    refine List.pairwise_cons.2 ⟨fun x hx => ?_, ih hs'.2⟩
    have hx := (comp_mem _ _).1 hx
    have hyz : c y z < 0 := by
      have := hs'.1 z List.mem_cons_self
      rcases Int.lt_or_eq_of_le this with h4 | h4
      · exact h4
      · exact absurd (h.eq_of h4) hne
    rcases List.mem_cons.1 hx with rfl | hx
    · exact hyz
    · exact h.lt_of_lt_le hyz ((List.pairwise_cons.1 hs'.2).1 x hx)
/-- an element put to its place among rising ones, once -/
def putG (c : α → α → Int) : List α → α → List α
  | [], x => [x]
  | y :: r, x => if c y x < 0 then y :: putG c r x else if c y x = 0 then y :: r else x :: y :: r
theorem putG_mem (h : TOrd c) (l : List α) (x z : α) : z ∈ putG c l x ↔ z = x ∨ z ∈ l := by
  induction l with
  | nil => simp [putG]
  | cons y r ih =>
    unfold putG
    split
    · rw [List.mem_cons, ih, List.mem_cons]
      constructor
      · rintro (h1 | h1 | h1)
        · exact .inr (.inl h1)
        · exact .inl h1
        · exact .inr (.inr h1)
      · rintro (h1 | h1 | h1)
        · exact .inr (.inl h1)
        · exact .inl h1
        · exact .inr (.inr h1)
    · split
      · rename_i h0
        have e := h.eq_of h0
        subst e
        simp
      · simp
theorem putG_strict (h : TOrd c) {l : List α} (hl : StrictL c l) (x : α) : StrictL c (putG c l x) := by
  induction l with
  | nil => simp [putG, StrictL]
  | cons y r ih =>
    have hl' := List.pairwise_cons.1 hl
    unfold putG
    split
    · rename_i h1
      refine List.pairwise_cons.2 ⟨fun z hz => ?_, ih hl'.2⟩
      rcases (putG_mem h r x z).1 hz with rfl | hz
      · exact h1
      · exact hl'.1 z hz
    · split
      · exact hl
      · rename_i h1 h2
        have h3 : c x y < 0 := by
          have := h.swap y x
          omega
        refine List.pairwise_cons.2 ⟨fun z hz => ?_, hl⟩
        rcases List.mem_cons.1 hz with rfl | hz
        · exact h3
        · exact h.lt_trans h3 (hl'.1 z hz)
/-- all below x so far -/
theorem putG_before {l : List α} {x : α} {k : Nat} (hk : k ≤ l.length) (h : ∀ y, y ∈ l.take k → c y x < 0) : putG c l x = l.take k ++ putG c (l.drop k) x := by
  induction l generalizing k with
  | nil => simp at hk; subst hk; simp
  | cons y r ih =>
    cases k with
    | zero => simp
    | succ k =>
      simp only [List.take_succ_cons, List.drop_succ_cons, List.cons_append]
      rw [← ih (by simpa using hk) fun z hz => h z (by rw [List.take_succ_cons]; exact List.mem_cons_of_mem _ hz)]
      rw [putG, if_pos (h y (by rw [List.take_succ_cons]; exact List.mem_cons_self))]
/-- the rising list of what a list holds -/
def setG (c : α → α → Int) (l : List α) : List α := l.foldl (putG c) []
theorem setG_gen (h : TOrd c) (l acc : List α) (ha : StrictL c acc) : StrictL c (l.foldl (putG c) acc) ∧ ∀ x, x ∈ l.foldl (putG c) acc ↔ x ∈ acc ∨ x ∈ l := by
  induction l generalizing acc with
  | nil => exact ⟨ha, fun x => by simp⟩
  | cons y r ih =>
    obtain ⟨h1, h2⟩ := ih (putG c acc y) (putG_strict h ha y)
    refine ⟨h1, fun x => ?_⟩
    rw [List.foldl_cons, h2, putG_mem h, List.mem_cons]
    constructor
    · rintro ((h3 | h3) | h3)
      · exact .inr (.inl h3)
      · exact .inl h3
      · exact .inr (.inr h3)
    · rintro (h3 | h3 | h3)
      · exact .inl (.inr h3)
      · exact .inl (.inl h3)
      · exact .inr h3
theorem setG_strict (h : TOrd c) (l : List α) : StrictL c (setG c l) := (setG_gen h l [] List.Pairwise.nil).1
theorem setG_mem (h : TOrd c) (l : List α) (x : α) : x ∈ setG c l ↔ x ∈ l := by
  have := (setG_gen h l [] List.Pairwise.nil).2 x
  simpa [setG] using this
theorem setG_eq (h : TOrd c) {l m : List α} (hm : StrictL c m) (he : ∀ x, x ∈ m ↔ x ∈ l) : setG c l = m :=
  strict_unique h (setG_strict h l) hm fun x => (setG_mem h l x).trans (he x).symm
theorem setG_comp [DecidableEq α] (h : TOrd c) {l m : List α} (hs : SortedL c m) (hp : ∀ x, x ∈ m ↔ x ∈ l) : comp m = setG c l :=
  (setG_eq h (comp_strict h hs) fun x => (comp_mem m x).trans (hp x)).symm
theorem setG_snoc (l : List α) (x : α) : setG c (l ++ [x]) = putG c (setG c l) x := by simp [setG, List.foldl_append]
theorem strict_nodup (h : TOrd c) {l : List α} (hl : StrictL c l) : l.Nodup := hl.imp fun h1 => h.ne_of_lt h1
theorem putG_len (l : List α) (x : α) : (putG c l x).length ≤ l.length + 1 := by
  induction l with
  | nil => simp [putG]
  | cons y r ih =>
    unfold putG
    split
    · simp; omega
    · split <;> simp
theorem setG_len (l : List α) : (setG c l).length ≤ l.length := by
  have : ∀ acc : List α, (l.foldl (putG c) acc).length ≤ acc.length + l.length := by
    induction l with
    | nil => intro acc; simp
    | cons y r ih =>
      intro acc
      have h1 := ih (putG c acc y)
      have h2 := putG_len (c := c) acc y
      simp only [List.foldl_cons, List.length_cons]
      omega
  simpa [setG] using this []
/-- where an element stands in a rising list: how many are below it -/
def idxG (c : α → α → Int) (l : List α) (x : α) : Nat := l.countP fun y => decide (c y x < 0)
theorem idxG_at (h : TOrd c) {l : List α} (hl : StrictL c l) {k : Nat} (hk : k < l.length) : idxG c l l[k] = k := by
  induction l generalizing k with
  | nil => simp at hk
  | cons y r ih =>
    have hl' := List.pairwise_cons.1 hl
    unfold idxG
    cases k with
    | zero =>
      simp only [List.getElem_cons_zero]
      rw [List.countP_eq_zero]
      intro z hz
      rcases List.mem_cons.1 hz with rfl | hz
      · have := h.self z; simp; omega
      · have := hl'.1 z hz; have := h.swap y z; simp; omega
    | succ k =>
      simp only [List.getElem_cons_succ]
      have hk' : k < r.length := by simpa using hk
      rw [List.countP_cons_of_pos (by simpa using hl'.1 _ (List.getElem_mem hk'))]
      have := ih hl'.2 hk'
      unfold idxG at this
      omega
theorem idxG_mem (h : TOrd c) {l : List α} (hl : StrictL c l) {x : α} (hx : x ∈ l) : idxG c l x < l.length ∧ l[idxG c l x]? = some x := by
  obtain ⟨k, hk, rfl⟩ := List.mem_iff_getElem.1 hx
  rw [idxG_at h hl hk]
  exact ⟨hk, List.getElem?_eq_getElem hk⟩
theorem idxG_inj (h : TOrd c) {l : List α} (hl : StrictL c l) {x y : α} (hx : x ∈ l) (hy : y ∈ l) (he : idxG c l x = idxG c l y) : x = y := by
  have h1 := (idxG_mem h hl hx).2
  have h2 := (idxG_mem h hl hy).2
  rw [he, h2] at h1
  injection h1 with h1
  exact h1.symm
end
/-! the order of numbers -/
theorem sgnI_ord : TOrd sgnI where
  eq_of := fun {x y} h => by
    rcases sgnI_cases x y with ⟨_, e⟩ | ⟨h', _⟩ | ⟨_, e⟩
    · omega
    · exact h'
    · omega
  self := fun x => by rcases sgnI_cases x x with ⟨h, e⟩ | ⟨_, e⟩ | ⟨h, e⟩ <;> omega
  swap := fun x y => by
    rcases sgnI_cases x y with ⟨h, e⟩ | ⟨h, e⟩ | ⟨h, e⟩ <;> rcases sgnI_cases y x with ⟨h', e'⟩ | ⟨h', e'⟩ | ⟨h', e'⟩ <;> omega
  trans := fun {x y z} h1 h2 => by
    rcases sgnI_cases x y with ⟨h, e⟩ | ⟨h, e⟩ | ⟨h, e⟩ <;> rcases sgnI_cases y z with ⟨h', e'⟩ | ⟨h', e'⟩ | ⟨h', e'⟩ <;> rcases sgnI_cases x z with ⟨h'', e''⟩ | ⟨h'', e''⟩ | ⟨h'', e''⟩ <;> omega
theorem srt_sorted (l : List Int) : SortedL sgnI (srt l) := (srt_le l).imp fun {x y} h => by
  rcases sgnI_cases x y with ⟨_, e⟩ | ⟨_, e⟩ | ⟨_, e⟩ <;> omega
theorem srt_mem (l : List Int) (x : Int) : x ∈ srt l ↔ x ∈ l := (srt_perm l).mem_iff
/-- what two lists with the same numbers, as often, are in order -/
theorem srt_unique {l m : List Int} (hp : m.Perm l) (hm : m.Pairwise fun x y => x ≤ y) : m = srt l :=
  (hp.trans (srt_perm l).symm).eq_of_pairwise (fun _ _ _ _ h1 h2 => Int.le_antisymm h1 h2) hm (srt_le l)
theorem srt_perm_eq {l m : List Int} (hp : m.Perm l) : srt m = srt l := srt_unique ((srt_perm m).trans hp) (srt_le m)

end Go.Proofs.YtkihflnenifcgaaGreatDoor
/- Graphs: whether one is valid, on both sides. No condition beyond those stated. -/
namespace Go.Proofs.YtkihflnenifcgaaGreatDoor
open Go.RowKit

def orI (x y : Int) : Int := if x = 0 then y else x
def cmpE (a b : Ed) : Int := orI (sgnI a.1 b.1) (sgnI a.2 b.2)
def lessE (a b : Ed) : Prop := a.1 < b.1 ∨ (a.1 = b.1 ∧ a.2 < b.2)
theorem cmpE_neg (a b : Ed) : cmpE a b < 0 ↔ lessE a b := by
  unfold cmpE orI lessE
  rcases sgnI_cases a.1 b.1 with ⟨h, e⟩ | ⟨h, e⟩ | ⟨h, e⟩ <;> rcases sgnI_cases a.2 b.2 with ⟨h', e'⟩ | ⟨h', e'⟩ | ⟨h', e'⟩ <;> rw [e, e'] <;> simp <;> omega
structure GraphOk (cs : List Int) (es : List Ed) : Prop where
  clen : cs.length ≤ 64
  elen : es.length ≤ 512
  col : ∀ k, k < cs.length → 0 ≤ nth cs k ∧ nth cs k ≤ 63
  edge : ∀ i, i < es.length → 0 ≤ (nthE es i).1 ∧ (nthE es i).1 < (nthE es i).2 ∧ (nthE es i).2 < cs.length
  ord : ∀ i, i + 1 < es.length → lessE (nthE es i) (nthE es (i + 1))
set_option maxHeartbeats 400000 in
theorem cmpOr_any (g c : Nat) (x y : Int) (w : World) (h0 : w.cell? ⟨g, 0, none⟩ = some (.int .i64 x)) (h1 : w.cell? ⟨g, 1, none⟩ = some (.int .i64 y)) :
    Calls Tryz.prog 76 #[.slice (some ⟨g, 0, none⟩) 2 c] w fun e w' => e = .returned (.int .i64 (orI x y)) ∧ w = w' := by
  by_cases hx : x = 0
  · have hx' : (x != 0) = false := by simp [hx]
    have HX := Lib.hid (show orI x y = y by rw [orI, if_pos hx])
    by_cases hy : y = 0
    · have hy' : (y != 0) = false := by simp [hy]
      have HY := Lib.hid hy
      clear hx hy
      go_enter Tryz.func76, Tryz.ntmps76
      go_wp2
      go_loop [8] (fun i => ∃ k : Nat, k ≤ 2 ∧ i = .int .i64 k) (fun i => 2 - (intOf i).toNat)
      case atStart => exact ⟨0, by omega, rfl⟩
      case round =>
        obtain ⟨k, hk, rfl⟩ := hrel
        have : k = 0 ∨ k = 1 ∨ k = 2 := by omega
        rcases this with rfl | rfl | rfl
        · go_wp2
          go_round
          case rel => exact ⟨1, by omega, by go_num⟩
          case measure => simp [intOf]
        · go_wp2
          go_round
          case rel => exact ⟨2, by omega, by go_num⟩
          case measure => simp [intOf]
        · go_wp2
          go_ret
          exact ⟨by rw [HX.out, HY.out]; rfl, rfl⟩
    · have hy' : (y != 0) = true := by simp [hy]
      clear hx hy
      go_enter Tryz.func76, Tryz.ntmps76
      go_wp2
      go_loop [8] (fun i => ∃ k : Nat, k ≤ 1 ∧ i = .int .i64 k) (fun i => 2 - (intOf i).toNat)
      case atStart => exact ⟨0, by omega, rfl⟩
      case round =>
        obtain ⟨k, hk, rfl⟩ := hrel
        have : k = 0 ∨ k = 1 := by omega
        rcases this with rfl | rfl
        · go_wp2
          go_round
          case rel => exact ⟨1, by omega, by go_num⟩
          case measure => simp [intOf]
        · go_wp2
          go_ret
          exact ⟨by rw [HX.out]; rfl, rfl⟩
  · have hx' : (x != 0) = true := by simp [hx]
    have HX := Lib.hid (show orI x y = x by rw [orI, if_neg hx])
    clear hx
    go_enter Tryz.func76, Tryz.ntmps76
    go_wp2
    go_loop [8] (fun i => i = .int .i64 ((0 : Nat) : Int)) (fun i => 2 - (intOf i).toNat)
    case atStart => rfl
    case round =>
      obtain rfl := hrel
      go_wp2
      go_ret
      exact ⟨by rw [HX.out]; rfl, rfl⟩
theorem keep4 {W w' : World} {p1 p2 p3 p4 : Addr} {u1 u2 u3 u4 : Value} (hb : Below W.heap.size W w') (h1 : W.cell? p1 = some u1) (h2 : W.cell? p2 = some u2) (h3 : W.cell? p3 = some u3) (h4 : W.cell? p4 = some u4) :
    Below W.heap.size W w' ∧ w'.cell? p1 = some u1 ∧ w'.cell? p2 = some u2 ∧ w'.cell? p3 = some u3 ∧ w'.cell? p4 = some u4 := ⟨hb, below_cell hb h1, below_cell hb h2, below_cell hb h3, below_cell hb h4⟩
set_option maxHeartbeats 1000000 in
theorem compareEdges_any (a b c d : Int) (w : World) (ia : I64 a) (ib : I64 b) (ic : I64 c) (id : I64 d) :
    Calls Tryz.prog 48 #[.agg #[.int .i64 a, .int .i64 b], .agg #[.int .i64 c, .int .i64 d]] w fun e w' => e = .returned (.int .i64 (cmpE (a, b) (c, d))) ∧ Below w.heap.size w w' := by
  have hb1 := below_then (below_alloc w (.cells #[.int .i64 a, .int .i64 b] 65)) (below_alloc (w.alloc (.cells #[.int .i64 a, .int .i64 b] 65)) (.cells #[.int .i64 c, .int .i64 d] 65))
  have X := (Blk.new w 65 #[.int .i64 a, .int .i64 b]).alloc (.cells #[.int .i64 c, .int .i64 d] 65)
  have Y : Blk ((w.alloc (.cells #[.int .i64 a, .int .i64 b] 65)).alloc (.cells #[.int .i64 c, .int .i64 d] 65)) (w.heap.size + 1) 65 #[.int .i64 c, .int .i64 d] := by
    have := Blk.new (w.alloc (.cells #[.int .i64 a, .int .i64 b] 65)) 65 #[.int .i64 c, .int .i64 d]
    simpa using this
  have H := Lib.hid (show orI (sgnI a c) (sgnI b d) = cmpE (a, b) (c, d) from rfl)
  go_enter Tryz.func48, Tryz.ntmps48
  go_wp2
  generalize hW : (w.alloc (.cells #[.int .i64 a, .int .i64 b] 65)).alloc (.cells #[.int .i64 c, .int .i64 d] 65) = W at *
  clear hW
  obtain ⟨x0, x1⟩ := X.cells2
  obtain ⟨y0, y1⟩ := Y.cells2
  go_region_held3 (fun w' => Below W.heap.size W w' ∧ w'.cell? ⟨w.heap.size, 0, none⟩ = some (.int .i64 a) ∧ w'.cell? ⟨w.heap.size, 1, none⟩ = some (.int .i64 b) ∧ w'.cell? ⟨w.heap.size + 1, 0, none⟩ = some (.int .i64 c) ∧ w'.cell? ⟨w.heap.size + 1, 1, none⟩ = some (.int .i64 d))
    (first | exact keep4 (below_drewn _ 1) x0 x1 y0 y1 | exact keep4 ((below_alloc W _).trans (below_drewn' _ _ 1)) x0 x1 y0 y1)
    (first
      | (go_at_call 77; (with_reducible refine (cmpCompare_any a c _).mono ?_); rintro e w2 ⟨rfl, rfl⟩)
      | (go_at_call 77; (with_reducible refine (cmpCompare_any b d _).mono ?_); rintro e w2 ⟨rfl, rfl⟩)
      | (go_at_call 76; (with_reducible refine (cmpOr_any _ _ (sgnI a c) (sgnI b d) _ ?_ ?_).mono ?_); (exact Blk.cell (Blk.new _ _ _) 0); (exact Blk.cell (Blk.new _ _ _) 1); rintro e w3 ⟨rfl, rfl⟩))
  have hw : Below w.heap.size w (W.alloc (.cells #[.int .i64 (sgnI a c), .int .i64 (sgnI b d)] 3)).drew := below_then hb1 ((below_alloc W _).trans (below_drewn' _ _ 1))
  go_wp2
  go_ret
  exact ⟨by rw [← H.out]; rfl, hw⟩
set_option maxHeartbeats 1000000 in
theorem l21Less_any (a b c d : Int) (w : World) :
    Calls Tryz.prog 90 #[.agg #[.int .i64 a, .int .i64 b], .agg #[.int .i64 c, .int .i64 d]] w fun e w' => e = .returned (.bool (tB (lessE (a, b) (c, d)))) ∧ Below w.heap.size w w' := by
  have hb1 := below_then (below_alloc w (.cells #[.int .i64 a, .int .i64 b] 65)) (below_alloc (w.alloc (.cells #[.int .i64 a, .int .i64 b] 65)) (.cells #[.int .i64 c, .int .i64 d] 65))
  by_cases h1 : a < c
  · have H := Lib.hid (show tB (lessE (a, b) (c, d)) = true from tB_yes (.inl h1))
    go_enter Tryz.func90, Tryz.ntmps90
    go_wp2
    go_ret
    exact ⟨by rw [H.out]; rfl, hb1⟩
  · by_cases h2 : a = c
    · have h2' : (a == c) = true := by simp [h2]
      by_cases h3 : b < d
      · have H := Lib.hid (show tB (lessE (a, b) (c, d)) = true from tB_yes (.inr ⟨h2, h3⟩))
        clear h2
        go_enter Tryz.func90, Tryz.ntmps90
        go_wp2
        go_ret
        exact ⟨by rw [H.out]; exact ret_bool (by first | (simp; done) | (simp; omega) | simp [h3]), hb1⟩
      · have H := Lib.hid (show tB (lessE (a, b) (c, d)) = false from tB_no fun h => by
          rcases h with h | ⟨_, h⟩
          · exact h1 h
          · exact h3 h)
        clear h2
        go_enter Tryz.func90, Tryz.ntmps90
        go_wp2
        go_ret
        exact ⟨by rw [H.out]; exact ret_bool (by first | (simp; done) | (simp; omega)), hb1⟩
    · have h2' : (a == c) = false := by simp [h2]
      have H := Lib.hid (show tB (lessE (a, b) (c, d)) = false from tB_no fun h => by
        rcases h with h | ⟨h, _⟩
        · exact h1 h
        · exact h2 h)
      clear h2
      go_enter Tryz.func90, Tryz.ntmps90
      go_wp2
      go_ret
      exact ⟨by rw [H.out]; rfl, hb1⟩

def colB (x : Int) : Bool := !inB x 0 63
def colsOk (cs : List Int) : Prop := cs.length ≤ 64 ∧ ∀ k, k < cs.length → 0 ≤ nth cs k ∧ nth cs k ≤ 63
theorem colB_any (cs : List Int) : (!cs.any colB) = tB (∀ k, k < cs.length → 0 ≤ nth cs k ∧ nth cs k ≤ 63) := by
  cases h : cs.any colB with
  | true =>
    obtain ⟨x, hx, hb⟩ := List.any_eq_true.1 h
    obtain ⟨k, hk, rfl⟩ := List.mem_iff_getElem.1 hx
    rw [tB_no (p := ∀ k, k < cs.length → 0 ≤ nth cs k ∧ nth cs k ≤ 63) fun hh => ?_]
    · rfl
    · have := hh k hk
      rw [nth_get hk] at this
      rw [colB, inB_mk this] at hb
      cases hb
  | false =>
    rw [tB_yes (p := ∀ k, k < cs.length → 0 ≤ nth cs k ∧ nth cs k ≤ 63) fun i hi => ?_]
    · rfl
    · rw [List.any_eq_false] at h
      have := h cs[i] (List.getElem_mem hi)
      rw [nth_get hi]
      exact inB_true (by simpa [colB] using this)
set_option maxHeartbeats 400000 in
theorem areColors1_any (x : Int) (w : World) : Calls Tryz.prog 78 #[.int .i64 x] w fun e w' => e = .returned (.bool (colB x)) ∧ w = w' := by
  have hc : Calls Tryz.prog 79 #[.int .i64 x] w fun e w' => e = .returned (.bool (inB x 0 63)) ∧ w = w' := by
    go_enter Tryz.func79, Tryz.ntmps79
    go_wp2_with (go_at_call 57; refine (within_any _ _ _ _).mono ?_; rintro e w' ⟨rfl, rfl⟩)
    go_ret
    exact ⟨rfl, rfl⟩
  go_enter Tryz.func78, Tryz.ntmps78
  go_wp2_with (go_at_call 79; refine hc.mono ?_; rintro e w' ⟨rfl, rfl⟩)
  go_ret
  exact ⟨rfl, rfl⟩
set_option maxHeartbeats 400000 in
theorem areColors_any (A : Option Addr) (n c : Nat) (cs : List Int) (w : World) (ha : RI w A n cs) (hn : n ≤ 9223372036854775807) :
    Calls Tryz.prog 49 #[.slice A n c] w fun e w' => e = .returned (.bool (tB (colsOk cs))) ∧ w = w' := by
  have hla := Lib.hid ha.len
  have eg : ∀ (args : Array Value) (w : World), (callFunc 78 args).run Tryz.prog w = .ok (.enter 78 args) w := fun _ _ => by kernel_rfl
  have hask : AskIq 78 #[] colB w := fun x _ => areColors1_any x w
  by_cases h0 : n ≤ 64
  · have H := Lib.hid (show (!cs.any colB) = tB (colsOk cs) by
      rw [colB_any]
      exact tB_congr ⟨fun h => ⟨by rw [hla.out]; exact h0, h⟩, fun h => h.2⟩)
    go_enter Tryz.func49, Tryz.ntmps49
    go_wp2_with (go_at_call 55; refine (containsFuncIq _ _ eg colB A n c cs _ ha hn hask).mono ?_; rintro e w1 ⟨rfl, rfl⟩)
    go_ret
    exact ⟨by rw [← H.out]; rfl, rfl⟩
  · have H := Lib.hid (show tB (colsOk cs) = false from tB_no fun h => h0 (by have := h.1; rw [hla.out] at this; exact this))
    go_enter Tryz.func49, Tryz.ntmps49
    go_wp2
    go_ret
    exact ⟨by rw [H.out]; rfl, rfl⟩
set_option maxHeartbeats 1000000 in
theorem l21Colors_any (A : Option Addr) (n c : Nat) (cs : List Int) (w : World) (ha : RI w A n cs) (hn : n ≤ 9223372036854775807) :
    Calls Tryz.prog 88 #[.slice A n c] w fun e w' => e = .returned (.bool (tB (colsOk cs))) ∧ w = w' := by
  have hla := Lib.hid ha.len
  by_cases h0 : n ≤ 64
  · go_enter Tryz.func88, Tryz.ntmps88
    go_wp2
    go_loop [3] (fun i => ∃ k : Nat, k ≤ n ∧ i = .int .i64 k ∧ ∀ j, j < k → 0 ≤ nth cs j ∧ nth cs j ≤ 63) (fun i => n - (intOf i).toNat)
    case atStart => exact ⟨0, Nat.zero_le _, rfl, fun _ h => absurd h (by omega)⟩
    case round =>
      obtain ⟨k, hk, rfl, hto⟩ := hrel
      by_cases hlt : k < n
      · obtain ⟨a, rfl, hca, hia⟩ := ha.get hlt
        cases h1 : inB (nth cs k) 0 63 with
        | true =>
          have H := Lib.hid (show ∀ j, j < k + 1 → 0 ≤ nth cs j ∧ nth cs j ≤ 63 from fun j hj => by
            rcases Nat.lt_succ_iff_lt_or_eq.1 hj with h' | h'
            · exact hto j h'
            · rw [h']; exact inB_true h1)
          clear hto
          go_wp2_with (go_at_call 89; refine (l00In_any _ _ _ _).mono ?_; rintro e w' ⟨rfl, rfl⟩; rw [h1])
          go_round
          case rel => exact ⟨k + 1, by omega, by go_num, H.out⟩
          case measure => simp [intOf]; omega
        | false =>
          have H := Lib.hid (show tB (colsOk cs) = false from tB_no fun h => by
            rw [inB_mk (h.2 k (by rw [hla.out]; exact hlt))] at h1; cases h1)
          clear hto
          go_wp2_with (go_at_call 89; refine (l00In_any _ _ _ _).mono ?_; rintro e w' ⟨rfl, rfl⟩; rw [h1])
          go_ret
          exact ⟨by rw [H.out]; rfl, rfl⟩
      · have H := Lib.hid (show tB (colsOk cs) = true from tB_yes ⟨by rw [hla.out]; exact h0, by rw [hla.out]; rwa [show k = n by omega] at hto⟩)
        clear hto
        go_wp2
        go_ret
        exact ⟨by rw [H.out]; rfl, rfl⟩
  · have H := Lib.hid (show tB (colsOk cs) = false from tB_no fun h => h0 (by have := h.1; rw [hla.out] at this; exact this))
    go_enter Tryz.func88, Tryz.ntmps88
    go_wp2
    go_ret
    exact ⟨by rw [H.out]; rfl, rfl⟩
end Go.Proofs.YtkihflnenifcgaaGreatDoor
