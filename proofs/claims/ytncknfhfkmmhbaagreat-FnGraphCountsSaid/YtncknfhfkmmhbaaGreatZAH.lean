/- Lists compared, and rising lists, on both sides. No condition beyond those stated. -/
import Derived.Test.YtncknfhfkmmhbaaGreatZAG
import Derived.Test.YtncknfhfkmmhbaaGreatZAE
set_option linter.unusedVariables false
set_option linter.unusedSimpArgs false
namespace Go.Proofs.YtncknfhfkmmhbaaGreat
open Go.RowKit

def sgnI (x y : Int) : Int := if x < y then -1 else if y < x then 1 else 0
set_option maxHeartbeats 400000 in
theorem isNaN_any (x : Int) (w : World) : Calls Tryz.prog 70 #[.int .i64 x] w fun e w' => e = .returned (.bool false) ∧ w = w' := by
  go_enter Tryz.func70, Tryz.ntmps70
  go_wp2
  go_ret
  exact ⟨ret_bool (by simp), rfl⟩
set_option maxHeartbeats 400000 in
theorem cmpCompare_any (x y : Int) (w : World) : Calls Tryz.prog 44 #[.int .i64 x, .int .i64 y] w fun e w' => e = .returned (.int .i64 (sgnI x y)) ∧ w = w' := by
  by_cases h1 : x < y
  · have H := Lib.hid (show sgnI x y = -1 by simp [sgnI, h1])
    go_enter Tryz.func44, Tryz.ntmps44
    go_wp2_with (go_at_call 70; refine (isNaN_any _ _).mono ?_; rintro e w' ⟨rfl, rfl⟩)
    go_ret
    exact ⟨by rw [H.out]; rfl, rfl⟩
  · by_cases h2 : y < x
    · have H := Lib.hid (show sgnI x y = 1 by simp [sgnI, h1, h2])
      have h1' : y ≤ x := by omega
      go_enter Tryz.func44, Tryz.ntmps44
      go_wp2_with (go_at_call 70; refine (isNaN_any _ _).mono ?_; rintro e w' ⟨rfl, rfl⟩)
      go_ret
      exact ⟨by rw [H.out]; rfl, rfl⟩
    · have H := Lib.hid (show sgnI x y = 0 by simp [sgnI, h1, h2])
      go_enter Tryz.func44, Tryz.ntmps44
      go_wp2_with (go_at_call 70; refine (isNaN_any _ _).mono ?_; rintro e w' ⟨rfl, rfl⟩)
      go_ret
      exact ⟨by rw [H.out]; rfl, rfl⟩
set_option maxHeartbeats 1000000 in
theorem slicesCompare_any (A B : Option Addr) (n m c d : Nat) (xs ys : List Int) (w : World) (ha : RI w A n xs) (hb : RI w B m ys) (hn : n ≤ 9223372036854775807) (hm : m ≤ 9223372036854775807) :
    Calls Tryz.prog 25 #[.slice A n c, .slice B m d] w fun e w' => e = .returned (.int .i64 (cmpL xs ys)) ∧ w = w' := by
  have hla := Lib.hid ha.len
  have hlb := Lib.hid hb.len
  go_enter Tryz.func25, Tryz.ntmps25
  go_wp2
  go_loop [11] (fun i => ∃ k : Nat, k ≤ n ∧ i = .int .i64 k ∧ agree xs ys k) (fun i => n - (intOf i).toNat)
  case atStart => exact ⟨0, Nat.zero_le _, rfl, agree_zero _ _⟩
  case round =>
    obtain ⟨k, hk, rfl, hag⟩ := hrel
    by_cases hlt : k < n
    · obtain ⟨a, rfl, hca, hia⟩ := ha.get hlt
      by_cases hltm : k < m
      · obtain ⟨b, rfl, hcb, hib⟩ := hb.get hltm
        have l1 : k < xs.length := by rw [hla.out]; exact hlt
        have l2 : k < ys.length := by rw [hlb.out]; exact hltm
        by_cases h1 : nth xs k < nth ys k
        · have H := Lib.hid (cmpL_lt hag l1 l2 h1)
          have HS := Lib.hid (show sgnI (nth xs k) (nth ys k) = -1 by simp [sgnI, h1])
          clear hag h1 l1 l2
          go_wp2_with (go_at_call 44; refine (cmpCompare_any _ _ _).mono ?_; rintro e w' ⟨rfl, rfl⟩; rw [HS.out])
          go_ret
          exact ⟨by rw [H.out]; rfl, rfl⟩
        · by_cases h2 : nth ys k < nth xs k
          · have H := Lib.hid (cmpL_gt hag l1 l2 h2)
            have HS := Lib.hid (show sgnI (nth xs k) (nth ys k) = 1 by simp [sgnI, h1, h2])
            clear hag h1 h2 l1 l2
            go_wp2_with (go_at_call 44; refine (cmpCompare_any _ _ _).mono ?_; rintro e w' ⟨rfl, rfl⟩; rw [HS.out])
            go_ret
            exact ⟨by rw [H.out]; rfl, rfl⟩
          · have H := Lib.hid (agree_step hag l1 l2 (by omega))
            have HS := Lib.hid (show sgnI (nth xs k) (nth ys k) = 0 by simp [sgnI, h1, h2])
            clear hag h1 h2 l1 l2
            go_wp2_with (go_at_call 44; refine (cmpCompare_any _ _ _).mono ?_; rintro e w' ⟨rfl, rfl⟩; rw [HS.out])
            go_round
            case rel => exact ⟨k + 1, by omega, by go_num, H.out⟩
            case measure => simp [intOf]; omega
      · have hkm : m ≤ k := by omega
        have H := Lib.hid (show cmpL xs ys = 1 by
          have : k = m := by have := hag.2.1; rw [hlb.out] at this; omega
          refine cmpL_long ?_ (by rw [hla.out, hlb.out]; omega)
          rw [hlb.out, ← this]; exact hag)
        clear hag
        go_wp2
        go_ret
        exact ⟨by rw [H.out]; rfl, rfl⟩
    · obtain rfl : k = n := by omega
      by_cases hltm : k < m
      · have H := Lib.hid (show cmpL xs ys = -1 from cmpL_short (by rw [hla.out]; exact hag) (by rw [hla.out, hlb.out]; exact hltm))
        clear hag
        go_wp2
        go_ret
        exact ⟨by rw [H.out]; rfl, rfl⟩
      · have hkm : m ≤ k := by omega
        have H := Lib.hid (show cmpL xs ys = 0 from cmpL_same (by rw [hla.out]; exact hag) (by rw [hla.out, hlb.out]; have := hag.2.1; rw [hlb.out] at this; omega))
        clear hag
        go_wp2
        go_ret
        exact ⟨by rw [H.out]; rfl, rfl⟩

/-- the first k places rise -/
def risesTo (z : List Int) (lo hi : Int) (k : Nat) : Prop := (∀ j, j < k → lo ≤ nth z j ∧ nth z j ≤ hi) ∧ ∀ j, j + 1 < k → nth z j < nth z (j + 1)
theorem risesTo_zero (z : List Int) (lo hi : Int) : risesTo z lo hi 0 := ⟨fun _ h => absurd h (by omega), fun _ h => absurd h (by omega)⟩
theorem risesTo_step {z : List Int} {lo hi : Int} {k : Nat} (h : risesTo z lo hi k) (h1 : lo ≤ nth z k ∧ nth z k ≤ hi) (h2 : 0 < k → nth z (k - 1) < nth z k) : risesTo z lo hi (k + 1) :=
  ⟨fun j hj => by
    rcases Nat.lt_succ_iff_lt_or_eq.1 hj with h' | h'
    · exact h.1 j h'
    · rw [h']; exact h1,
   fun j hj => by
    rcases Nat.lt_succ_iff_lt_or_eq.1 hj with h' | h'
    · exact h.2 j h'
    · have := h2 (by omega)
      have e : k = j + 1 := h'.symm
      subst e
      simpa using this⟩
theorem risesTo_all {z : List Int} {lo hi : Int} {k : Nat} (hk : z.length = k) (h : risesTo z lo hi k) : Rises z lo hi := ⟨by rw [hk]; exact h.1, by rw [hk]; exact h.2⟩
end Go.Proofs.YtncknfhfkmmhbaaGreat
/- Orders that tell any two apart, sets as strictly rising lists. No program in sight. -/
namespace Go.Proofs.YtncknfhfkmmhbaaGreat

theorem sgnI_cases (x y : Int) : (x < y ∧ sgnI x y = -1) ∨ (x = y ∧ sgnI x y = 0) ∨ (y < x ∧ sgnI x y = 1) := by
  unfold sgnI
  by_cases h1 : x < y
  · exact .inl ⟨h1, by rw [if_pos h1]⟩
  · by_cases h2 : y < x
    · exact .inr (.inr ⟨h2, by rw [if_neg h1, if_pos h2]⟩)
    · exact .inr (.inl ⟨by omega, by rw [if_neg h1, if_neg h2]⟩)
/-! orders that tell any two apart -/
structure TOrd {α : Type} (c : α → α → Int) : Prop where
  eq_of : ∀ {x y}, c x y = 0 → x = y
  self : ∀ x, c x x = 0
  swap : ∀ x y, c y x = - c x y
  trans : ∀ {x y z}, c x y ≤ 0 → c y z ≤ 0 → c x z ≤ 0
section
variable {α : Type} {c : α → α → Int}
theorem TOrd.lt_trans (h : TOrd c) {x y z : α} (h1 : c x y < 0) (h2 : c y z < 0) : c x z < 0 := by
  have h3 := h.trans (x := x) (y := y) (z := z) (by omega) (by omega)
  rcases Int.lt_or_eq_of_le h3 with h4 | h4
  · exact h4
  · have e := h.eq_of h4
    subst e
    have := h.swap x y
    omega
theorem TOrd.lt_of_lt_le (h : TOrd c) {x y z : α} (h1 : c x y < 0) (h2 : c y z ≤ 0) : c x z < 0 := by
  rcases Int.lt_or_eq_of_le h2 with h4 | h4
  · exact h.lt_trans h1 h4
  · have e := h.eq_of h4
    subst e
    exact h1
theorem TOrd.lt_of_le_lt (h : TOrd c) {x y z : α} (h1 : c x y ≤ 0) (h2 : c y z < 0) : c x z < 0 := by
  rcases Int.lt_or_eq_of_le h1 with h4 | h4
  · exact h.lt_trans h4 h2
  · have e := h.eq_of h4
    subst e
    exact h2
theorem TOrd.ne_of_lt (h : TOrd c) {x y : α} (h1 : c x y < 0) : x ≠ y := by
  rintro rfl
  have := h.self x
  omega
def StrictL (c : α → α → Int) (l : List α) : Prop := l.Pairwise fun x y => c x y < 0
def SortedL (c : α → α → Int) (l : List α) : Prop := l.Pairwise fun x y => c x y ≤ 0
theorem strict_unique (h : TOrd c) : ∀ {l m : List α}, StrictL c l → StrictL c m → (∀ x, x ∈ l ↔ x ∈ m) → l = m
  | [], [], _, _, _ => rfl
  | [], b :: m, _, _, hm => absurd ((hm b).2 List.mem_cons_self) (by simp)
  | a :: l, [], _, _, hm => absurd ((hm a).1 List.mem_cons_self) (by simp)
  | a :: l, b :: m, hl, hr, hm => by
    have hl' := List.pairwise_cons.1 hl
    have hr' := List.pairwise_cons.1 hr
    have e : a = b := by
      have h1 := (hm a).1 List.mem_cons_self
      have h2 := (hm b).2 List.mem_cons_self
      rcases List.mem_cons.1 h1 with h1 | h1
      · exact h1
      · rcases List.mem_cons.1 h2 with h2 | h2
        · exact h2.symm
        · have k1 := hr'.1 a h1
          have k2 := hl'.1 b h2
          have := h.swap a b
          omega
    subst e
    congr 1
    refine strict_unique h hl'.2 hr'.2 fun x => ⟨fun hx => ?_, fun hx => ?_⟩
    · rcases List.mem_cons.1 ((hm x).1 (List.mem_cons_of_mem _ hx)) with e | hx'
      · exact absurd e.symm (h.ne_of_lt (hl'.1 x hx))
      · exact hx'
    · rcases List.mem_cons.1 ((hm x).2 (List.mem_cons_of_mem _ hx)) with e | hx'
      · exact absurd e.symm (h.ne_of_lt (hr'.1 x hx))
      · exact hx'
/-- a list in order without repetitions -/
def comp [DecidableEq α] : List α → List α
  | [] => []
  | [x] => [x]
  | x :: y :: r => if x = y then comp (y :: r) else x :: comp (y :: r)
theorem comp_mem [DecidableEq α] (l : List α) (x : α) : x ∈ comp l ↔ x ∈ l := by
  induction l using comp.induct with
  | case1 => simp [comp]
  | case2 y => simp [comp]
  | case3 y r ih =>
    rw [comp, if_pos rfl, ih]
    simp
  | case4 y z r hne ih =>
    rw [comp, if_neg hne, List.mem_cons, ih]
    simp
theorem comp_strict [DecidableEq α] (h : TOrd c) {l : List α} (hs : SortedL c l) : StrictL c (comp l) := by
  induction l using comp.induct with
  | case1 => simp [comp, StrictL]
  | case2 y => simp [comp, StrictL]
  | case3 y r ih =>
    rw [comp, if_pos rfl]
    exact ih (List.pairwise_cons.1 hs).2
  | case4 y z r hne ih =>
    rw [comp, if_neg hne]
    have hs' := List.pairwise_cons.1 hs
    refine List.pairwise_cons.2 ⟨fun x hx => ?_, ih hs'.2⟩
    have hx := (comp_mem _ _).1 hx
    have hyz : c y z < 0 := by
      have := hs'.1 z List.mem_cons_self
      rcases Int.lt_or_eq_of_le this with h4 | h4
      · exact h4
      · exact absurd (h.eq_of h4) hne
    rcases List.mem_cons.1 hx with rfl | hx
    · exact hyz
    · exact h.lt_of_lt_le hyz ((List.pairwise_cons.1 hs'.2).1 x hx)
/-- an element put to its place among rising ones, once -/
def putG (c : α → α → Int) : List α → α → List α
  | [], x => [x]
  | y :: r, x => if c y x < 0 then y :: putG c r x else if c y x = 0 then y :: r else x :: y :: r
theorem putG_mem (h : TOrd c) (l : List α) (x z : α) : z ∈ putG c l x ↔ z = x ∨ z ∈ l := by
  induction l with
  | nil => simp [putG]
  | cons y r ih =>
    unfold putG
    split
    · rw [List.mem_cons, ih, List.mem_cons]
      constructor
      · rintro (h1 | h1 | h1)
        · exact .inr (.inl h1)
        · exact .inl h1
        · exact .inr (.inr h1)
      · rintro (h1 | h1 | h1)
        · exact .inr (.inl h1)
        · exact .inl h1
        · exact .inr (.inr h1)
    · split
      · rename_i h0
        have e := h.eq_of h0
        subst e
        simp
      · simp
theorem putG_strict (h : TOrd c) {l : List α} (hl : StrictL c l) (x : α) : StrictL c (putG c l x) := by
  induction l with
  | nil => simp [putG, StrictL]
  | cons y r ih =>
    have hl' := List.pairwise_cons.1 hl
    unfold putG
    split
    · rename_i h1
      refine List.pairwise_cons.2 ⟨fun z hz => ?_, ih hl'.2⟩
      rcases (putG_mem h r x z).1 hz with rfl | hz
      · exact h1
      · exact hl'.1 z hz
    · split
      · exact hl
      · rename_i h1 h2
        have h3 : c x y < 0 := by
          have := h.swap y x
          omega
        refine List.pairwise_cons.2 ⟨fun z hz => ?_, hl⟩
        rcases List.mem_cons.1 hz with rfl | hz
        · exact h3
        · exact h.lt_trans h3 (hl'.1 z hz)
/-- all below x so far -/
theorem putG_before {l : List α} {x : α} {k : Nat} (hk : k ≤ l.length) (h : ∀ y, y ∈ l.take k → c y x < 0) : putG c l x = l.take k ++ putG c (l.drop k) x := by
  induction l generalizing k with
  | nil => simp at hk; subst hk; simp
  | cons y r ih =>
    cases k with
    | zero => simp
    | succ k =>
      simp only [List.take_succ_cons, List.drop_succ_cons, List.cons_append]
      rw [← ih (by simpa using hk) fun z hz => h z (by rw [List.take_succ_cons]; exact List.mem_cons_of_mem _ hz)]
      rw [putG, if_pos (h y (by rw [List.take_succ_cons]; exact List.mem_cons_self))]
/-- the rising list of what a list holds -/
def setG (c : α → α → Int) (l : List α) : List α := l.foldl (putG c) []
theorem setG_gen (h : TOrd c) (l acc : List α) (ha : StrictL c acc) : StrictL c (l.foldl (putG c) acc) ∧ ∀ x, x ∈ l.foldl (putG c) acc ↔ x ∈ acc ∨ x ∈ l := by
  induction l generalizing acc with
  | nil => exact ⟨ha, fun x => by simp⟩
  | cons y r ih =>
    obtain ⟨h1, h2⟩ := ih (putG c acc y) (putG_strict h ha y)
    refine ⟨h1, fun x => ?_⟩
    rw [List.foldl_cons, h2, putG_mem h, List.mem_cons]
    constructor
    · rintro ((h3 | h3) | h3)
      · exact .inr (.inl h3)
      · exact .inl h3
      · exact .inr (.inr h3)
    · rintro (h3 | h3 | h3)
      · exact .inl (.inr h3)
      · exact .inl (.inl h3)
      · exact .inr h3
theorem setG_strict (h : TOrd c) (l : List α) : StrictL c (setG c l) := (setG_gen h l [] List.Pairwise.nil).1
theorem setG_mem (h : TOrd c) (l : List α) (x : α) : x ∈ setG c l ↔ x ∈ l := by
  have := (setG_gen h l [] List.Pairwise.nil).2 x
  simpa [setG] using this
theorem setG_eq (h : TOrd c) {l m : List α} (hm : StrictL c m) (he : ∀ x, x ∈ m ↔ x ∈ l) : setG c l = m :=
  strict_unique h (setG_strict h l) hm fun x => (setG_mem h l x).trans (he x).symm
theorem setG_comp [DecidableEq α] (h : TOrd c) {l m : List α} (hs : SortedL c m) (hp : ∀ x, x ∈ m ↔ x ∈ l) : comp m = setG c l :=
  (setG_eq h (comp_strict h hs) fun x => (comp_mem m x).trans (hp x)).symm
theorem setG_snoc (l : List α) (x : α) : setG c (l ++ [x]) = putG c (setG c l) x := by simp [setG, List.foldl_append]
theorem strict_nodup (h : TOrd c) {l : List α} (hl : StrictL c l) : l.Nodup := hl.imp fun h1 => h.ne_of_lt h1
theorem putG_len (l : List α) (x : α) : (putG c l x).length ≤ l.length + 1 := by
  induction l with
  | nil => simp [putG]
  | cons y r ih =>
    unfold putG
    split
    · simp; omega
    · split <;> simp
theorem setG_len (l : List α) : (setG c l).length ≤ l.length := by
  have : ∀ acc : List α, (l.foldl (putG c) acc).length ≤ acc.length + l.length := by
    induction l with
    | nil => intro acc; simp
    | cons y r ih =>
      intro acc
      have h1 := ih (putG c acc y)
      have h2 := putG_len (c := c) acc y
      simp only [List.foldl_cons, List.length_cons]
      omega
  simpa [setG] using this []
/-- where an element stands in a rising list: how many are below it -/
def idxG (c : α → α → Int) (l : List α) (x : α) : Nat := l.countP fun y => decide (c y x < 0)
theorem idxG_at (h : TOrd c) {l : List α} (hl : StrictL c l) {k : Nat} (hk : k < l.length) : idxG c l l[k] = k := by
  induction l generalizing k with
  | nil => simp at hk
  | cons y r ih =>
    have hl' := List.pairwise_cons.1 hl
    unfold idxG
    cases k with
    | zero =>
      simp only [List.getElem_cons_zero]
      rw [List.countP_eq_zero]
      intro z hz
      rcases List.mem_cons.1 hz with rfl | hz
      · have := h.self z; simp; omega
      · have := hl'.1 z hz; have := h.swap y z; simp; omega
    | succ k =>
      simp only [List.getElem_cons_succ]
      have hk' : k < r.length := by simpa using hk
      rw [List.countP_cons_of_pos (by simpa using hl'.1 _ (List.getElem_mem hk'))]
      have := ih hl'.2 hk'
      unfold idxG at this
      omega
theorem idxG_mem (h : TOrd c) {l : List α} (hl : StrictL c l) {x : α} (hx : x ∈ l) : idxG c l x < l.length ∧ l[idxG c l x]? = some x := by
  obtain ⟨k, hk, rfl⟩ := List.mem_iff_getElem.1 hx
  rw [idxG_at h hl hk]
  exact ⟨hk, List.getElem?_eq_getElem hk⟩
theorem idxG_inj (h : TOrd c) {l : List α} (hl : StrictL c l) {x y : α} (hx : x ∈ l) (hy : y ∈ l) (he : idxG c l x = idxG c l y) : x = y := by
  have h1 := (idxG_mem h hl hx).2
  have h2 := (idxG_mem h hl hy).2
  rw [he, h2] at h1
  injection h1 with h1
  exact h1.symm
end
/-! the order of numbers -/
theorem sgnI_ord : TOrd sgnI where
  eq_of := fun {x y} h => by
    rcases sgnI_cases x y with ⟨_, e⟩ | ⟨h', _⟩ | ⟨_, e⟩
    · omega
    · exact h'
    · omega
  self := fun x => by rcases sgnI_cases x x with ⟨h, e⟩ | ⟨_, e⟩ | ⟨h, e⟩ <;> omega
  swap := fun x y => by
    rcases sgnI_cases x y with ⟨h, e⟩ | ⟨h, e⟩ | ⟨h, e⟩ <;> rcases sgnI_cases y x with ⟨h', e'⟩ | ⟨h', e'⟩ | ⟨h', e'⟩ <;> omega
  trans := fun {x y z} h1 h2 => by
    rcases sgnI_cases x y with ⟨h, e⟩ | ⟨h, e⟩ | ⟨h, e⟩ <;> rcases sgnI_cases y z with ⟨h', e'⟩ | ⟨h', e'⟩ | ⟨h', e'⟩ <;> rcases sgnI_cases x z with ⟨h'', e''⟩ | ⟨h'', e''⟩ | ⟨h'', e''⟩ <;> omega
theorem srt_sorted (l : List Int) : SortedL sgnI (srt l) := (srt_le l).imp fun {x y} h => by
  rcases sgnI_cases x y with ⟨_, e⟩ | ⟨_, e⟩ | ⟨_, e⟩ <;> omega
theorem srt_mem (l : List Int) (x : Int) : x ∈ srt l ↔ x ∈ l := (srt_perm l).mem_iff
/-- what two lists with the same numbers, as often, are in order -/
theorem srt_unique {l m : List Int} (hp : m.Perm l) (hm : m.Pairwise fun x y => x ≤ y) : m = srt l :=
  (hp.trans (srt_perm l).symm).eq_of_pairwise (fun _ _ _ _ h1 h2 => Int.le_antisymm h1 h2) hm (srt_le l)
theorem srt_perm_eq {l m : List Int} (hp : m.Perm l) : srt m = srt l := srt_unique ((srt_perm m).trans hp) (srt_le m)

end Go.Proofs.YtncknfhfkmmhbaaGreat
