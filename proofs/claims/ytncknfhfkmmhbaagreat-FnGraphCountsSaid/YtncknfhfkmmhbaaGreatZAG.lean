/- Plain mathematics of the objects: matrices with two signs, permutations, sets of points, lists in order. No program in sight. -/
import Derived.Test.YtncknfhfkmmhbaaGreatZAA
import Derived.Test.YtncknfhfkmmhbaaGreatProg
import Derived.Test.YtncknfhfkmmhbaaGreatZAE
import Derived.Test.YtncknfhfkmmhbaaGreatZAC
import Derived.Shelf.GgClosure.Gives
set_option linter.unusedVariables false
set_option linter.unusedSimpArgs false
namespace Go.Proofs.YtncknfhfkmmhbaaGreat

noncomputable def tB (p : Prop) : Bool := @decide p (Classical.propDecidable p)
theorem tB_yes {p : Prop} (h : p) : tB p = true := by unfold tB; exact @decide_eq_true p (Classical.propDecidable p) h
theorem tB_no {p : Prop} (h : ¬ p) : tB p = false := by unfold tB; exact @decide_eq_false p (Classical.propDecidable p) h
theorem tB_true {p : Prop} : tB p = true ↔ p := by unfold tB; exact @decide_eq_true_iff p (Classical.propDecidable p)
theorem tB_congr {p q : Prop} (h : p ↔ q) : tB p = tB q := by
  by_cases hp : p
  · rw [tB_yes hp, tB_yes (h.1 hp)]
  · rw [tB_no hp, tB_no (fun hq => hp (h.2 hq))]

/-! matrices with two signs -/
def dotTo (a b : List Int) : Nat → Int
  | 0 => 0
  | k + 1 => dotTo a b k + nth a k * nth b k
def PM (a : List Int) (n : Nat) : Prop := ∀ k, k < n → nth a k = 1 ∨ nth a k = -1
theorem pm_mul {a b : List Int} {n k : Nat} (ha : PM a n) (hb : PM b n) (hk : k < n) : -1 ≤ nth a k * nth b k ∧ nth a k * nth b k ≤ 1 := by
  rcases ha k hk with h | h <;> rcases hb k hk with h' | h' <;> rw [h, h'] <;> omega
theorem dotTo_bd {a b : List Int} {n k : Nat} (ha : PM a n) (hb : PM b n) (hk : k ≤ n) : -(k : Int) ≤ dotTo a b k ∧ dotTo a b k ≤ k := by
  induction k with
  | zero => simp [dotTo]
  | succ k ih =>
    have h1 := ih (by omega)
    have h2 := pm_mul ha hb (show k < n by omega)
    simp only [dotTo]
    omega
def HadRow (h : List (List Int)) (i : Nat) : Prop := (row h i).length = h.length ∧ PM (row h i) h.length
def HadPair (h : List (List Int)) (i k : Nat) : Prop := dotTo (row h i) (row h k) h.length = 0
def Had (h : List (List Int)) : Prop := 1 ≤ h.length ∧ h.length ≤ 32 ∧ (∀ i, i < h.length → HadRow h i) ∧ ∀ i, i < h.length → ∀ k, k < i → HadPair h i k

/-! lists in order -/
def cmpL : List Int → List Int → Int
  | [], [] => 0
  | [], _ :: _ => -1
  | _ :: _, [] => 1
  | x :: xs, y :: ys => if x < y then -1 else if y < x then 1 else cmpL xs ys
theorem cmpL_bd (xs ys : List Int) : -1 ≤ cmpL xs ys ∧ cmpL xs ys ≤ 1 := by
  induction xs generalizing ys with
  | nil => cases ys <;> simp [cmpL]
  | cons x xs ih =>
    cases ys with
    | nil => simp [cmpL]
    | cons y ys =>
      simp only [cmpL]
      split
      · omega
      · split
        · omega
        · exact ih ys
theorem nth_succ (x : Int) (xs : List Int) (k : Nat) : nth (x :: xs) (k + 1) = nth xs k := by simp [nth, List.getD]
theorem nth_zero (x : Int) (xs : List Int) : nth (x :: xs) 0 = x := by simp [nth, List.getD]
/-- the first k places of both lists are there and agree -/
def agree (xs ys : List Int) (k : Nat) : Prop := k ≤ xs.length ∧ k ≤ ys.length ∧ ∀ j, j < k → nth xs j = nth ys j
theorem agree_zero (xs ys : List Int) : agree xs ys 0 := ⟨Nat.zero_le _, Nat.zero_le _, fun _ h => absurd h (by omega)⟩
theorem agree_step {xs ys : List Int} {k : Nat} (h : agree xs ys k) (h1 : k < xs.length) (h2 : k < ys.length) (he : nth xs k = nth ys k) : agree xs ys (k + 1) :=
  ⟨h1, h2, fun j hj => by
    rcases Nat.lt_succ_iff_lt_or_eq.1 hj with h' | h'
    · exact h.2.2 j h'
    · rw [h']; exact he⟩
theorem cmpL_agree {xs ys : List Int} {k : Nat} (h : agree xs ys k) : cmpL xs ys = cmpL (xs.drop k) (ys.drop k) := by
  induction k generalizing xs ys with
  | zero => simp
  | succ k ih =>
    obtain ⟨h1, h2, h3⟩ := h
    cases xs with
    | nil => simp at h1
    | cons x xs =>
      cases ys with
      | nil => simp at h2
      | cons y ys =>
        have e := h3 0 (by omega)
        rw [nth_zero, nth_zero] at e
        subst e
        simp only [cmpL, Int.lt_irrefl, if_false, List.drop_succ_cons]
        refine ih ⟨by simpa using h1, by simpa using h2, fun j hj => ?_⟩
        have := h3 (j + 1) (by omega)
        rwa [nth_succ, nth_succ] at this
theorem cmpL_lt {xs ys : List Int} {k : Nat} (h : agree xs ys k) (h1 : k < xs.length) (h2 : k < ys.length) (he : nth xs k < nth ys k) : cmpL xs ys = -1 := by
  rw [cmpL_agree h, List.drop_eq_getElem_cons h1, List.drop_eq_getElem_cons h2, cmpL, if_pos (by rw [← nth_get h1, ← nth_get h2]; exact he)]
theorem cmpL_gt {xs ys : List Int} {k : Nat} (h : agree xs ys k) (h1 : k < xs.length) (h2 : k < ys.length) (he : nth ys k < nth xs k) : cmpL xs ys = 1 := by
  rw [cmpL_agree h, List.drop_eq_getElem_cons h1, List.drop_eq_getElem_cons h2, cmpL, if_neg (by rw [← nth_get h1, ← nth_get h2]; omega), if_pos (by rw [← nth_get h1, ← nth_get h2]; exact he)]
theorem cmpL_short {xs ys : List Int} (h : agree xs ys xs.length) (h2 : xs.length < ys.length) : cmpL xs ys = -1 := by
  rw [cmpL_agree h, List.drop_eq_getElem_cons h2, List.drop_eq_nil_of_le (Nat.le_refl _)]
  rfl
theorem cmpL_long {xs ys : List Int} (h : agree xs ys ys.length) (h2 : ys.length < xs.length) : cmpL xs ys = 1 := by
  rw [cmpL_agree h, List.drop_eq_getElem_cons h2, List.drop_eq_nil_of_le (Nat.le_refl _)]
  rfl
theorem cmpL_same {xs ys : List Int} (h : agree xs ys xs.length) (h2 : xs.length = ys.length) : cmpL xs ys = 0 := by
  rw [cmpL_agree h, List.drop_eq_nil_of_le (Nat.le_refl _), List.drop_eq_nil_of_le (by omega)]
  rfl
theorem cmpL_zero {xs ys : List Int} (h : cmpL xs ys = 0) : xs = ys := by
  induction xs generalizing ys with
  | nil => cases ys <;> simp [cmpL] at h ⊢
  | cons x xs ih =>
    cases ys with
    | nil => simp [cmpL] at h
    | cons y ys =>
      simp only [cmpL] at h
      split at h
      · simp at h
      · split at h
        · simp at h
        · rw [ih h]
          congr 1
          omega
theorem cmpL_refl (xs : List Int) : cmpL xs xs = 0 := cmpL_same ⟨Nat.le_refl _, Nat.le_refl _, fun _ _ => rfl⟩ rfl
theorem cmpL_swap (xs ys : List Int) : cmpL ys xs = -cmpL xs ys := by
  induction xs generalizing ys with
  | nil => cases ys <;> simp [cmpL]
  | cons x xs ih =>
    cases ys with
    | nil => simp [cmpL]
    | cons y ys =>
      simp only [cmpL]
      by_cases h1 : x < y
      · rw [if_neg (by omega), if_pos h1, if_pos h1]; rfl
      · by_cases h2 : y < x
        · rw [if_pos h2, if_neg h1, if_pos h2]
        · rw [if_neg h2, if_neg h1, if_neg h1, if_neg h2]; exact ih ys
theorem cmpL_trans {xs ys zs : List Int} (h1 : cmpL xs ys ≤ 0) (h2 : cmpL ys zs ≤ 0) : cmpL xs zs ≤ 0 := by
  induction xs generalizing ys zs with
  | nil => cases zs <;> simp [cmpL]
  | cons x xs ih =>
    cases ys with
    | nil => simp [cmpL] at h1
    | cons y ys =>
      cases zs with
      | nil => simp [cmpL] at h2
      | cons z zs =>
        simp only [cmpL] at h1 h2 ⊢
        split at h1
        · split at h2
          · rw [if_pos (by omega)]; omega
          · split at h2
            · omega
            · rw [if_pos (by omega)]; omega
        · split at h1
          · omega
          · split at h2
            · rw [if_pos (by omega)]; omega
            · split at h2
              · omega
              · rw [if_neg (by omega), if_neg (by omega)]
                exact ih h1 h2

/-! permutations -/
structure Perm (p : List Int) : Prop where
  bd : ∀ k, k < p.length → 0 ≤ nth p k ∧ nth p k < p.length
  ne : ∀ i j, i < j → j < p.length → nth p i ≠ nth p j
def PermOk (p : List Int) : Prop := p.length ≤ 32 ∧ Perm p
def Square (a : List (List Int)) : Prop := 1 ≤ a.length ∧ a.length ≤ 10 ∧ (∀ i, i < a.length → (row a i).length = a.length ∧ Perm (row a i)) ∧
  ∀ y, y < a.length → Perm (a.map fun r => nth r y)

/-! sets of points, designs, arrays -/
/-- a list rises from lo on, below hi -/
structure Rises (z : List Int) (lo hi : Int) : Prop where
  bd : ∀ k, k < z.length → lo ≤ nth z k ∧ nth z k ≤ hi
  up : ∀ k, k + 1 < z.length → nth z k < nth z (k + 1)
def Block (z : List Int) (v : Int) : Prop := 0 < z.length ∧ Rises z 0 (v - 1)
structure Design (v : Int) (bs : List (List Int)) : Prop where
  v1 : 1 ≤ v
  v2 : v ≤ 32
  len : bs.length ≤ 128
  blk : ∀ i, i < bs.length → Block (row bs i) v
  ord : ∀ i, i + 1 < bs.length → cmpL (row bs i) (row bs (i + 1)) ≤ 0
structure Array' (l c : Int) (rs : List (List Int)) : Prop where
  l1 : 2 ≤ l
  l2 : l ≤ 16
  c1 : 1 ≤ c
  c2 : c ≤ 8
  len : rs.length ≤ 256
  row : ∀ i, i < rs.length → ((row rs i).length : Int) = c ∧ ∀ k, k < (row rs i).length → 0 ≤ nth (row rs i) k ∧ nth (row rs i) k ≤ l - 1
end Go.Proofs.YtncknfhfkmmhbaaGreat
/- Sorted lists, plain: a list of n numbers is a permutation of 0 to n - 1 just if it is that in order. No program in sight. -/
namespace Go.Proofs.YtncknfhfkmmhbaaGreat

def srt (zs : List Int) : List Int := zs.mergeSort fun x y => decide (x ≤ y)
theorem srt_perm (zs : List Int) : (srt zs).Perm zs := List.mergeSort_perm _ _
theorem srt_len (zs : List Int) : (srt zs).length = zs.length := (srt_perm zs).length_eq
theorem srt_le (zs : List Int) : (srt zs).Pairwise fun x y => x ≤ y := by
  have h := List.pairwise_mergeSort (le := fun x y : Int => decide (x ≤ y)) (fun a b c h1 h2 => by simp at *; omega) (fun a b => by simp; omega) zs
  exact h.imp fun h => by simpa using h
theorem srt_mono {zs : List Int} {i j : Nat} (h : i ≤ j) (hj : j < zs.length) : nth (srt zs) i ≤ nth (srt zs) j := by
  have hl := srt_len zs
  rcases Nat.eq_or_lt_of_le h with rfl | h'
  · exact Int.le_refl _
  · have := List.pairwise_iff_getElem.1 (srt_le zs) i j (by omega) (by omega) h'
    rwa [nth_get (by omega), nth_get (by omega)]
theorem nodup_ne {zs : List Int} (h : ∀ i j, i < j → j < zs.length → nth zs i ≠ nth zs j) : zs.Nodup := by
  rw [List.Nodup, List.pairwise_iff_getElem]
  intro i j hi hj hij
  have := h i j hij hj
  rwa [nth_get hi, nth_get hj] at this
theorem ne_nodup {zs : List Int} (h : zs.Nodup) : ∀ i j, i < j → j < zs.length → nth zs i ≠ nth zs j := fun i j hij hj => by
  rw [List.Nodup, List.pairwise_iff_getElem] at h
  have := h i j (by omega) hj hij
  rwa [nth_get (by omega), nth_get hj]
theorem mem_nth {zs : List Int} {x : Int} (h : x ∈ zs) : ∃ k, k < zs.length ∧ nth zs k = x := by
  obtain ⟨k, hk, rfl⟩ := List.mem_iff_getElem.1 h
  exact ⟨k, hk, nth_get hk⟩
theorem nth_mem {zs : List Int} {k : Nat} (h : k < zs.length) : nth zs k ∈ zs := by
  rw [nth_get h]
  exact List.getElem_mem h
def inOrder (zs : List Int) : Prop := ∀ k, k < zs.length → nth (srt zs) k = (k : Int)
theorem perm_inOrder {zs : List Int} (h : Perm zs) : inOrder zs := by
  have hl := srt_len zs
  have hnd : (srt zs).Nodup := (srt_perm zs).nodup_iff.2 (nodup_ne h.ne)
  have hne := ne_nodup hnd
  have hbd : ∀ k, k < zs.length → 0 ≤ nth (srt zs) k ∧ nth (srt zs) k < zs.length := fun k hk => by
    have hm : nth (srt zs) k ∈ zs := (srt_perm zs).mem_iff.1 (nth_mem (by omega))
    obtain ⟨j, hj, e⟩ := mem_nth hm
    rw [← e]
    exact h.bd j hj
  have hup : ∀ k, k + 1 < zs.length → nth (srt zs) k < nth (srt zs) (k + 1) := fun k hk => by
    have h1 := srt_mono (zs := zs) (i := k) (j := k + 1) (by omega) hk
    have h2 := hne k (k + 1) (by omega) (by omega)
    omega
  have hlo : ∀ k, k < zs.length → (k : Int) ≤ nth (srt zs) k := by
    intro k
    induction k with
    | zero => intro hk; exact (hbd 0 hk).1
    | succ k ih => intro hk; have := ih (by omega); have := hup k hk; omega
  have hhi : ∀ j k, k + 1 + j = zs.length → nth (srt zs) k ≤ (k : Int) := by
    intro j
    induction j with
    | zero => intro k hk; have := (hbd k (by omega)).2; omega
    | succ j ih => intro k hk; have := ih (k + 1) (by omega); have := hup k (by omega); omega
  intro k hk
  have := hlo k hk
  have := hhi (zs.length - 1 - k) k (by omega)
  omega
theorem inOrder_perm {zs : List Int} (h : inOrder zs) : Perm zs := by
  have hl := srt_len zs
  refine ⟨fun k hk => ?_, ?_⟩
  · have hm : nth zs k ∈ srt zs := (srt_perm zs).mem_iff.2 (nth_mem hk)
    obtain ⟨j, hj, e⟩ := mem_nth hm
    rw [← e, h j (by omega)]
    omega
  · refine ne_nodup ((srt_perm zs).nodup_iff.1 (nodup_ne fun i j hij hj => ?_))
    rw [h i (by omega), h j (by omega)]
    omega
theorem perm_iff (zs : List Int) : Perm zs ↔ inOrder zs := ⟨perm_inOrder, inOrder_perm⟩
end Go.Proofs.YtncknfhfkmmhbaaGreat
/- Calls of a library function that asks a function value of each element: whether one is found, for slices of numbers and slices of such slices. No condition beyond those stated. -/
namespace Go.Proofs.YtncknfhfkmmhbaaGreat
open Go.RowKit

/-- a place that was found, or -1 -/
def SomeIdx (w : World) (b : Bool) (e : Ending) (w' : World) : Prop := ∃ r : Int, e = .returned (.int .i64 r) ∧ -1 ≤ r ∧ r ≤ 9223372036854775807 ∧ decide (0 ≤ r) = b ∧ Below w.heap.size w w'
/-- a bool, and new blocks at most -/
def RetB (w : World) (b : Bool) (e : Ending) (w' : World) : Prop := e = .returned (.bool b) ∧ Below w.heap.size w w'
theorem RetB.of_quiet {w w' : World} {b : Bool} {e : Ending} (h : Quiet w (.bool b) e w') : RetB w b e w' := ⟨h.1, h.2.below⟩
theorem RetB.of_same {w w' : World} {b : Bool} {e : Ending} (h : e = .returned (.bool b) ∧ w = w') : RetB w b e w' := ⟨h.1, h.2 ▸ Below.refl _ _⟩
/-- a function value that tells of each number whether p holds -/
def AskI (g : Nat) (lb : Array Value) (p : Int → Bool) (w : World) : Prop :=
  ∀ (x : Int) (W : World), Below w.heap.size w W → I64 x → Calls Tryz.prog g (#[.int .i64 x] ++ lb) W (RetB W (p x))
/-- a function value that tells of each list whether p holds -/
def AskR (g : Nat) (lb : Array Value) (p : List Int → Bool) (w : World) : Prop :=
  ∀ (A : Option Addr) (n c : Nat) (z : List Int) (W : World), Below w.heap.size w W → RI W A n z → n ≤ c → c ≤ 9223372036854775807 → Calls Tryz.prog g (#[.slice A n c] ++ lb) W (RetB W (p z))
/-- a function value that tells of each number whether p holds, and leaves the world as it is -/
def AskIq (g : Nat) (lb : Array Value) (p : Int → Bool) (w : World) : Prop :=
  ∀ (x : Int), I64 x → Calls Tryz.prog g (#[.int .i64 x] ++ lb) w fun e w' => e = .returned (.bool (p x)) ∧ w = w'
/-- the same for lists of at most L numbers -/
def AskRb (g : Nat) (lb : Array Value) (p : List Int → Bool) (w : World) (L : Nat) : Prop :=
  ∀ (A : Option Addr) (n c : Nat) (z : List Int) (W : World), Below w.heap.size w W → RI W A n z → n ≤ c → c ≤ 9223372036854775807 → n ≤ L → Calls Tryz.prog g (#[.slice A n c] ++ lb) W (RetB W (p z))
def smallRows (zs : List (List Int)) (L : Nat) : Prop := ∀ i, i < zs.length → (row zs i).length ≤ L
theorem rows_small {w : World} {A : Option Addr} {n L : Nat} {zs : List (List Int)} (_ : RR w A n zs) (h : cells zs ≤ L) : smallRows zs L := fun i hi => by
  have h1 := cells_take zs hi
  have h2 := cells_le zs (i + 1)
  omega
def noneTo {α : Type} (p : α → Bool) (xs : List α) (k : Nat) : Prop := ∀ j x, j < k → xs[j]? = some x → p x = false
theorem noneTo_step {α : Type} {p : α → Bool} {xs : List α} {k : Nat} {x : α} (h : noneTo p xs k) (hx : xs[k]? = some x) (hp : p x = false) : noneTo p xs (k + 1) := fun j y hj hy => by
  rcases Nat.lt_succ_iff_lt_or_eq.1 hj with h' | h'
  · exact h j y h' hy
  · subst h'; rw [hx] at hy; injection hy with hy; rw [← hy]; exact hp
theorem noneTo_all {α : Type} {p : α → Bool} {xs : List α} (h : noneTo p xs xs.length) : xs.any p = false := by
  rw [List.any_eq_false]
  intro x hx
  obtain ⟨j, hj, rfl⟩ := List.mem_iff_getElem.1 hx
  simpa using h j _ hj (List.getElem?_eq_getElem hj)
theorem any_hit {α : Type} {p : α → Bool} {xs : List α} {k : Nat} {x : α} (hx : xs[k]? = some x) (hp : p x = true) : xs.any p = true :=
  List.any_eq_true.2 ⟨x, List.mem_of_getElem? hx, hp⟩

set_option maxHeartbeats 1000000 in
theorem indexFuncI (g : Nat) (lb : Array Value) (eg : ∀ args w, (callFunc g args).run Tryz.prog w = .ok (.enter g args) w) (p : Int → Bool) (A : Option Addr) (n c : Nat) (zs : List Int) (w : World) (ha : RI w A n zs) (hn : n ≤ 9223372036854775807) (hp : AskI g lb p w) :
    Calls Tryz.prog 100 #[.slice A n c, .func (.func g) #[] lb] w (SomeIdx w (zs.any p)) := by
  have hla := Lib.hid ha.len
  go_enter Tryz.func100, Tryz.ntmps100
  go_wp2
  go_loopw [5, 8] (fun _ i wr => ∃ k : Nat, k ≤ n ∧ i = .int .i64 k ∧ Below w.heap.size w wr ∧ noneTo p zs k) (fun _ i _ => n - (intOf i).toNat)
  case atStart => exact ⟨0, Nat.zero_le _, rfl, Below.refl _ _, fun j _ h => absurd h (by omega)⟩
  case round =>
    obtain ⟨k, hk, rfl, hb, hnone⟩ := hrel
    by_cases hlt : k < n
    · obtain ⟨a, rfl, hca, hia⟩ := (ha.keep hb).get hlt
      have hz : zs[k]? = some (nth zs k) := nth_some (by rw [hla.out]; exact hlt)
      have hcall := hp (nth zs k)
      cases hq : p (nth zs k) with
      | true =>
        rw [hq] at hcall
        have H := Lib.hid (any_hit hz hq)
        clear hnone hz hq
        go_wp2_with (go_at_fn g; refine (hcall _ hb hia).mono ?_; rintro e w1 ⟨rfl, hb1⟩)
        go_ret
        exact ⟨k, rfl, by omega, by omega, by rw [H.out]; simp, hb.trans (hb1.mono hb.size)⟩
      | false =>
        rw [hq] at hcall
        have H := Lib.hid (noneTo_step hnone hz hq)
        clear hnone hz hq
        go_wp2_with (go_at_fn g; refine (hcall _ hb hia).mono ?_; rintro e w1 ⟨rfl, hb1⟩)
        go_roundw
        case rel => exact ⟨k + 1, by omega, by go_num, hb.trans (hb1.mono hb.size), H.out⟩
        case measure => simp [intOf]; omega
    · have H := Lib.hid (show zs.any p = false from noneTo_all (by rw [hla.out]; rwa [show k = n by omega] at hnone))
      clear hnone
      go_wp2
      go_ret
      exact ⟨-1, rfl, by omega, by omega, by rw [H.out]; simp, hb⟩
set_option maxHeartbeats 400000 in
theorem containsFuncI (g : Nat) (lb : Array Value) (eg : ∀ args w, (callFunc g args).run Tryz.prog w = .ok (.enter g args) w) (p : Int → Bool) (A : Option Addr) (n c : Nat) (zs : List Int) (w : World) (ha : RI w A n zs) (hn : n ≤ 9223372036854775807) (hp : AskI g lb p w) :
    Calls Tryz.prog 81 #[.slice A n c, .func (.func g) #[] lb] w (RetB w (zs.any p)) := by
  go_enter Tryz.func81, Tryz.ntmps81
  go_wp2_with fail
  refine (indexFuncI g lb eg p A n c zs _ ha hn hp).mono ?_
  rintro e w1 ⟨r, rfl, h1, h2, h3, hb⟩
  have H := Lib.hid h3
  clear h3
  go_wp2
  go_ret
  exact ⟨by rw [← H.out]; rfl, hb⟩
set_option maxHeartbeats 1000000 in
theorem indexFuncIq (g : Nat) (lb : Array Value) (eg : ∀ args w, (callFunc g args).run Tryz.prog w = .ok (.enter g args) w) (p : Int → Bool) (A : Option Addr) (n c : Nat) (zs : List Int) (w : World) (ha : RI w A n zs) (hn : n ≤ 9223372036854775807) (hp : AskIq g lb p w) :
    Calls Tryz.prog 100 #[.slice A n c, .func (.func g) #[] lb] w fun e w' => ∃ r : Int, e = .returned (.int .i64 r) ∧ -1 ≤ r ∧ r ≤ 9223372036854775807 ∧ Hid (decide (0 ≤ r) = zs.any p) ∧ w = w' := by
  have hla := Lib.hid ha.len
  go_enter Tryz.func100, Tryz.ntmps100
  go_wp2
  go_loop [5, 8] (fun _ i => ∃ k : Nat, k ≤ n ∧ i = .int .i64 k ∧ noneTo p zs k) (fun _ i => n - (intOf i).toNat)
  case atStart => exact ⟨0, Nat.zero_le _, rfl, fun j _ h => absurd h (by omega)⟩
  case round =>
    obtain ⟨k, hk, rfl, hnone⟩ := hrel
    by_cases hlt : k < n
    · obtain ⟨a, rfl, hca, hia⟩ := ha.get hlt
      have hz : zs[k]? = some (nth zs k) := nth_some (by rw [hla.out]; exact hlt)
      have hcall := hp (nth zs k) hia
      cases hq : p (nth zs k) with
      | true =>
        rw [hq] at hcall
        have H := Lib.hid (any_hit hz hq)
        clear hnone hz hq
        go_wp2_with (go_at_fn g; refine hcall.mono ?_; rintro e w1 ⟨rfl, rfl⟩)
        go_ret
        exact ⟨k, rfl, by omega, by omega, Lib.hid (by rw [H.out]; simp), rfl⟩
      | false =>
        rw [hq] at hcall
        have H := Lib.hid (noneTo_step hnone hz hq)
        clear hnone hz hq
        go_wp2_with (go_at_fn g; refine hcall.mono ?_; rintro e w1 ⟨rfl, rfl⟩)
        go_round
        case rel => exact ⟨k + 1, by omega, by go_num, H.out⟩
        case measure => simp [intOf]; omega
    · have H := Lib.hid (show zs.any p = false from noneTo_all (by rw [hla.out]; rwa [show k = n by omega] at hnone))
      clear hnone
      go_wp2
      go_ret
      exact ⟨-1, rfl, by omega, by omega, Lib.hid (by rw [H.out]; simp), rfl⟩
set_option maxHeartbeats 400000 in
theorem containsFuncIq (g : Nat) (lb : Array Value) (eg : ∀ args w, (callFunc g args).run Tryz.prog w = .ok (.enter g args) w) (p : Int → Bool) (A : Option Addr) (n c : Nat) (zs : List Int) (w : World) (ha : RI w A n zs) (hn : n ≤ 9223372036854775807) (hp : AskIq g lb p w) :
    Calls Tryz.prog 81 #[.slice A n c, .func (.func g) #[] lb] w fun e w' => e = .returned (.bool (zs.any p)) ∧ w = w' := by
  go_enter Tryz.func81, Tryz.ntmps81
  go_wp2_with fail
  refine (indexFuncIq g lb eg p A n c zs _ ha hn hp).mono ?_
  rintro e w1 ⟨r, rfl, h1, h2, H, rfl⟩
  go_wp2
  go_ret
  exact ⟨by rw [← H.out]; rfl, rfl⟩
set_option maxHeartbeats 1000000 in
theorem indexFuncR (g : Nat) (lb : Array Value) (eg : ∀ args w, (callFunc g args).run Tryz.prog w = .ok (.enter g args) w) (p : List Int → Bool) (A : Option Addr) (n c : Nat) (zs : List (List Int)) (w : World) (ha : RR w A n zs) (hn : n ≤ 9223372036854775807) (hp : AskR g lb p w) :
    Calls Tryz.prog 58 #[.slice A n c, .func (.func g) #[] lb] w (SomeIdx w (zs.any p)) := by
  have hla := Lib.hid ha.len
  go_enter Tryz.func58, Tryz.ntmps58
  go_wp2
  go_loopw [5, 8] (fun _ i wr => ∃ k : Nat, k ≤ n ∧ i = .int .i64 k ∧ Below w.heap.size w wr ∧ noneTo p zs k) (fun _ i _ => n - (intOf i).toNat)
  case atStart => exact ⟨0, Nat.zero_le _, rfl, Below.refl _ _, fun j _ h => absurd h (by omega)⟩
  case round =>
    obtain ⟨k, hk, rfl, hb, hnone⟩ := hrel
    by_cases hlt : k < n
    · obtain ⟨a, A1, n1, c1, rfl, hca, hn1, hc1, ha1⟩ := (ha.keep hb).get hlt
      have hz : zs[k]? = some (row zs k) := by
        have h : k < zs.length := by rw [hla.out]; exact hlt
        rw [row_get h]; exact List.getElem?_eq_getElem h
      have hcall := hp A1 n1 c1 (row zs k)
      cases hq : p (row zs k) with
      | true =>
        rw [hq] at hcall
        have H := Lib.hid (any_hit hz hq)
        clear hnone hz hq
        go_wp2_with (go_at_fn g; refine (hcall _ hb ha1 hn1 hc1).mono ?_; rintro e w1 ⟨rfl, hb1⟩)
        go_ret
        exact ⟨k, rfl, by omega, by omega, by rw [H.out]; simp, hb.trans (hb1.mono hb.size)⟩
      | false =>
        rw [hq] at hcall
        have H := Lib.hid (noneTo_step hnone hz hq)
        clear hnone hz hq
        go_wp2_with (go_at_fn g; refine (hcall _ hb ha1 hn1 hc1).mono ?_; rintro e w1 ⟨rfl, hb1⟩)
        go_roundw
        case rel => exact ⟨k + 1, by omega, by go_num, hb.trans (hb1.mono hb.size), H.out⟩
        case measure => simp [intOf]; omega
    · have H := Lib.hid (show zs.any p = false from noneTo_all (by rw [hla.out]; rwa [show k = n by omega] at hnone))
      clear hnone
      go_wp2
      go_ret
      exact ⟨-1, rfl, by omega, by omega, by rw [H.out]; simp, hb⟩
set_option maxHeartbeats 400000 in
theorem containsFuncR (g : Nat) (lb : Array Value) (eg : ∀ args w, (callFunc g args).run Tryz.prog w = .ok (.enter g args) w) (p : List Int → Bool) (A : Option Addr) (n c : Nat) (zs : List (List Int)) (w : World) (ha : RR w A n zs) (hn : n ≤ 9223372036854775807) (hp : AskR g lb p w) :
    Calls Tryz.prog 38 #[.slice A n c, .func (.func g) #[] lb] w (RetB w (zs.any p)) := by
  go_enter Tryz.func38, Tryz.ntmps38
  go_wp2_with fail
  refine (indexFuncR g lb eg p A n c zs _ ha hn hp).mono ?_
  rintro e w1 ⟨r, rfl, h1, h2, h3, hb⟩
  have H := Lib.hid h3
  clear h3
  go_wp2
  go_ret
  exact ⟨by rw [← H.out]; rfl, hb⟩
set_option maxHeartbeats 1000000 in
theorem indexFuncRb (g : Nat) (lb : Array Value) (eg : ∀ args w, (callFunc g args).run Tryz.prog w = .ok (.enter g args) w) (p : List Int → Bool) (A : Option Addr) (n c : Nat) (zs : List (List Int)) (w : World) (L : Nat) (ha : RR w A n zs) (hn : n ≤ 9223372036854775807) (hs : smallRows zs L) (hp : AskRb g lb p w L) :
    Calls Tryz.prog 58 #[.slice A n c, .func (.func g) #[] lb] w (SomeIdx w (zs.any p)) := by
  have hla := Lib.hid ha.len
  go_enter Tryz.func58, Tryz.ntmps58
  go_wp2
  go_loopw [5, 8] (fun _ i wr => ∃ k : Nat, k ≤ n ∧ i = .int .i64 k ∧ Below w.heap.size w wr ∧ noneTo p zs k) (fun _ i _ => n - (intOf i).toNat)
  case atStart => exact ⟨0, Nat.zero_le _, rfl, Below.refl _ _, fun j _ h => absurd h (by omega)⟩
  case round =>
    obtain ⟨k, hk, rfl, hb, hnone⟩ := hrel
    by_cases hlt : k < n
    · obtain ⟨a, A1, n1, c1, rfl, hca, hn1, hc1, ha1⟩ := (ha.keep hb).get hlt
      have hz : zs[k]? = some (row zs k) := by
        have h : k < zs.length := by rw [hla.out]; exact hlt
        rw [row_get h]; exact List.getElem?_eq_getElem h
      have hcall := hp A1 n1 c1 (row zs k)
      have hsm : n1 ≤ L := by have := hs k (by rw [hla.out]; exact hlt); rw [ha1.len] at this; exact this
      cases hq : p (row zs k) with
      | true =>
        rw [hq] at hcall
        have H := Lib.hid (any_hit hz hq)
        clear hnone hz hq
        go_wp2_with (go_at_fn g; refine (hcall _ hb ha1 hn1 hc1 hsm).mono ?_; rintro e w1 ⟨rfl, hb1⟩)
        go_ret
        exact ⟨k, rfl, by omega, by omega, by rw [H.out]; simp, hb.trans (hb1.mono hb.size)⟩
      | false =>
        rw [hq] at hcall
        have H := Lib.hid (noneTo_step hnone hz hq)
        clear hnone hz hq
        go_wp2_with (go_at_fn g; refine (hcall _ hb ha1 hn1 hc1 hsm).mono ?_; rintro e w1 ⟨rfl, hb1⟩)
        go_roundw
        case rel => exact ⟨k + 1, by omega, by go_num, hb.trans (hb1.mono hb.size), H.out⟩
        case measure => simp [intOf]; omega
    · have H := Lib.hid (show zs.any p = false from noneTo_all (by rw [hla.out]; rwa [show k = n by omega] at hnone))
      clear hnone
      go_wp2
      go_ret
      exact ⟨-1, rfl, by omega, by omega, by rw [H.out]; simp, hb⟩
set_option maxHeartbeats 400000 in
theorem containsFuncRb (g : Nat) (lb : Array Value) (eg : ∀ args w, (callFunc g args).run Tryz.prog w = .ok (.enter g args) w) (p : List Int → Bool) (A : Option Addr) (n c : Nat) (zs : List (List Int)) (w : World) (L : Nat) (ha : RR w A n zs) (hn : n ≤ 9223372036854775807) (hs : smallRows zs L) (hp : AskRb g lb p w L) :
    Calls Tryz.prog 38 #[.slice A n c, .func (.func g) #[] lb] w (RetB w (zs.any p)) := by
  go_enter Tryz.func38, Tryz.ntmps38
  go_wp2_with fail
  refine (indexFuncRb g lb eg p A n c zs _ L ha hn hs hp).mono ?_
  rintro e w1 ⟨r, rfl, h1, h2, h3, hb⟩
  have H := Lib.hid h3
  clear h3
  go_wp2
  go_ret
  exact ⟨by rw [← H.out]; rfl, hb⟩
end Go.Proofs.YtncknfhfkmmhbaaGreat
