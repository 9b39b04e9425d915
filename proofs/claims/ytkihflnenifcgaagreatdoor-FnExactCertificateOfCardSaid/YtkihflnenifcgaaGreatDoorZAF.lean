/- Copies of lists, on both sides: memory of the call's own that reads the same. No condition beyond those stated. -/
import Derived.Test.YtkihflnenifcgaaGreatDoorZAB
import Derived.Test.YtkihflnenifcgaaGreatDoorZAD
import Derived.Test.YtkihflnenifcgaaGreatDoorZAA
set_option linter.unusedVariables false
set_option linter.unusedSimpArgs false
namespace Go.Proofs.YtkihflnenifcgaaGreatDoor
open Go.RowKit

theorem RI.all64 {w : World} {A : Option Addr} {n : Nat} {zs : List Int} (h : RI w A n zs) : All64 zs := fun z hz => by
  obtain ⟨j, hj, rfl⟩ := List.mem_iff_getElem.1 hz
  obtain ⟨ad, ha, hc, hi⟩ := h.get (k := j) (by rw [← h.len]; exact hj)
  rwa [nth_get hj] at hi
theorem RI.news {w : World} {A : Option Addr} {n : Nat} {zs : List Int} (h : RI w A n zs) : ∀ j u, (ints zs)[j]? = some u → ∃ ad, A = some ad ∧ w.cell? (ad.add j) = some u := fun j u hu => by
  rw [ints, List.getElem?_map] at hu
  cases hz : zs[j]? with
  | none => rw [hz] at hu; simp at hu
  | some z =>
    rw [hz] at hu
    obtain ⟨ad, v, ha, hc, rfl, _⟩ := RS.at_ h j z hz
    injection hu with hu
    subst hu
    exact ⟨ad, ha, hc⟩

set_option maxHeartbeats 400000 in
theorem sizeI_any (A : Option Addr) (n c : Nat) (w : World) (_ : n ≤ 9223372036854775807) : Calls Tryz.prog 23 #[.slice A n c] w fun e w' => e = .returned (.int .i64 n) ∧ w = w' := by
  go_enter Tryz.func23, Tryz.ntmps23
  go_wp2
  go_ret
  exact ⟨rfl, rfl⟩

set_option maxHeartbeats 400000 in
theorem clone_any (A : Option Addr) (n c : Nat) (zs : List Int) (w : World) (ha : RI w A n zs) (hn : n ≤ 1099511627776) :
    Calls Tryz.prog 50 #[.slice A n c] w (RetI w 2 zs) := by
  have hq := fun (wx : World) => Lib.run_eql_slice_nil (P := Tryz.prog) wx 24 2 A n c 0 0 Tryz.underlying24
  cases A with
  | none =>
    have h0 : zs = [] := by
      rcases Nat.eq_zero_or_pos n with h | h
      · exact List.eq_nil_of_length_eq_zero (by rw [ha.len, h])
      · obtain ⟨ad, h', _⟩ := ha.get h
        cases h'
    subst h0
    simp only [Option.isNone_none] at hq
    go_enter Tryz.func50, Tryz.ntmps50
    go_wp2
    go_ret
    exact ⟨_, _, _, rfl, OI.nil_ _ _ _, Below.refl _ _⟩
  | some a =>
    simp only [Option.isNone_some] at hq
    have ho := OI.lit w w.heap.size 2 [] (Nat.le_refl _) (by simp) All64.nil_
    have hb := below_alloc w (.cells (ints []).toArray 2)
    have hr := ha.keep hb
    have hl := Lib.hid ha.len
    have hal := ha.all64
    clear ha
    go_enter Tryz.func50, Tryz.ntmps50
    go_wp2_with (at_builtin; refine wpList_app _ rfl _ _ 24 rfl 2 (.int .i64 0) 1 8 Tryz.underlying24 int_info rfl (by omega) (by omega) w.heap.size _ 0 0 (ints []) rfl ho.os _ n c (ints zs) rfl (by simp [ints, hl.out]) hr.news (ints_oneCell _) (by omega) (by simp) ?_; intro A2 c2 w2 ho2 hg2 hn2)
    have hw2 := below_own hb hg2 (by simp) (fun b hb => (ho.os.lt hb).1)
    have hi2 := OI.cat ho2 All64.nil_ hal
    clear ho hb hr ho2 hg2 hn2
    go_wp2
    go_ret
    exact ⟨A2, n, c2, by simp, by simpa using hi2, hw2⟩
set_option maxHeartbeats 400000 in
theorem l00Own_any (A : Option Addr) (n c : Nat) (zs : List Int) (w : World) (ha : RI w A n zs) (hn : n ≤ 1099511627776) :
    Calls Tryz.prog 94 #[.slice A n c] w (RetI w 2 zs) := by
  have ho := OI.lit w w.heap.size 2 [] (Nat.le_refl _) (by simp) All64.nil_
  have hb := below_alloc w (.cells (ints []).toArray 2)
  have hr := ha.keep hb
  have hl := Lib.hid ha.len
  have hal := ha.all64
  clear ha
  go_enter Tryz.func94, Tryz.ntmps94
  go_wp2_with (at_builtin; refine wpList_app _ rfl _ _ 24 rfl 2 (.int .i64 0) 1 8 Tryz.underlying24 int_info rfl (by omega) (by omega) w.heap.size _ 0 0 (ints []) rfl ho.os _ n c (ints zs) rfl (by simp [ints, hl.out]) hr.news (ints_oneCell _) (by omega) (by simp) ?_; intro A2 c2 w2 ho2 hg2 hn2)
  have hw2 := below_own hb hg2 (by simp) (fun b hb => (ho.os.lt hb).1)
  have hi2 := OI.cat ho2 All64.nil_ hal
  clear ho hb hr ho2 hg2 hn2
  go_wp2
  go_ret
  exact ⟨A2, n, c2, by simp, by simpa using hi2, hw2⟩
theorem row_le_cells (zss : List (List Int)) {j : Nat} (h : j < zss.length) : (row zss j).length ≤ cells zss := by
  have h1 := cells_take zss h
  have h2 := cells_le zss (j + 1)
  omega
theorem take_row {zss : List (List Int)} {j : Nat} (h : j < zss.length) : zss.take (j + 1) = zss.take j ++ [row zss j] := by
  rw [List.take_succ_eq_append_getElem h, row_get h]
theorem OR.of_own {w : World} {B : Nat} {e2 e1 : TypeId} {A : Option Addr} {n c : Nat} (h : OS w B e2 1 A n c []) (hne : e2 ≠ e1) : OR w B e2 e1 A n c [] :=
  ⟨[], by simpa using h, rfl, fun _ _ _ h => by simp at h, fun _ _ _ _ _ h => by simp at h, hne⟩


end Go.Proofs.YtkihflnenifcgaaGreatDoor
/- Plain mathematics of the objects: matrices with two signs, permutations, sets of points, lists in order. No program in sight. -/
namespace Go.Proofs.YtkihflnenifcgaaGreatDoor

noncomputable def tB (p : Prop) : Bool := @decide p (Classical.propDecidable p)
theorem tB_yes {p : Prop} (h : p) : tB p = true := by unfold tB; exact @decide_eq_true p (Classical.propDecidable p) h
theorem tB_no {p : Prop} (h : ¬ p) : tB p = false := by unfold tB; exact @decide_eq_false p (Classical.propDecidable p) h
theorem tB_true {p : Prop} : tB p = true ↔ p := by unfold tB; exact @decide_eq_true_iff p (Classical.propDecidable p)
theorem tB_congr {p q : Prop} (h : p ↔ q) : tB p = tB q := by
  by_cases hp : p
  · rw [tB_yes hp, tB_yes (h.1 hp)]
  · rw [tB_no hp, tB_no (fun hq => hp (h.2 hq))]

/-! matrices with two signs -/
def dotTo (a b : List Int) : Nat → Int
  | 0 => 0
  | k + 1 => dotTo a b k + nth a k * nth b k
def PM (a : List Int) (n : Nat) : Prop := ∀ k, k < n → nth a k = 1 ∨ nth a k = -1
theorem pm_mul {a b : List Int} {n k : Nat} (ha : PM a n) (hb : PM b n) (hk : k < n) : -1 ≤ nth a k * nth b k ∧ nth a k * nth b k ≤ 1 := by
  rcases ha k hk with h | h <;> rcases hb k hk with h' | h' <;> rw [h, h'] <;> omega
theorem dotTo_bd {a b : List Int} {n k : Nat} (ha : PM a n) (hb : PM b n) (hk : k ≤ n) : -(k : Int) ≤ dotTo a b k ∧ dotTo a b k ≤ k := by
  induction k with
  | zero => simp [dotTo]
  | succ k ih =>
    have h1 := ih (by omega)
    have h2 := pm_mul ha hb (show k < n by omega)
    simp only [dotTo]
    omega
def HadRow (h : List (List Int)) (i : Nat) : Prop := (row h i).length = h.length ∧ PM (row h i) h.length
def HadPair (h : List (List Int)) (i k : Nat) : Prop := dotTo (row h i) (row h k) h.length = 0
def Had (h : List (List Int)) : Prop := 1 ≤ h.length ∧ h.length ≤ 32 ∧ (∀ i, i < h.length → HadRow h i) ∧ ∀ i, i < h.length → ∀ k, k < i → HadPair h i k

/-! lists in order -/
def cmpL : List Int → List Int → Int
  | [], [] => 0
  | [], _ :: _ => -1
  | _ :: _, [] => 1
  | x :: xs, y :: ys => if x < y then -1 else if y < x then 1 else cmpL xs ys
theorem cmpL_bd (xs ys : List Int) : -1 ≤ cmpL xs ys ∧ cmpL xs ys ≤ 1 := by
  induction xs generalizing ys with
  | nil => cases ys <;> simp [cmpL]
  | cons x xs ih =>
    cases ys with
    | nil => simp [cmpL]
    | cons y ys =>
      simp only [cmpL]
      split
      · omega
      · split
        · omega
        · exact ih ys
theorem nth_succ (x : Int) (xs : List Int) (k : Nat) : nth (x :: xs) (k + 1) = nth xs k := by simp [nth, List.getD]
theorem nth_zero (x : Int) (xs : List Int) : nth (x :: xs) 0 = x := by simp [nth, List.getD]
/-- the first k places of both lists are there and agree -/
def agree (xs ys : List Int) (k : Nat) : Prop := k ≤ xs.length ∧ k ≤ ys.length ∧ ∀ j, j < k → nth xs j = nth ys j
theorem agree_zero (xs ys : List Int) : agree xs ys 0 := ⟨Nat.zero_le _, Nat.zero_le _, fun _ h => absurd h (by omega)⟩
theorem agree_step {xs ys : List Int} {k : Nat} (h : agree xs ys k) (h1 : k < xs.length) (h2 : k < ys.length) (he : nth xs k = nth ys k) : agree xs ys (k + 1) :=
  ⟨h1, h2, fun j hj => by
    rcases Nat.lt_succ_iff_lt_or_eq.1 hj with h' | h'
    · exact h.2.2 j h'
    · rw [h']; exact he⟩
theorem cmpL_agree {xs ys : List Int} {k : Nat} (h : agree xs ys k) : cmpL xs ys = cmpL (xs.drop k) (ys.drop k) := by
  induction k generalizing xs ys with
  | zero => simp
  | succ k ih =>
    obtain ⟨h1, h2, h3⟩ := h
    cases xs with
    | nil => simp at h1
    | cons x xs =>
      cases ys with
      | nil => simp at h2
      | cons y ys =>
        have e := h3 0 (by omega)
        rw [nth_zero, nth_zero] at e
        subst e
        simp only [cmpL, Int.lt_irrefl, if_false, List.drop_succ_cons]
        refine ih ⟨by simpa using h1, by simpa using h2, fun j hj => ?_⟩
        have := h3 (j + 1) (by omega)
        rwa [nth_succ, nth_succ] at this
theorem cmpL_lt {xs ys : List Int} {k : Nat} (h : agree xs ys k) (h1 : k < xs.length) (h2 : k < ys.length) (he : nth xs k < nth ys k) : cmpL xs ys = -1 := by
  rw [cmpL_agree h, List.drop_eq_getElem_cons h1, List.drop_eq_getElem_cons h2, cmpL, if_pos (by rw [← nth_get h1, ← nth_get h2]; exact he)]
theorem cmpL_gt {xs ys : List Int} {k : Nat} (h : agree xs ys k) (h1 : k < xs.length) (h2 : k < ys.length) (he : nth ys k < nth xs k) : cmpL xs ys = 1 := by
  rw [cmpL_agree h, List.drop_eq_getElem_cons h1, List.drop_eq_getElem_cons h2, cmpL, if_neg (by rw [← nth_get h1, ← nth_get h2]; omega), if_pos (by rw [← nth_get h1, ← nth_get h2]; exact he)]
theorem cmpL_short {xs ys : List Int} (h : agree xs ys xs.length) (h2 : xs.length < ys.length) : cmpL xs ys = -1 := by
  rw [cmpL_agree h, List.drop_eq_getElem_cons h2, List.drop_eq_nil_of_le (Nat.le_refl _)]
  rfl
theorem cmpL_long {xs ys : List Int} (h : agree xs ys ys.length) (h2 : ys.length < xs.length) : cmpL xs ys = 1 := by
  rw [cmpL_agree h, List.drop_eq_getElem_cons h2, List.drop_eq_nil_of_le (Nat.le_refl _)]
  rfl
theorem cmpL_same {xs ys : List Int} (h : agree xs ys xs.length) (h2 : xs.length = ys.length) : cmpL xs ys = 0 := by
  rw [cmpL_agree h, List.drop_eq_nil_of_le (Nat.le_refl _), List.drop_eq_nil_of_le (by omega)]
  rfl
theorem cmpL_zero {xs ys : List Int} (h : cmpL xs ys = 0) : xs = ys := by
  induction xs generalizing ys with
  | nil => cases ys <;> simp [cmpL] at h ⊢
  | cons x xs ih =>
    cases ys with
    | nil => simp [cmpL] at h
    | cons y ys =>
      simp only [cmpL] at h
      split at h
      · simp at h
      · split at h
        · simp at h
        · rw [ih h]
          congr 1
          omega
theorem cmpL_refl (xs : List Int) : cmpL xs xs = 0 := cmpL_same ⟨Nat.le_refl _, Nat.le_refl _, fun _ _ => rfl⟩ rfl
theorem cmpL_swap (xs ys : List Int) : cmpL ys xs = -cmpL xs ys := by
  induction xs generalizing ys with
  | nil => cases ys <;> simp [cmpL]
  | cons x xs ih =>
    cases ys with
    | nil => simp [cmpL]
    | cons y ys =>
      simp only [cmpL]
      by_cases h1 : x < y
      · rw [if_neg (by omega), if_pos h1, if_pos h1]; rfl
      · by_cases h2 : y < x
        · rw [if_pos h2, if_neg h1, if_pos h2]
        · rw [if_neg h2, if_neg h1, if_neg h1, if_neg h2]; exact ih ys
theorem cmpL_trans {xs ys zs : List Int} (h1 : cmpL xs ys ≤ 0) (h2 : cmpL ys zs ≤ 0) : cmpL xs zs ≤ 0 := by
  induction xs generalizing ys zs with
  | nil => cases zs <;> simp [cmpL]
  | cons x xs ih =>
    cases ys with
    | nil => simp [cmpL] at h1
    | cons y ys =>
      cases zs with
      | nil => simp [cmpL] at h2
      | cons z zs =>
        simp only [cmpL] at h1 h2 ⊢
        split at h1
        · split at h2
          · rw [if_pos (by omega)]; omega
          · split at h2
            · omega
            · rw [if_pos (by omega)]; omega
        · split at h1
          · omega
          · split at h2
            · rw [if_pos (by omega)]; omega
            · split at h2
              · omega
              · rw [if_neg (by omega), if_neg (by omega)]
                exact ih h1 h2

/-! permutations -/
structure Perm (p : List Int) : Prop where
  bd : ∀ k, k < p.length → 0 ≤ nth p k ∧ nth p k < p.length
  ne : ∀ i j, i < j → j < p.length → nth p i ≠ nth p j
def PermOk (p : List Int) : Prop := p.length ≤ 32 ∧ Perm p
def Square (a : List (List Int)) : Prop := 1 ≤ a.length ∧ a.length ≤ 10 ∧ (∀ i, i < a.length → (row a i).length = a.length ∧ Perm (row a i)) ∧
  ∀ y, y < a.length → Perm (a.map fun r => nth r y)

/-! sets of points, designs, arrays -/
/-- a list rises from lo on, below hi -/
structure Rises (z : List Int) (lo hi : Int) : Prop where
  bd : ∀ k, k < z.length → lo ≤ nth z k ∧ nth z k ≤ hi
  up : ∀ k, k + 1 < z.length → nth z k < nth z (k + 1)
def Block (z : List Int) (v : Int) : Prop := 0 < z.length ∧ Rises z 0 (v - 1)
structure Design (v : Int) (bs : List (List Int)) : Prop where
  v1 : 1 ≤ v
  v2 : v ≤ 32
  len : bs.length ≤ 128
  blk : ∀ i, i < bs.length → Block (row bs i) v
  ord : ∀ i, i + 1 < bs.length → cmpL (row bs i) (row bs (i + 1)) ≤ 0
structure Array' (l c : Int) (rs : List (List Int)) : Prop where
  l1 : 2 ≤ l
  l2 : l ≤ 16
  c1 : 1 ≤ c
  c2 : c ≤ 8
  len : rs.length ≤ 256
  row : ∀ i, i < rs.length → ((row rs i).length : Int) = c ∧ ∀ k, k < (row rs i).length → 0 ≤ nth (row rs i) k ∧ nth (row rs i) k ≤ l - 1
end Go.Proofs.YtkihflnenifcgaaGreatDoor
