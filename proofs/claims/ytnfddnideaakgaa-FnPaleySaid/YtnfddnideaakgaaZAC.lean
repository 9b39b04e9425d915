/- Functions that compare slices of numbers, and slices of such slices: they return whether the lists are equal, and only read. No condition beyond those stated. -/
import Derived.Test.YtnfddnideaakgaaProg
import Derived.Test.YtnfddnideaakgaaZAB
import Derived.Deep.QuietTactic
import Derived.BigQuiet
import Derived.Test.YtnfddnideaakgaaZAA
set_option linter.unusedVariables false
set_option linter.unusedSimpArgs false
namespace Go.Proofs.Ytnfddnideaakgaa
open Go.RowKit

/-- a call that only reads, and what it returns -/
def Drawn (w w' : World) : Prop := ∃ q, w' = w.drewN q
theorem Drawn.refl (w : World) : Drawn w w := ⟨0, rfl⟩
theorem Drawn.trans {a b c : World} (h : Drawn a b) (k : Drawn b c) : Drawn a c := by
  obtain ⟨p, rfl⟩ := h
  obtain ⟨q, rfl⟩ := k
  exact ⟨p + q, World.drewN_drewN _ _ _⟩
theorem Drawn.more {a b : World} (h : Drawn a b) (q : Nat) : Drawn a (b.drewN q) := h.trans ⟨q, rfl⟩
theorem Drawn.below {a b : World} (h : Drawn a b) : Below a.heap.size a b := by
  obtain ⟨p, rfl⟩ := h
  exact below_drewn _ _
theorem RI.drawn {w w' : World} {A n zs} (h : RI w A n zs) (q : Drawn w w') : RI w' A n zs := h.keep q.below
theorem RR.drawn {w w' : World} {A n zs} (h : RR w A n zs) (q : Drawn w w') : RR w' A n zs := h.keep q.below
def Quiet (w : World) (v : Value) (e : Ending) (w' : World) : Prop := e = .returned v ∧ Drawn w w'
theorem Quiet.of_same {w w' : World} {v : Value} {e : Ending} (h : e = .returned v ∧ w = w') : Quiet w v e w' := ⟨h.1, h.2 ▸ Drawn.refl w⟩
theorem RI.drewN {w : World} {A n zs} (h : RI w A n zs) (q : Nat) : RI (w.drewN q) A n zs := h.keep (below_drewn w q)
theorem RR.drewN {w : World} {A n zs} (h : RR w A n zs) (q : Nat) : RR (w.drewN q) A n zs := h.keep (below_drewn w q)
theorem Quiet.call {P : Program} {f : FuncId} {args : Array Value} {w : World} {n : Nat} {v : Value} (h : Calls P f args (w.drewN n) (Quiet (w.drewN n) v)) :
    Calls P f args (w.drewN n) fun e w'' => e = .returned v ∧ ∃ m, w'' = w.drewN m := Calls.quiet_of (h.mono fun _ _ h => h)

/-- the first k places of two lists agree -/
def upTo (xs ys : List Int) (k : Nat) : Prop := ∀ j, j < k → nth xs j = nth ys j
theorem upTo_all {xs ys : List Int} (h : xs.length = ys.length) (k : upTo xs ys xs.length) : xs = ys := by
  apply List.ext_getElem h
  intro i h1 h2
  have := k i h1
  rwa [nth_get h1, nth_get h2] at this
theorem upTo_step {xs ys : List Int} {k : Nat} (h : upTo xs ys k) (he : nth xs k = nth ys k) : upTo xs ys (k + 1) := fun j hj => by
  rcases Nat.lt_succ_iff_lt_or_eq.1 hj with h' | h'
  · exact h j h'
  · rw [h']; exact he
def upToR (xs ys : List (List Int)) (k : Nat) : Prop := ∀ j, j < k → row xs j = row ys j
theorem upToR_all {xs ys : List (List Int)} (h : xs.length = ys.length) (k : upToR xs ys xs.length) : xs = ys := by
  apply List.ext_getElem h
  intro i h1 h2
  have := k i h1
  rwa [row_get h1, row_get h2] at this
theorem upToR_step {xs ys : List (List Int)} {k : Nat} (h : upToR xs ys k) (he : row xs k = row ys k) : upToR xs ys (k + 1) := fun j hj => by
  rcases Nat.lt_succ_iff_lt_or_eq.1 hj with h' | h'
  · exact h j h'
  · rw [h']; exact he



set_option maxHeartbeats 400000 in
theorem slicesEqual_any (A B : Option Addr) (n m c d : Nat) (xs ys : List Int) (w : World) (ha : RI w A n xs) (hb : RI w B m ys) (hn : n ≤ 9223372036854775807) (hm : m ≤ 9223372036854775807) :
    Calls Try.prog 18 #[.slice A n c, .slice B m d] w (Quiet w (.bool (decide (xs = ys)))) := by
  have hla := Lib.hid ha.len
  have hlb := Lib.hid hb.len
  by_cases h : n = m
  · subst h
    go_enter Try.func18, Try.ntmps18
    go_wp2
    go_loopw [5, 13] (fun _ i wr => ∃ k : Nat, k ≤ n ∧ i = .int .i64 k ∧ Drawn w wr ∧ upTo xs ys k) (fun _ i _ => n - (intOf i).toNat)
    case atStart => exact ⟨0, Nat.zero_le _, rfl, Drawn.refl _, fun _ h => absurd h (by omega)⟩
    case round =>
      obtain ⟨k, hk, rfl, hd, hu⟩ := hrel
      by_cases hlt : k < n
      · obtain ⟨a, rfl, hca, hia⟩ := (ha.drawn hd).get hlt
        obtain ⟨b, rfl, hcb, hib⟩ := (hb.drawn hd).get hlt
        by_cases he : nth xs k = nth ys k
        · have he' : (nth xs k != nth ys k) = false := by simp [he]
          have H := Lib.hid (upTo_step hu he); clear hu he
          go_wp2
          go_quiet (fail)
          go_wp2
          go_roundw
          case rel => exact ⟨k + 1, by omega, by go_num, hd.more _, H.out⟩
          case measure => simp [intOf]; omega
        · have he' : (nth xs k != nth ys k) = true := by simp [he]
          have H := Lib.hid (show decide (xs = ys) = false by simp; rintro rfl; exact he rfl)
          clear he hu
          go_wp2
          go_quiet (fail)
          go_wp2
          go_ret
          exact ⟨by rw [H.out]; rfl, hd.more _⟩
      · have H := Lib.hid (show decide (xs = ys) = true by simp; exact upTo_all (by rw [hla.out, hlb.out]) (fun j hj => hu j (by have := hla.out; omega)))
        clear hu
        go_wp2
        go_ret
        exact ⟨by rw [H.out]; rfl, hd⟩
  · have h' : ((n : Int) != (m : Int)) = true := by simp; omega
    have H := Lib.hid (show decide (xs = ys) = false by simp; rintro rfl; exact h (hla.out.symm.trans hlb.out))
    clear h
    go_enter Try.func18, Try.ntmps18
    go_wp2
    go_ret
    exact ⟨by rw [H.out]; rfl, Drawn.refl _⟩



end Go.Proofs.Ytnfddnideaakgaa
/- Plain mathematics of the objects: matrices with two signs, permutations, sets of points, lists in order. No program in sight. -/
namespace Go.Proofs.Ytnfddnideaakgaa

noncomputable def tB (p : Prop) : Bool := @decide p (Classical.propDecidable p)
theorem tB_yes {p : Prop} (h : p) : tB p = true := by unfold tB; exact @decide_eq_true p (Classical.propDecidable p) h
theorem tB_no {p : Prop} (h : ¬ p) : tB p = false := by unfold tB; exact @decide_eq_false p (Classical.propDecidable p) h
theorem tB_true {p : Prop} : tB p = true ↔ p := by unfold tB; exact @decide_eq_true_iff p (Classical.propDecidable p)
theorem tB_congr {p q : Prop} (h : p ↔ q) : tB p = tB q := by
  by_cases hp : p
  · rw [tB_yes hp, tB_yes (h.1 hp)]
  · rw [tB_no hp, tB_no (fun hq => hp (h.2 hq))]

/-! matrices with two signs -/
def dotTo (a b : List Int) : Nat → Int
  | 0 => 0
  | k + 1 => dotTo a b k + nth a k * nth b k
def PM (a : List Int) (n : Nat) : Prop := ∀ k, k < n → nth a k = 1 ∨ nth a k = -1
theorem pm_mul {a b : List Int} {n k : Nat} (ha : PM a n) (hb : PM b n) (hk : k < n) : -1 ≤ nth a k * nth b k ∧ nth a k * nth b k ≤ 1 := by
  rcases ha k hk with h | h <;> rcases hb k hk with h' | h' <;> rw [h, h'] <;> omega
theorem dotTo_bd {a b : List Int} {n k : Nat} (ha : PM a n) (hb : PM b n) (hk : k ≤ n) : -(k : Int) ≤ dotTo a b k ∧ dotTo a b k ≤ k := by
  induction k with
  | zero => simp [dotTo]
  | succ k ih =>
    have h1 := ih (by omega)
    have h2 := pm_mul ha hb (show k < n by omega)
    simp only [dotTo]
    omega
def HadRow (h : List (List Int)) (i : Nat) : Prop := (row h i).length = h.length ∧ PM (row h i) h.length
def HadPair (h : List (List Int)) (i k : Nat) : Prop := dotTo (row h i) (row h k) h.length = 0
def Had (h : List (List Int)) : Prop := 1 ≤ h.length ∧ h.length ≤ 32 ∧ (∀ i, i < h.length → HadRow h i) ∧ ∀ i, i < h.length → ∀ k, k < i → HadPair h i k

/-! lists in order -/
def cmpL : List Int → List Int → Int
  | [], [] => 0
  | [], _ :: _ => -1
  | _ :: _, [] => 1
  | x :: xs, y :: ys => if x < y then -1 else if y < x then 1 else cmpL xs ys
theorem cmpL_bd (xs ys : List Int) : -1 ≤ cmpL xs ys ∧ cmpL xs ys ≤ 1 := by
  induction xs generalizing ys with
  | nil => cases ys <;> simp [cmpL]
  | cons x xs ih =>
    cases ys with
    | nil => simp [cmpL]
    | cons y ys =>
      simp only [cmpL]
      split
      · omega
      · split
        · omega
        · exact ih ys
theorem nth_succ (x : Int) (xs : List Int) (k : Nat) : nth (x :: xs) (k + 1) = nth xs k := by simp [nth, List.getD]
theorem nth_zero (x : Int) (xs : List Int) : nth (x :: xs) 0 = x := by simp [nth, List.getD]
/-- the first k places of both lists are there and agree -/
def agree (xs ys : List Int) (k : Nat) : Prop := k ≤ xs.length ∧ k ≤ ys.length ∧ ∀ j, j < k → nth xs j = nth ys j
theorem agree_zero (xs ys : List Int) : agree xs ys 0 := ⟨Nat.zero_le _, Nat.zero_le _, fun _ h => absurd h (by omega)⟩
theorem agree_step {xs ys : List Int} {k : Nat} (h : agree xs ys k) (h1 : k < xs.length) (h2 : k < ys.length) (he : nth xs k = nth ys k) : agree xs ys (k + 1) :=
  ⟨h1, h2, fun j hj => by
    rcases Nat.lt_succ_iff_lt_or_eq.1 hj with h' | h'
    · exact h.2.2 j h'
    · rw [h']; exact he⟩
theorem cmpL_agree {xs ys : List Int} {k : Nat} (h : agree xs ys k) : cmpL xs ys = cmpL (xs.drop k) (ys.drop k) := by
  induction k generalizing xs ys with
  | zero => simp
  | succ k ih =>
    obtain ⟨h1, h2, h3⟩ := h
    cases xs with
    | nil => simp at h1
    | cons x xs =>
      cases ys with
      | nil => simp at h2
      | cons y ys =>
        have e := h3 0 (by omega)
        rw [nth_zero, nth_zero] at e
        subst e
        simp only [cmpL, Int.lt_irrefl, if_false, List.drop_succ_cons]
        refine ih ⟨by simpa using h1, by simpa using h2, fun j hj => ?_⟩
        have := h3 (j + 1) (by omega)
        rwa [nth_succ, nth_succ] at this
theorem cmpL_lt {xs ys : List Int} {k : Nat} (h : agree xs ys k) (h1 : k < xs.length) (h2 : k < ys.length) (he : nth xs k < nth ys k) : cmpL xs ys = -1 := by
  rw [cmpL_agree h, List.drop_eq_getElem_cons h1, List.drop_eq_getElem_cons h2, cmpL, if_pos (by rw [← nth_get h1, ← nth_get h2]; exact he)]
theorem cmpL_gt {xs ys : List Int} {k : Nat} (h : agree xs ys k) (h1 : k < xs.length) (h2 : k < ys.length) (he : nth ys k < nth xs k) : cmpL xs ys = 1 := by
  rw [cmpL_agree h, List.drop_eq_getElem_cons h1, List.drop_eq_getElem_cons h2, cmpL, if_neg (by rw [← nth_get h1, ← nth_get h2]; omega), if_pos (by rw [← nth_get h1, ← nth_get h2]; exact he)]
theorem cmpL_short {xs ys : List Int} (h : agree xs ys xs.length) (h2 : xs.length < ys.length) : cmpL xs ys = -1 := by
  rw [cmpL_agree h, List.drop_eq_getElem_cons h2, List.drop_eq_nil_of_le (Nat.le_refl _)]
  rfl
theorem cmpL_long {xs ys : List Int} (h : agree xs ys ys.length) (h2 : ys.length < xs.length) : cmpL xs ys = 1 := by
  rw [cmpL_agree h, List.drop_eq_getElem_cons h2, List.drop_eq_nil_of_le (Nat.le_refl _)]
  rfl
theorem cmpL_same {xs ys : List Int} (h : agree xs ys xs.length) (h2 : xs.length = ys.length) : cmpL xs ys = 0 := by
  rw [cmpL_agree h, List.drop_eq_nil_of_le (Nat.le_refl _), List.drop_eq_nil_of_le (by omega)]
  rfl
theorem cmpL_zero {xs ys : List Int} (h : cmpL xs ys = 0) : xs = ys := by
  induction xs generalizing ys with
  | nil => cases ys <;> simp [cmpL] at h ⊢
  | cons x xs ih =>
    cases ys with
    | nil => simp [cmpL] at h
    | cons y ys =>
      simp only [cmpL] at h
      split at h
      · simp at h
      · split at h
        · simp at h
        · rw [ih h]
          congr 1
          omega
theorem cmpL_refl (xs : List Int) : cmpL xs xs = 0 := cmpL_same ⟨Nat.le_refl _, Nat.le_refl _, fun _ _ => rfl⟩ rfl
theorem cmpL_swap (xs ys : List Int) : cmpL ys xs = -cmpL xs ys := by
  induction xs generalizing ys with
  | nil => cases ys <;> simp [cmpL]
  | cons x xs ih =>
    cases ys with
    | nil => simp [cmpL]
    | cons y ys =>
      simp only [cmpL]
      by_cases h1 : x < y
      · rw [if_neg (by omega), if_pos h1, if_pos h1]; rfl
      · by_cases h2 : y < x
        · rw [if_pos h2, if_neg h1, if_pos h2]
        · rw [if_neg h2, if_neg h1, if_neg h1, if_neg h2]; exact ih ys
theorem cmpL_trans {xs ys zs : List Int} (h1 : cmpL xs ys ≤ 0) (h2 : cmpL ys zs ≤ 0) : cmpL xs zs ≤ 0 := by
  induction xs generalizing ys zs with
  | nil => cases zs <;> simp [cmpL]
  | cons x xs ih =>
    cases ys with
    | nil => simp [cmpL] at h1
    | cons y ys =>
      cases zs with
      | nil => simp [cmpL] at h2
      | cons z zs =>
        simp only [cmpL] at h1 h2 ⊢
        split at h1
        · split at h2
          · rw [if_pos (by omega)]; omega
          · split at h2
            · omega
            · rw [if_pos (by omega)]; omega
        · split at h1
          · omega
          · split at h2
            · rw [if_pos (by omega)]; omega
            · split at h2
              · omega
              · rw [if_neg (by omega), if_neg (by omega)]
                exact ih h1 h2

/-! permutations -/
structure Perm (p : List Int) : Prop where
  bd : ∀ k, k < p.length → 0 ≤ nth p k ∧ nth p k < p.length
  ne : ∀ i j, i < j → j < p.length → nth p i ≠ nth p j
def PermOk (p : List Int) : Prop := p.length ≤ 32 ∧ Perm p
def Square (a : List (List Int)) : Prop := 1 ≤ a.length ∧ a.length ≤ 10 ∧ (∀ i, i < a.length → (row a i).length = a.length ∧ Perm (row a i)) ∧
  ∀ y, y < a.length → Perm (a.map fun r => nth r y)

/-! sets of points, designs, arrays -/
/-- a list rises from lo on, below hi -/
structure Rises (z : List Int) (lo hi : Int) : Prop where
  bd : ∀ k, k < z.length → lo ≤ nth z k ∧ nth z k ≤ hi
  up : ∀ k, k + 1 < z.length → nth z k < nth z (k + 1)
def Block (z : List Int) (v : Int) : Prop := 0 < z.length ∧ Rises z 0 (v - 1)
structure Design (v : Int) (bs : List (List Int)) : Prop where
  v1 : 1 ≤ v
  v2 : v ≤ 32
  len : bs.length ≤ 128
  blk : ∀ i, i < bs.length → Block (row bs i) v
  ord : ∀ i, i + 1 < bs.length → cmpL (row bs i) (row bs (i + 1)) ≤ 0
structure Array' (l c : Int) (rs : List (List Int)) : Prop where
  l1 : 2 ≤ l
  l2 : l ≤ 16
  c1 : 1 ≤ c
  c2 : c ≤ 8
  len : rs.length ≤ 256
  row : ∀ i, i < rs.length → ((row rs i).length : Int) = c ∧ ∀ k, k < (row rs i).length → 0 ≤ nth (row rs i) k ∧ nth (row rs i) k ≤ l - 1
end Go.Proofs.Ytnfddnideaakgaa
