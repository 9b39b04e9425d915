/- Whether a number lies between two others: what the function of each side returns. No condition. -/
import Derived.Test.YtnmcmologlgccaaGreatSZAC
import Derived.Shelf.SlSortCmp.Whole1
import Derived.Shelf.SlSortCmp.NoneTotal
import Derived.Ground.SlsfProg
import Derived.Shelf.SlSortCmp.WholeK
set_option linter.unusedVariables false
set_option linter.unusedSimpArgs false
namespace Go.Proofs.YtnmcmologlgccaaGreat
open Go.RowKit
set_option maxHeartbeats 400000 in
theorem l00In_any (a lo hi : Int) (w : World) :
    Calls Tryz.prog 38 #[.int .i64 a, .int .i64 lo, .int .i64 hi] w fun e w' => e = .returned (.bool (inB a lo hi)) ∧ w = w' := by
  go_enter Tryz.func38, Tryz.ntmps38
  go_wp2
  · go_ret
    have h : lo ≤ a := by assumption
    exact ⟨by simp [inB, h], rfl⟩
  · go_ret
    have h : a < lo := by assumption
    exact ⟨by simp [inB, show ¬ lo ≤ a by omega], rfl⟩
set_option maxHeartbeats 400000 in
theorem within_any (a lo hi : Int) (w : World) :
    Calls Tryz.prog 30 #[.int .i64 a, .int .i64 lo, .int .i64 hi] w fun e w' => e = .returned (.bool (inB a lo hi)) ∧ w = w' := by
  go_enter Tryz.func30, Tryz.ntmps30
  go_wp2
  · go_ret
    have h : lo ≤ a := by assumption
    exact ⟨by simp [inB, h], rfl⟩
  · go_ret
    have h : a < lo := by assumption
    exact ⟨by simp [inB, show ¬ lo ≤ a by omega], rfl⟩
def sgnI (x y : Int) : Int := if x < y then -1 else if y < x then 1 else 0
set_option maxHeartbeats 400000 in
theorem isNaN_any (x : Int) (w : World) : Calls Tryz.prog 108 #[.int .i64 x] w fun e w' => e = .returned (.bool false) ∧ w = w' := by
  go_enter Tryz.func108, Tryz.ntmps108
  go_wp2
  go_ret
  exact ⟨ret_bool (by simp), rfl⟩
set_option maxHeartbeats 400000 in
theorem cmpCompare_any (x y : Int) (w : World) : Calls Tryz.prog 63 #[.int .i64 x, .int .i64 y] w fun e w' => e = .returned (.int .i64 (sgnI x y)) ∧ w = w' := by
  by_cases h1 : x < y
  · have H := Lib.hid (show sgnI x y = -1 by simp [sgnI, h1])
    go_enter Tryz.func63, Tryz.ntmps63
    go_wp2_with (go_at_call 108; refine (isNaN_any _ _).mono ?_; rintro e w' ⟨rfl, rfl⟩)
    go_ret
    exact ⟨by rw [H.out]; rfl, rfl⟩
  · by_cases h2 : y < x
    · have H := Lib.hid (show sgnI x y = 1 by simp [sgnI, h1, h2])
      have h1' : y ≤ x := by omega
      go_enter Tryz.func63, Tryz.ntmps63
      go_wp2_with (go_at_call 108; refine (isNaN_any _ _).mono ?_; rintro e w' ⟨rfl, rfl⟩)
      go_ret
      exact ⟨by rw [H.out]; rfl, rfl⟩
    · have H := Lib.hid (show sgnI x y = 0 by simp [sgnI, h1, h2])
      go_enter Tryz.func63, Tryz.ntmps63
      go_wp2_with (go_at_call 108; refine (isNaN_any _ _).mono ?_; rintro e w' ⟨rfl, rfl⟩)
      go_ret
      exact ⟨by rw [H.out]; rfl, rfl⟩
set_option maxHeartbeats 1000000 in
theorem slicesCompare_any (A B : Option Addr) (n m c d : Nat) (xs ys : List Int) (w : World) (ha : RI w A n xs) (hb : RI w B m ys) (hn : n ≤ 9223372036854775807) (hm : m ≤ 9223372036854775807) :
    Calls Tryz.prog 43 #[.slice A n c, .slice B m d] w fun e w' => e = .returned (.int .i64 (cmpL xs ys)) ∧ w = w' := by
  have hla := Lib.hid ha.len
  have hlb := Lib.hid hb.len
  go_enter Tryz.func43, Tryz.ntmps43
  go_wp2
  go_loop [11] (fun i => ∃ k : Nat, k ≤ n ∧ i = .int .i64 k ∧ agree xs ys k) (fun i => n - (intOf i).toNat)
  case atStart => exact ⟨0, Nat.zero_le _, rfl, agree_zero _ _⟩
  case round =>
    obtain ⟨k, hk, rfl, hag⟩ := hrel
    by_cases hlt : k < n
    · obtain ⟨a, rfl, hca, hia⟩ := ha.get hlt
      by_cases hltm : k < m
      · obtain ⟨b, rfl, hcb, hib⟩ := hb.get hltm
        have l1 : k < xs.length := by rw [hla.out]; exact hlt
        have l2 : k < ys.length := by rw [hlb.out]; exact hltm
        by_cases h1 : nth xs k < nth ys k
        · have H := Lib.hid (cmpL_lt hag l1 l2 h1)
          have HS := Lib.hid (show sgnI (nth xs k) (nth ys k) = -1 by simp [sgnI, h1])
          clear hag h1 l1 l2
          go_wp2_with (go_at_call 63; refine (cmpCompare_any _ _ _).mono ?_; rintro e w' ⟨rfl, rfl⟩; rw [HS.out])
          go_ret
          exact ⟨by rw [H.out]; rfl, rfl⟩
        · by_cases h2 : nth ys k < nth xs k
          · have H := Lib.hid (cmpL_gt hag l1 l2 h2)
            have HS := Lib.hid (show sgnI (nth xs k) (nth ys k) = 1 by simp [sgnI, h1, h2])
            clear hag h1 h2 l1 l2
            go_wp2_with (go_at_call 63; refine (cmpCompare_any _ _ _).mono ?_; rintro e w' ⟨rfl, rfl⟩; rw [HS.out])
            go_ret
            exact ⟨by rw [H.out]; rfl, rfl⟩
          · have H := Lib.hid (agree_step hag l1 l2 (by omega))
            have HS := Lib.hid (show sgnI (nth xs k) (nth ys k) = 0 by simp [sgnI, h1, h2])
            clear hag h1 h2 l1 l2
            go_wp2_with (go_at_call 63; refine (cmpCompare_any _ _ _).mono ?_; rintro e w' ⟨rfl, rfl⟩; rw [HS.out])
            go_round
            case rel => exact ⟨k + 1, by omega, by go_num, H.out⟩
            case measure => simp [intOf]; omega
      · have hkm : m ≤ k := by omega
        have H := Lib.hid (show cmpL xs ys = 1 by
          have : k = m := by have := hag.2.1; rw [hlb.out] at this; omega
          refine cmpL_long ?_ (by rw [hla.out, hlb.out]; omega)
          rw [hlb.out, ← this]; exact hag)
        clear hag
        go_wp2
        go_ret
        exact ⟨by rw [H.out]; rfl, rfl⟩
    · obtain rfl : k = n := by omega
      by_cases hltm : k < m
      · have H := Lib.hid (show cmpL xs ys = -1 from cmpL_short (by rw [hla.out]; exact hag) (by rw [hla.out, hlb.out]; exact hltm))
        clear hag
        go_wp2
        go_ret
        exact ⟨by rw [H.out]; rfl, rfl⟩
      · have hkm : m ≤ k := by omega
        have H := Lib.hid (show cmpL xs ys = 0 from cmpL_same (by rw [hla.out]; exact hag) (by rw [hla.out, hlb.out]; have := hag.2.1; rw [hlb.out] at this; omega))
        clear hag
        go_wp2
        go_ret
        exact ⟨by rw [H.out]; rfl, rfl⟩
set_option maxHeartbeats 1000000 in
theorem compareLists_any (A B : Option Addr) (n m c d : Nat) (xs ys : List Int) (w : World) (ha : RI w A n xs) (hb : RI w B m ys) (hn : n ≤ 9223372036854775807) (hm : m ≤ 9223372036854775807) :
    Calls Tryz.prog 134 #[.slice A n c, .slice B m d] w (Quiet w (.int .i64 (cmpL xs ys))) := by
  have hla := Lib.hid ha.len
  have hlb := Lib.hid hb.len
  go_enter Tryz.func134, Tryz.ntmps134
  go_wp2
  go_loopw [5] (fun i wr => ∃ k : Nat, k ≤ n ∧ i = .int .i64 k ∧ Drawn w wr ∧ agree xs ys k) (fun i _ => n - (intOf i).toNat)
  case atStart => exact ⟨0, Nat.zero_le _, rfl, Drawn.refl _, agree_zero _ _⟩
  case round =>
    obtain ⟨k, hk, rfl, hd, hag⟩ := hrel
    by_cases hlt : k < n
    · obtain ⟨a, rfl, hca, hia⟩ := (ha.drawn hd).get hlt
      by_cases hltm : k < m
      · obtain ⟨b, rfl, hcb, hib⟩ := (hb.drawn hd).get hltm
        have l1 : k < xs.length := by rw [hla.out]; exact hlt
        have l2 : k < ys.length := by rw [hlb.out]; exact hltm
        by_cases h1 : nth xs k < nth ys k
        · have H := Lib.hid (cmpL_lt hag l1 l2 h1)
          clear hag l1 l2
          go_wp2
          go_quiet (fail)
          go_wp2
          go_ret
          exact ⟨by rw [H.out]; rfl, hd.more _⟩
        · have h1' : nth ys k ≤ nth xs k := by omega
          by_cases h2 : nth ys k < nth xs k
          · have H := Lib.hid (cmpL_gt hag l1 l2 h2)
            clear hag l1 l2
            go_wp2
            go_quiet (fail)
            go_wp2
            go_quiet (fail)
            go_wp2
            go_ret
            exact ⟨by rw [H.out]; rfl, by first | exact hd.more _ | exact (hd.more _).more _⟩
          · have h2' : nth xs k ≤ nth ys k := by omega
            have H := Lib.hid (agree_step hag l1 l2 (by omega))
            clear hag l1 l2
            go_wp2
            go_quiet (fail)
            go_wp2
            go_quiet (fail)
            go_wp2
            go_roundw
            case rel => exact ⟨k + 1, by omega, by go_num, by first | exact hd.more _ | exact (hd.more _).more _, H.out⟩
            case measure => simp [intOf]; omega
      · have hkm : m ≤ k := by omega
        have hmn : m < n := by omega
        have H := Lib.hid (show cmpL xs ys = 1 by
          have : k = m := by have := hag.2.1; rw [hlb.out] at this; omega
          refine cmpL_long ?_ (by rw [hla.out, hlb.out]; omega)
          rw [hlb.out, ← this]; exact hag)
        clear hag
        go_wp2
        go_ret
        exact ⟨by rw [H.out]; rfl, hd⟩
    · obtain rfl : k = n := by omega
      by_cases hltm : k < m
      · have H := Lib.hid (show cmpL xs ys = -1 from cmpL_short (by rw [hla.out]; exact hag) (by rw [hla.out, hlb.out]; exact hltm))
        clear hag
        go_wp2
        go_ret
        exact ⟨by rw [H.out]; rfl, hd⟩
      · have hkm : m ≤ k := by omega
        have hkm2 : k ≤ m := by have := hag.2.1; rw [hlb.out] at this; omega
        have H := Lib.hid (show cmpL xs ys = 0 from cmpL_same (by rw [hla.out]; exact hag) (by rw [hla.out, hlb.out]; omega))
        clear hag
        go_wp2
        go_ret
        exact ⟨by rw [H.out]; rfl, hd⟩
def risesTo (z : List Int) (lo hi : Int) (k : Nat) : Prop := (∀ j, j < k → lo ≤ nth z j ∧ nth z j ≤ hi) ∧ ∀ j, j + 1 < k → nth z j < nth z (j + 1)
theorem risesTo_zero (z : List Int) (lo hi : Int) : risesTo z lo hi 0 := ⟨fun _ h => absurd h (by omega), fun _ h => absurd h (by omega)⟩
theorem risesTo_step {z : List Int} {lo hi : Int} {k : Nat} (h : risesTo z lo hi k) (h1 : lo ≤ nth z k ∧ nth z k ≤ hi) (h2 : 0 < k → nth z (k - 1) < nth z k) : risesTo z lo hi (k + 1) :=
  ⟨fun j hj => by
    rcases Nat.lt_succ_iff_lt_or_eq.1 hj with h' | h'
    · exact h.1 j h'
    · rw [h']; exact h1,
   fun j hj => by
    rcases Nat.lt_succ_iff_lt_or_eq.1 hj with h' | h'
    · exact h.2 j h'
    · have := h2 (by omega)
      have e : k = j + 1 := h'.symm
      subst e
      simpa using this⟩
theorem risesTo_all {z : List Int} {lo hi : Int} {k : Nat} (hk : z.length = k) (h : risesTo z lo hi k) : Rises z lo hi := ⟨by rw [hk]; exact h.1, by rw [hk]; exact h.2⟩
set_option maxHeartbeats 1000000 in
theorem l00Rises_any (A : Option Addr) (n c : Nat) (z : List Int) (lo hi : Int) (w : World) (ha : RI w A n z) (hn : n ≤ 9223372036854775807) :
    Calls Tryz.prog 173 #[.slice A n c, .int .i64 lo, .int .i64 hi] w (Quiet w (.bool (tB (Rises z lo hi)))) := by
  have hla := Lib.hid ha.len
  go_enter Tryz.func173, Tryz.ntmps173
  go_wp2
  go_loopw [7] (fun i wr => ∃ k : Nat, k ≤ n ∧ i = .int .i64 k ∧ Drawn w wr ∧ risesTo z lo hi k) (fun i _ => n - (intOf i).toNat)
  case atStart => exact ⟨0, Nat.zero_le _, rfl, Drawn.refl _, risesTo_zero _ _ _⟩
  case round =>
    obtain ⟨k, hk, rfl, hd, hr⟩ := hrel
    by_cases hlt : k < n
    · obtain ⟨a, rfl, hca, hia⟩ := (ha.drawn hd).get hlt
      cases h1 : inB (nth z k) lo hi with
      | true =>
        have hin := Lib.hid (inB_true h1)
        have hcall : ∀ q, Calls Tryz.prog 38 #[.int .i64 (nth z k), .int .i64 lo, .int .i64 hi] (wr.drewN q) (Quiet (wr.drewN q) (.bool true)) := fun q => by
          rw [← h1]; exact (l00In_any _ _ _ _).mono fun _ _ h => Quiet.of_same h
        clear h1
        by_cases h0 : k ≤ 0
        · have g1 : decide ((0 : Int) < (k : Int)) = false := by simp; omega
          have g2 : decide (0 < k) = false := by simp; omega
          have H := Lib.hid (risesTo_step hr hin.out (fun h => absurd h (by omega)))
          clear hr
          go_wp2
          go_quiet ((go_at_call 38; exact Quiet.call (hcall _)))
          go_wp2
          go_roundw
          case rel => exact ⟨k + 1, by omega, by go_num, hd.more _, H.out⟩
          case measure => simp [intOf]; omega
        · have h0' : 0 < k := by omega
          obtain ⟨a', ha', hcb, hib⟩ := (ha.drawn hd).get (show k - 1 < n by omega)
          obtain rfl : a = a' := by injection ha'
          clear ha' h0
          have e1 : IntKind.i64.wrap ((k : Int) - 1) = (k : Int) - 1 := IntWalk.i64_in _ (by omega)
          have e2 : ((k : Int) - 1).toNat = k - 1 := by omega
          have e3 : (0 : Int) ≤ (k : Int) - 1 := by omega
          by_cases h2 : nth z (k - 1) < nth z k
          · have h2' : decide (nth z k ≤ nth z (k - 1)) = false := by simp; omega
            have H := Lib.hid (risesTo_step hr hin.out (fun _ => h2))
            clear hr
            go_wp2
            go_quiet ((go_at_call 38; exact Quiet.call (hcall _)))
            clear e1 e2 e3
            go_wp2
            go_roundw
            case rel => exact ⟨k + 1, by omega, by go_num, hd.more _, H.out⟩
            case measure => simp [intOf]; omega
          · have h2' : decide (nth z k ≤ nth z (k - 1)) = true := by simp; omega
            have H := Lib.hid (show tB (Rises z lo hi) = false from tB_no fun hh => by
              have := hh.up (k - 1) (by rw [hla.out]; omega)
              rw [show k - 1 + 1 = k by omega] at this
              exact h2 this)
            clear hr
            go_wp2
            go_quiet ((go_at_call 38; exact Quiet.call (hcall _)))
            clear e1 e2 e3
            go_wp2
            go_ret
            exact ⟨by rw [H.out]; rfl, hd.more _⟩
      | false =>
        have H := Lib.hid (show tB (Rises z lo hi) = false from tB_no fun hh => by
          have := hh.bd k (by rw [hla.out]; exact hlt)
          rw [inB_mk this] at h1
          cases h1)
        have hcall : ∀ q, Calls Tryz.prog 38 #[.int .i64 (nth z k), .int .i64 lo, .int .i64 hi] (wr.drewN q) (Quiet (wr.drewN q) (.bool false)) := fun q => by
          rw [← h1]; exact (l00In_any _ _ _ _).mono fun _ _ h => Quiet.of_same h
        clear hr h1
        go_wp2
        go_quiet ((go_at_call 38; exact Quiet.call (hcall _)))
        go_wp2
        go_ret
        exact ⟨by rw [H.out]; rfl, hd.more _⟩
    · have H := Lib.hid (show tB (Rises z lo hi) = true from tB_yes (risesTo_all hla.out (by rwa [show k = n by omega] at hr)))
      clear hr
      go_wp2
      go_ret
      exact ⟨by rw [H.out]; rfl, hd⟩
end Go.Proofs.YtnmcmologlgccaaGreat
namespace Go.Proofs.YtnmcmologlgccaaGreat
theorem sgnI_cases (x y : Int) : (x < y ∧ sgnI x y = -1) ∨ (x = y ∧ sgnI x y = 0) ∨ (y < x ∧ sgnI x y = 1) := by
  unfold sgnI
  by_cases h1 : x < y
  · exact .inl ⟨h1, by rw [if_pos h1]⟩
  · by_cases h2 : y < x
    · exact .inr (.inr ⟨h2, by rw [if_neg h1, if_pos h2]⟩)
    · exact .inr (.inl ⟨by omega, by rw [if_neg h1, if_neg h2]⟩)
/-! orders that tell any two apart -/
structure TOrd {α : Type} (c : α → α → Int) : Prop where
  eq_of : ∀ {x y}, c x y = 0 → x = y
  self : ∀ x, c x x = 0
  swap : ∀ x y, c y x = - c x y
  trans : ∀ {x y z}, c x y ≤ 0 → c y z ≤ 0 → c x z ≤ 0
section
variable {α : Type} {c : α → α → Int}
theorem TOrd.lt_trans (h : TOrd c) {x y z : α} (h1 : c x y < 0) (h2 : c y z < 0) : c x z < 0 := by
  have h3 := h.trans (x := x) (y := y) (z := z) (by omega) (by omega)
  rcases Int.lt_or_eq_of_le h3 with h4 | h4
  · exact h4
  · have e := h.eq_of h4
    subst e
    have := h.swap x y
    omega
def SortedL (c : α → α → Int) (l : List α) : Prop := l.Pairwise fun x y => c x y ≤ 0
def comp [DecidableEq α] : List α → List α
  | [] => []
  | [x] => [x]
  | x :: y :: r => if x = y then comp (y :: r) else x :: comp (y :: r)
theorem comp_mem [DecidableEq α] (l : List α) (x : α) : x ∈ comp l ↔ x ∈ l := by
  induction l using comp.induct with
  | case1 => simp [comp]
  | case2 y => simp [comp]
  | case3 y r ih =>
    rw [comp, if_pos rfl, ih]
    simp
  | case4 y z r hne ih =>
    rw [comp, if_neg hne, List.mem_cons, ih]
    simp
def putG (c : α → α → Int) : List α → α → List α
  | [], x => [x]
  | y :: r, x => if c y x < 0 then y :: putG c r x else if c y x = 0 then y :: r else x :: y :: r
theorem putG_before {l : List α} {x : α} {k : Nat} (hk : k ≤ l.length) (h : ∀ y, y ∈ l.take k → c y x < 0) : putG c l x = l.take k ++ putG c (l.drop k) x := by
  induction l generalizing k with
  | nil => simp at hk; subst hk; simp
  | cons y r ih =>
    cases k with
    | zero => simp
    | succ k =>
      simp only [List.take_succ_cons, List.drop_succ_cons, List.cons_append]
      rw [← ih (by simpa using hk) fun z hz => h z (by rw [List.take_succ_cons]; exact List.mem_cons_of_mem _ hz)]
      rw [putG, if_pos (h y (by rw [List.take_succ_cons]; exact List.mem_cons_self))]
theorem putG_len (l : List α) (x : α) : (putG c l x).length ≤ l.length + 1 := by
  induction l with
  | nil => simp [putG]
  | cons y r ih =>
    unfold putG
    split
    · simp; omega
    · split <;> simp
end
/-! the order of numbers -/
theorem sgnI_ord : TOrd sgnI where
  eq_of := fun {x y} h => by
    rcases sgnI_cases x y with ⟨_, e⟩ | ⟨h', _⟩ | ⟨_, e⟩
    · omega
    · exact h'
    · omega
  self := fun x => by rcases sgnI_cases x x with ⟨h, e⟩ | ⟨_, e⟩ | ⟨h, e⟩ <;> omega
  swap := fun x y => by
    rcases sgnI_cases x y with ⟨h, e⟩ | ⟨h, e⟩ | ⟨h, e⟩ <;> rcases sgnI_cases y x with ⟨h', e'⟩ | ⟨h', e'⟩ | ⟨h', e'⟩ <;> omega
  trans := fun {x y z} h1 h2 => by
    rcases sgnI_cases x y with ⟨h, e⟩ | ⟨h, e⟩ | ⟨h, e⟩ <;> rcases sgnI_cases y z with ⟨h', e'⟩ | ⟨h', e'⟩ | ⟨h', e'⟩ <;> rcases sgnI_cases x z with ⟨h'', e''⟩ | ⟨h'', e''⟩ | ⟨h'', e''⟩ <;> omega
end Go.Proofs.YtnmcmologlgccaaGreat
namespace Go.Proofs
open Go.Shelf
def Tryz.srfL_ren : Go.Shelf.Ren := ⟨fun | 6 => 42 | 15 => 62 | 14 => 61 | 28 => 106 | 29 => 107 | 20 => 98 | 21 => 99 | 22 => 100 | 23 => 101 | 24 => 102 | 25 => 103 | 26 => 104 | 27 => 105 | 46 => 156 | 47 => 157 | 48 => 158 | 49 => 159 | 50 => 160 | 57 => 191 | n => n, fun | 22 => 26 | 24 => 36 | 25 => 73 | 3 => 3 | 39 => 80 | 0 => 0 | 53 => 114 | 55 => 66 | 4 => 4 | 46 => 107 | 45 => 106 | 50 => 111 | 5 => 5 | 9 => 9 | 66 => 145 | 70 => 149 | 76 => 166 | 77 => 167 | n => n, fun | n => n⟩
theorem Tryz.srfL : Go.Proofs.SlLaysF.n6 Tryz.prog Tryz.srfL_ren := {
  mixed := by kernel_rfl
  f6 := ⟨Tryz.f42.name, by decide, Tryz.func42.trans (congrArg some (by kernel_rfl))⟩
  f14 := ⟨Tryz.f61.name, by decide, Tryz.func61.trans (congrArg some (by kernel_rfl))⟩
  f15 := Tryz.func62.trans (congrArg some (by kernel_rfl))
  f20 := ⟨Tryz.f98.name, by decide, Tryz.func98.trans (congrArg some (by kernel_rfl))⟩
  f21 := ⟨Tryz.f99.name, by decide, Tryz.func99.trans (congrArg some (by kernel_rfl))⟩
  f22 := ⟨Tryz.f100.name, by decide, Tryz.func100.trans (congrArg some (by kernel_rfl))⟩
  f23 := ⟨Tryz.f101.name, by decide, Tryz.func101.trans (congrArg some (by kernel_rfl))⟩
  f24 := ⟨Tryz.f102.name, by decide, Tryz.func102.trans (congrArg some (by kernel_rfl))⟩
  f25 := ⟨Tryz.f103.name, by decide, Tryz.func103.trans (congrArg some (by kernel_rfl))⟩
  f26 := ⟨Tryz.f104.name, by decide, Tryz.func104.trans (congrArg some (by kernel_rfl))⟩
  f27 := ⟨Tryz.f105.name, by decide, Tryz.func105.trans (congrArg some (by kernel_rfl))⟩
  f28 := Tryz.func106.trans (congrArg some (by kernel_rfl))
  f29 := Tryz.func107.trans (congrArg some (by kernel_rfl))
  f46 := ⟨Tryz.f156.name, by decide, Tryz.func156.trans (congrArg some (by kernel_rfl))⟩
  f47 := Tryz.func157.trans (congrArg some (by kernel_rfl))
  f48 := Tryz.func158.trans (congrArg some (by kernel_rfl))
  f49 := ⟨Tryz.f159.name, by decide, Tryz.func159.trans (congrArg some (by kernel_rfl))⟩
  f50 := ⟨Tryz.f160.name, by decide, Tryz.func160.trans (congrArg some (by kernel_rfl))⟩
  f57 := ⟨Tryz.f191.name, by decide, Tryz.func191.trans (congrArg some (by kernel_rfl))⟩
  t0 := Tryz.underlying0
  a0 := Tryz.isAgg0
  z0 := Tryz.sizeOf0
  v0 := Tryz.zeroValue0
  t3 := Tryz.underlying3
  a3 := Tryz.isAgg3
  z3 := Tryz.sizeOf3
  v3 := Tryz.zeroValue3
  t4 := Tryz.underlying4
  a4 := Tryz.isAgg4
  z4 := Tryz.sizeOf4
  v4 := Tryz.zeroValue4
  t5 := Tryz.underlying5
  a5 := Tryz.isAgg5
  z5 := Tryz.sizeOf5
  v5 := Tryz.zeroValue5
  t9 := Tryz.underlying9
  a9 := Tryz.isAgg9
  z9 := Tryz.sizeOf9
  v9 := Tryz.zeroValue9
  t22 := Tryz.underlying26
  a22 := Tryz.isAgg26
  z22 := Tryz.sizeOf26
  v22 := Tryz.zeroValue26
  a24 := Tryz.isAgg36
  z24 := Tryz.sizeOf36
  t25 := Tryz.underlying73
  a25 := Tryz.isAgg73
  z25 := Tryz.sizeOf73
  v25 := Tryz.zeroValue73
  t39 := Tryz.underlying80
  a39 := Tryz.isAgg80
  z39 := Tryz.sizeOf80
  v39 := Tryz.zeroValue80
  t45 := Tryz.underlying106
  a45 := Tryz.isAgg106
  z45 := Tryz.sizeOf106
  v45 := Tryz.zeroValue106
  t46 := Tryz.underlying107
  a46 := Tryz.isAgg107
  z46 := Tryz.sizeOf107
  v46 := Tryz.zeroValue107
  t50 := Tryz.underlying111
  a50 := Tryz.isAgg111
  z50 := Tryz.sizeOf111
  v50 := Tryz.zeroValue111
  t53 := Tryz.underlying114
  a53 := Tryz.isAgg114
  z53 := Tryz.sizeOf114
  v53 := Tryz.zeroValue114
  t55 := Tryz.underlying66
  a55 := Tryz.isAgg66
  z55 := Tryz.sizeOf66
  v55 := Tryz.zeroValue66
  t66 := Tryz.underlying145
  a66 := Tryz.isAgg145
  z66 := Tryz.sizeOf145
  v66 := Tryz.zeroValue145
  t70 := Tryz.underlying149
  a70 := Tryz.isAgg149
  z70 := Tryz.sizeOf149
  v70 := Tryz.zeroValue149
  t76 := Tryz.underlying166
  a76 := Tryz.isAgg166
  z76 := Tryz.sizeOf166
  v76 := Tryz.zeroValue166
  t77 := Tryz.underlying167
  a77 := Tryz.isAgg167
  z77 := Tryz.sizeOf167
  v77 := Tryz.zeroValue167 }
end Go.Proofs
namespace Go.Proofs
open Go.Shelf
def Tryz.srzL_ren : Go.Shelf.Ren := ⟨fun | 6 => 42 | 15 => 62 | 14 => 61 | 28 => 106 | 29 => 107 | 20 => 98 | 21 => 99 | 22 => 100 | 23 => 101 | 24 => 102 | 25 => 103 | 26 => 104 | 27 => 105 | 46 => 156 | 47 => 157 | 48 => 158 | 49 => 159 | 50 => 160 | 57 => 191 | n => n, fun | 22 => 26 | 24 => 36 | 25 => 73 | 3 => 3 | 39 => 80 | 0 => 0 | 53 => 114 | 55 => 66 | 4 => 4 | 46 => 107 | 45 => 106 | 50 => 111 | 5 => 5 | 9 => 9 | 66 => 145 | 70 => 149 | 76 => 166 | 77 => 167 | n => n, fun | n => n⟩
theorem Tryz.srzL : Go.Proofs.SlLaysF0.n6 Tryz.prog Tryz.srzL_ren := {
  mixed := by kernel_rfl
  f6 := ⟨Tryz.f42.name, by decide, Tryz.func42.trans (congrArg some (by kernel_rfl))⟩
  f14 := ⟨Tryz.f61.name, by decide, Tryz.func61.trans (congrArg some (by kernel_rfl))⟩
  f15 := Tryz.func62.trans (congrArg some (by kernel_rfl))
  f20 := ⟨Tryz.f98.name, by decide, Tryz.func98.trans (congrArg some (by kernel_rfl))⟩
  f21 := ⟨Tryz.f99.name, by decide, Tryz.func99.trans (congrArg some (by kernel_rfl))⟩
  f22 := ⟨Tryz.f100.name, by decide, Tryz.func100.trans (congrArg some (by kernel_rfl))⟩
  f23 := ⟨Tryz.f101.name, by decide, Tryz.func101.trans (congrArg some (by kernel_rfl))⟩
  f24 := ⟨Tryz.f102.name, by decide, Tryz.func102.trans (congrArg some (by kernel_rfl))⟩
  f25 := ⟨Tryz.f103.name, by decide, Tryz.func103.trans (congrArg some (by kernel_rfl))⟩
  f26 := ⟨Tryz.f104.name, by decide, Tryz.func104.trans (congrArg some (by kernel_rfl))⟩
  f27 := ⟨Tryz.f105.name, by decide, Tryz.func105.trans (congrArg some (by kernel_rfl))⟩
  f28 := Tryz.func106.trans (congrArg some (by kernel_rfl))
  f29 := Tryz.func107.trans (congrArg some (by kernel_rfl))
  f46 := ⟨Tryz.f156.name, by decide, Tryz.func156.trans (congrArg some (by kernel_rfl))⟩
  f47 := Tryz.func157.trans (congrArg some (by kernel_rfl))
  f48 := Tryz.func158.trans (congrArg some (by kernel_rfl))
  f49 := ⟨Tryz.f159.name, by decide, Tryz.func159.trans (congrArg some (by kernel_rfl))⟩
  f50 := ⟨Tryz.f160.name, by decide, Tryz.func160.trans (congrArg some (by kernel_rfl))⟩
  f57 := ⟨Tryz.f191.name, by decide, Tryz.func191.trans (congrArg some (by kernel_rfl))⟩
  t0 := Tryz.underlying0
  a0 := Tryz.isAgg0
  z0 := Tryz.sizeOf0
  v0 := Tryz.zeroValue0
  t3 := Tryz.underlying3
  a3 := Tryz.isAgg3
  z3 := Tryz.sizeOf3
  v3 := Tryz.zeroValue3
  t4 := Tryz.underlying4
  a4 := Tryz.isAgg4
  z4 := Tryz.sizeOf4
  v4 := Tryz.zeroValue4
  t5 := Tryz.underlying5
  a5 := Tryz.isAgg5
  z5 := Tryz.sizeOf5
  v5 := Tryz.zeroValue5
  t9 := Tryz.underlying9
  a9 := Tryz.isAgg9
  z9 := Tryz.sizeOf9
  v9 := Tryz.zeroValue9
  t22 := Tryz.underlying26
  a22 := Tryz.isAgg26
  z22 := Tryz.sizeOf26
  v22 := Tryz.zeroValue26
  t25 := Tryz.underlying73
  a25 := Tryz.isAgg73
  z25 := Tryz.sizeOf73
  v25 := Tryz.zeroValue73
  t39 := Tryz.underlying80
  a39 := Tryz.isAgg80
  z39 := Tryz.sizeOf80
  v39 := Tryz.zeroValue80
  t45 := Tryz.underlying106
  a45 := Tryz.isAgg106
  z45 := Tryz.sizeOf106
  v45 := Tryz.zeroValue106
  t46 := Tryz.underlying107
  a46 := Tryz.isAgg107
  z46 := Tryz.sizeOf107
  v46 := Tryz.zeroValue107
  t50 := Tryz.underlying111
  a50 := Tryz.isAgg111
  z50 := Tryz.sizeOf111
  v50 := Tryz.zeroValue111
  t53 := Tryz.underlying114
  a53 := Tryz.isAgg114
  z53 := Tryz.sizeOf114
  v53 := Tryz.zeroValue114
  t55 := Tryz.underlying66
  a55 := Tryz.isAgg66
  z55 := Tryz.sizeOf66
  v55 := Tryz.zeroValue66
  t66 := Tryz.underlying145
  a66 := Tryz.isAgg145
  z66 := Tryz.sizeOf145
  v66 := Tryz.zeroValue145
  t70 := Tryz.underlying149
  a70 := Tryz.isAgg149
  z70 := Tryz.sizeOf149
  v70 := Tryz.zeroValue149
  t76 := Tryz.underlying166
  a76 := Tryz.isAgg166
  z76 := Tryz.sizeOf166
  v76 := Tryz.zeroValue166
  t77 := Tryz.underlying167
  a77 := Tryz.isAgg167
  z77 := Tryz.sizeOf167
  v77 := Tryz.zeroValue167 }
end Go.Proofs
namespace Go.Proofs.YtnmcmologlgccaaGreat
open Go.RowKit
theorem grown_set {w : World} {g p : Nat} {u : Value} : w.grownBy (w.setCell ⟨g, p, none⟩ u) (some g) :=
  ⟨rfl, rfl, rfl, by simp [World.setCell], fun k _ hk => Below.heap_setCell _ _ _ _ (fun e => hk (by rw [e]))⟩
theorem OI.of_os {w : World} {B : Nat} {e : TypeId} {A : Option Addr} {n c k : Nat} {zs : List Int} (h : OS w B e 1 A n c ((ints zs).take k)) (ha : All64 zs) : OI w B e A n c (zs.take k) :=
  ⟨by rwa [show (ints zs).take k = ints (zs.take k) by simp [ints]] at h, ha.take k⟩
theorem OS.typed' {w : World} {B : Nat} {e t : TypeId} {size : Nat} {A : Option Addr} {n c : Nat} {xs : List Value} {g : Nat} {cs : Array Value} (h : OS w B e size A n c xs) (k : Blk w g t cs) (hne : e ≠ t) : some g ≠ blk A := by
  rcases h.cases with ⟨rfl, _⟩ | ⟨g', cur, rfl, _, hg, _⟩
  · simp [blk]
  · intro h1
    have : g = g' := by simpa [blk] using h1
    subst this
    unfold Blk at k
    rw [k] at hg
    injection hg with hg
    injection hg with _ h2
    exact hne h2.symm
def allZero (cs : List Int) : Prop := ∀ k, k < cs.length → nth cs k = 0
end Go.Proofs.YtnmcmologlgccaaGreat
