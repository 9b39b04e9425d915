/- The names of kinds of objects, and the kind with a name: what each side returns, for every number and every string; the two sides agree. No condition. -/
import Derived.Test.YtpaggkfcdhomiaaProg
import Derived.Test.YtpaggkfcdhomiaaMem
import Derived.Test.YtpaggkfcdhomiaaNames
namespace Go.Proofs.Ytpaggkfcdhomiaa
open Go.RowKit

def kn0 : ByteArray := ⟨#[]⟩
def kn1 : ByteArray := ⟨#[115, 113, 117, 97, 114, 101]⟩
def kn2 : ByteArray := ⟨#[100, 101, 115, 105, 103, 110]⟩
def kn3 : ByteArray := ⟨#[104, 97, 100, 97, 109, 97, 114, 100]⟩
def kn4 : ByteArray := ⟨#[97, 114, 114, 97, 121]⟩
def kn5 : ByteArray := ⟨#[99, 111, 100, 101]⟩
def kn6 : ByteArray := ⟨#[103, 114, 97, 112, 104]⟩
def kn7 : ByteArray := ⟨#[103, 114, 111, 117, 112]⟩
def kName (c : Int) : ByteArray :=
  if c = 1 then kn1 else if c = 2 then kn2 else if c = 3 then kn3 else if c = 4 then kn4 else if c = 5 then kn5 else if c = 6 then kn6 else if c = 7 then kn7 else kn0
theorem kName_out {c : Int} (h : inB c 1 7 = false) : kName c = kn0 := by
  have : ¬ (1 ≤ c ∧ c ≤ 7) := fun k => by rw [inB_mk k] at h; cases h
  unfold kName
  rw [if_neg (by omega), if_neg (by omega), if_neg (by omega), if_neg (by omega), if_neg (by omega), if_neg (by omega), if_neg (by omega)]

set_option maxHeartbeats 400000 in
theorem spec_l30Names (w : World) :
    Calls Try.prog 20 #[] w fun e w' => e = .returned (.slice (some ⟨w.heap.size, 0, none⟩) 8 8) ∧ w.alloc (.cells #[.string kn0, .string kn1, .string kn2, .string kn3, .string kn4, .string kn5, .string kn6, .string kn7] 9) = w' := by
  go_enter Try.func20, Try.ntmps20
  go_wp2
  go_ret
  exact ⟨rfl, rfl⟩

set_option maxHeartbeats 400000 in
theorem impl_kindNames (w : World) :
    Calls Try.prog 22 #[] w fun e w' => e = .returned (.slice (some ⟨w.heap.size, 0, none⟩) 7 7) ∧ w.alloc (.cells #[.string kn1, .string kn2, .string kn3, .string kn4, .string kn5, .string kn6, .string kn7] 9) = w' := by
  go_enter Try.func22, Try.ntmps22
  go_wp2
  go_ret
  exact ⟨rfl, rfl⟩

set_option maxHeartbeats 400000 in
theorem impl_isKind (c : Int) (w : World) :
    Calls Try.prog 21 #[.int .i64 c] w fun e w' => e = .returned (.bool (inB c 1 7)) ∧ w = w' := by
  go_enter Try.func21, Try.ntmps21
  go_wp2_with (go_at_call 19; refine (within_any _ _ _ _).mono ?_; rintro e w' ⟨rfl, rfl⟩)
  go_ret
  exact ⟨rfl, rfl⟩

set_option maxHeartbeats 1000000 in
theorem spec_ObjectName (c : Int) (w : World) :
    Calls Try.prog 12 #[.int .i64 c] w fun e w' => e = .returned (.string (kName c)) ∧ Below w.heap.size w w' := by
  by_cases h : inB c 1 7 = true
  · have hc : c = 1 ∨ c = 2 ∨ c = 3 ∨ c = 4 ∨ c = 5 ∨ c = 6 ∨ c = 7 := by have := inB_true h; omega
    rcases hc with rfl | rfl | rfl | rfl | rfl | rfl | rfl
    all_goals
      go_enter Try.func12, Try.ntmps12
      go_wp2_with (first
        | (go_at_call 18; refine (l00In_any _ _ _ _).mono ?_; rintro e w' ⟨rfl, rfl⟩)
        | (go_at_call 20; refine (spec_l30Names _).mono ?_; rintro e w' ⟨rfl, rfl⟩))
      go_ret
      exact ⟨rfl, below_alloc _ _⟩
  · have h' := inB_false h
    have H := Lib.hid (kName_out h'); clear h
    go_enter Try.func12, Try.ntmps12
    go_wp2_with (go_at_call 18; refine (l00In_any _ _ _ _).mono ?_; rintro e w' ⟨rfl, rfl⟩)
    go_ret
    exact ⟨by rw [H.out]; rfl, Below.refl _ _⟩

set_option maxHeartbeats 1000000 in
theorem impl_ObjectName (c : Int) (w : World) :
    Calls Try.prog 13 #[.int .i64 c] w fun e w' => e = .returned (.string (kName c)) ∧ Below w.heap.size w w' := by
  by_cases h : inB c 1 7 = true
  · have hc : c = 1 ∨ c = 2 ∨ c = 3 ∨ c = 4 ∨ c = 5 ∨ c = 6 ∨ c = 7 := by have := inB_true h; omega
    rcases hc with rfl | rfl | rfl | rfl | rfl | rfl | rfl
    all_goals
      go_enter Try.func13, Try.ntmps13
      go_wp2_with (first
        | (go_at_call 21; refine (impl_isKind _ _).mono ?_; rintro e w' ⟨rfl, rfl⟩)
        | (go_at_call 22; refine (impl_kindNames _).mono ?_; rintro e w' ⟨rfl, rfl⟩))
      go_ret
      exact ⟨rfl, below_alloc _ _⟩
  · have h' := inB_false h
    have H := Lib.hid (kName_out h'); clear h
    go_enter Try.func13, Try.ntmps13
    go_wp2_with (go_at_call 21; refine (impl_isKind _ _).mono ?_; rintro e w' ⟨rfl, rfl⟩)
    go_ret
    exact ⟨by rw [H.out]; rfl, Below.refl _ _⟩

set_option maxHeartbeats 400000 in
theorem law_ObjectName (c : Int) (w : World) (_h : I64 c) :
    Calls Try.prog 5 #[.int .i64 c] w fun e w' => e = .returned (.bool true) ∧ Below w.heap.size w w' := by
  go_enter Try.func5, Try.ntmps5
  go_wp2_with (first
    | (go_at_call 12; refine (spec_ObjectName _ _).mono ?_; rintro e w1 ⟨rfl, hb1⟩)
    | (go_at_call 13; refine (impl_ObjectName _ _).mono ?_; rintro e w2 ⟨rfl, hb2⟩))
  go_ret
  exact ⟨rfl, below_then hb1 hb2⟩

/-- the place of a string in a list of strings, and the first that is it -/
def sAt (l : List ByteArray) (k : Nat) : ByteArray := l.getD k kn0
def sEq (a b : ByteArray) : Bool := a.toList == b.toList
def sIdx (l : List ByteArray) (s : ByteArray) : Int :=
  match l with
  | [] => -1
  | a :: r => if sEq s a then 0 else if sIdx r s < 0 then -1 else sIdx r s + 1
def EStr (_ : World) (u : Value) (s : ByteArray) : Prop := u = .string s
theorem sAt_eq {l : List ByteArray} {k : Nat} {z : ByteArray} (h : l[k]? = some z) : sAt l k = z := by simp [sAt, List.getD, h]
theorem RS.str {w : World} {A n l} (h : RS EStr w A n l) {k : Nat} (hk : k < n) : ∃ ad, A = some ad ∧ w.cell? (ad.add k) = some (.string (sAt l k)) := by
  obtain ⟨ad, u, x, ha, hx, hc, he⟩ := h.get hk
  exact ⟨ad, ha, by rw [sAt_eq hx, ← (show u = _ from he)]; exact hc⟩
theorem sIdx_lo (l : List ByteArray) (s : ByteArray) : -1 ≤ sIdx l s := by
  induction l with
  | nil => simp [sIdx]
  | cons a r ih => simp only [sIdx]; split <;> (try split) <;> omega
theorem sIdx_none {l : List ByteArray} {s : ByteArray} (h : ∀ j, j < l.length → sEq s (sAt l j) = false) : sIdx l s = -1 := by
  induction l with
  | nil => rfl
  | cons a r ih =>
    have h0 : sEq s a = false := h 0 (by simp)
    have hr := ih fun j hj => h (j + 1) (by simp; omega)
    simp [sIdx, h0, hr]
theorem sIdx_hit {l : List ByteArray} {s : ByteArray} {k : Nat} (hk : k < l.length) (h : ∀ j, j < k → sEq s (sAt l j) = false) (he : sEq s (sAt l k) = true) : sIdx l s = k := by
  induction l generalizing k with
  | nil => simp at hk
  | cons a r ih =>
    cases k with
    | zero => have h0 : sEq s a = true := he; simp [sIdx, h0]
    | succ k =>
      have h0 : sEq s a = false := h 0 (by omega)
      have hr := ih (k := k) (by simp at hk; omega) (fun j hj => h (j + 1) (by omega)) he
      simp only [sIdx, h0, hr]
      rw [if_neg (by simp), if_neg (by omega)]
      omega

set_option maxHeartbeats 400000 in
theorem slicesIndex_any (A : Option Addr) (n c : Nat) (l : List ByteArray) (s : ByteArray) (w : World) (h : RS EStr w A n l) (hn : n ≤ 9223372036854775807) :
    Calls Try.prog 23 #[.slice A n c, .string s] w fun e w' => e = .returned (.int .i64 (sIdx l s)) ∧ w = w' := by
  have hl := Lib.hid h.len
  go_enter Try.func23, Try.ntmps23
  go_wp2
  go_loop [5, 8] (fun _ i => ∃ k : Nat, k ≤ n ∧ i = .int .i64 k ∧ ∀ j, j < k → sEq s (sAt l j) = false) (fun _ i => n - (intOf i).toNat)
  case atStart => exact ⟨0, Nat.zero_le _, rfl, fun _ h => absurd h (by omega)⟩
  case round =>
    obtain ⟨k, hk, rfl, hu⟩ := hrel
    by_cases hlt : k < n
    · obtain ⟨a, rfl, hca⟩ := h.str hlt
      by_cases he : sEq s (sAt l k) = true
      · have he' : (s.toList == (sAt l k).toList) = true := he
        have H := Lib.hid (sIdx_hit (by rw [hl.out]; exact hlt) hu he)
        clear hu he
        go_wp2
        go_ret
        exact ⟨by rw [H.out]; rfl, rfl⟩
      · have he0 : sEq s (sAt l k) = false := by simpa using he
        have he' : (s.toList == (sAt l k).toList) = false := he0
        have hu' : ∀ j, j < k + 1 → sEq s (sAt l j) = false := fun j hj => by
          rcases Nat.lt_succ_iff_lt_or_eq.1 hj with h | h
          · exact hu j h
          · rw [h]; exact he0
        have H := Lib.hid hu'; clear hu hu' he he0
        go_wp2
        go_round
        case rel => exact ⟨k + 1, by omega, by go_num, H.out⟩
        case measure => simp [intOf]; omega
    · have H := Lib.hid (sIdx_none (l := l) (s := s) (fun j hj => hu j (by have := hl.out; omega)))
      clear hu
      go_wp2
      go_ret
      exact ⟨by rw [H.out]; rfl, rfl⟩

def kNames : List ByteArray := [kn1, kn2, kn3, kn4, kn5, kn6, kn7]
theorem kinds_read (w : World) (t : TypeId) : RS EStr (w.alloc (.cells #[.string kn1, .string kn2, .string kn3, .string kn4, .string kn5, .string kn6, .string kn7] t)) (some ⟨w.heap.size, 0, none⟩) 7 kNames :=
  RS.lit (E := EStr) Value.string w t kNames (fun _ _ => rfl)
theorem names_read (w : World) (t : TypeId) : RS EStr (w.alloc (.cells #[.string kn0, .string kn1, .string kn2, .string kn3, .string kn4, .string kn5, .string kn6, .string kn7] t)) (some ⟨w.heap.size, 0, none⟩) 8 (kn0 :: kNames) :=
  RS.lit (E := EStr) Value.string w t (kn0 :: kNames) (fun _ _ => rfl)

def knIs (s : ByteArray) : Int := sIdx kNames s
theorem knIs_lo (s : ByteArray) : -1 ≤ knIs s ∧ knIs s ≤ 6 := by
  refine ⟨sIdx_lo _ _, ?_⟩
  simp only [knIs, kNames, sIdx]
  repeat' (split <;> try omega)

set_option maxHeartbeats 400000 in
theorem impl_ObjectNamed (s : ByteArray) (w : World) :
    Calls Try.prog 15 #[.string s] w fun e w' => e = .returned (.tuple #[.int .i64 (knIs s + 1), .bool (decide (0 ≤ knIs s))]) ∧ Below w.heap.size w w' := by
  have hlo : -1 ≤ sIdx kNames s := (knIs_lo s).1
  have hhi : sIdx kNames s ≤ 6 := (knIs_lo s).2
  go_enter Try.func15, Try.ntmps15
  go_wp2_with (first
    | (go_at_call 22; refine (impl_kindNames _).mono ?_; rintro e w' ⟨rfl, rfl⟩)
    | (go_at_call 23; refine (slicesIndex_any _ _ _ _ _ _ (kinds_read w _) (by omega)).mono ?_; rintro e w' ⟨rfl, rfl⟩))
  go_ret2
  exact ⟨rfl, below_alloc _ _⟩
end Go.Proofs.Ytpaggkfcdhomiaa
