/- Graphs: whether one is valid, on both sides. No condition beyond those stated. -/
import Derived.Test.YtkeeneedaekfoaaGreatGD
import Derived.Test.YtkeeneedaekfoaaGreatGC
import Derived.Test.YtkeeneedaekfoaaGreatGB
import Derived.Deep.RegionHeld3
set_option linter.unusedVariables false
set_option linter.unusedSimpArgs false
namespace Go.Proofs.YtkeeneedaekfoaaGreat
open Go.RowKit

def orI (x y : Int) : Int := if x = 0 then y else x
def cmpE (a b : Ed) : Int := orI (sgnI a.1 b.1) (sgnI a.2 b.2)
def lessE (a b : Ed) : Prop := a.1 < b.1 ∨ (a.1 = b.1 ∧ a.2 < b.2)
theorem cmpE_neg (a b : Ed) : cmpE a b < 0 ↔ lessE a b := by
  unfold cmpE orI lessE
  rcases sgnI_cases a.1 b.1 with ⟨h, e⟩ | ⟨h, e⟩ | ⟨h, e⟩ <;> rcases sgnI_cases a.2 b.2 with ⟨h', e'⟩ | ⟨h', e'⟩ | ⟨h', e'⟩ <;> rw [e, e'] <;> simp <;> omega
structure GraphOk (cs : List Int) (es : List Ed) : Prop where
  clen : cs.length ≤ 64
  elen : es.length ≤ 512
  col : ∀ k, k < cs.length → 0 ≤ nth cs k ∧ nth cs k ≤ 63
  edge : ∀ i, i < es.length → 0 ≤ (nthE es i).1 ∧ (nthE es i).1 < (nthE es i).2 ∧ (nthE es i).2 < cs.length
  ord : ∀ i, i + 1 < es.length → lessE (nthE es i) (nthE es (i + 1))
set_option maxHeartbeats 1000000 in
theorem l21Less_any (a b c d : Int) (w : World) :
    Calls Tryz.prog 83 #[.agg #[.int .i64 a, .int .i64 b], .agg #[.int .i64 c, .int .i64 d]] w fun e w' => e = .returned (.bool (tB (lessE (a, b) (c, d)))) ∧ Below w.heap.size w w' := by
  have hb1 := below_then (below_alloc w (.cells #[.int .i64 a, .int .i64 b] 98)) (below_alloc (w.alloc (.cells #[.int .i64 a, .int .i64 b] 98)) (.cells #[.int .i64 c, .int .i64 d] 98))
  by_cases h1 : a < c
  · have H := Lib.hid (show tB (lessE (a, b) (c, d)) = true from tB_yes (.inl h1))
    go_enter Tryz.func83, Tryz.ntmps83
    go_wp2
    go_ret
    exact ⟨by rw [H.out]; rfl, hb1⟩
  · by_cases h2 : a = c
    · have h2' : (a == c) = true := by simp [h2]
      by_cases h3 : b < d
      · have H := Lib.hid (show tB (lessE (a, b) (c, d)) = true from tB_yes (.inr ⟨h2, h3⟩))
        clear h2
        go_enter Tryz.func83, Tryz.ntmps83
        go_wp2
        go_ret
        exact ⟨by rw [H.out]; exact ret_bool (by first | (simp; done) | (simp; omega) | simp [h3]), hb1⟩
      · have H := Lib.hid (show tB (lessE (a, b) (c, d)) = false from tB_no fun h => by
          rcases h with h | ⟨_, h⟩
          · exact h1 h
          · exact h3 h)
        clear h2
        go_enter Tryz.func83, Tryz.ntmps83
        go_wp2
        go_ret
        exact ⟨by rw [H.out]; exact ret_bool (by first | (simp; done) | (simp; omega)), hb1⟩
    · have h2' : (a == c) = false := by simp [h2]
      have H := Lib.hid (show tB (lessE (a, b) (c, d)) = false from tB_no fun h => by
        rcases h with h | ⟨h, _⟩
        · exact h1 h
        · exact h2 h)
      clear h2
      go_enter Tryz.func83, Tryz.ntmps83
      go_wp2
      go_ret
      exact ⟨by rw [H.out]; rfl, hb1⟩

def colB (x : Int) : Bool := !inB x 0 63
def colsOk (cs : List Int) : Prop := cs.length ≤ 64 ∧ ∀ k, k < cs.length → 0 ≤ nth cs k ∧ nth cs k ≤ 63
theorem colB_any (cs : List Int) : (!cs.any colB) = tB (∀ k, k < cs.length → 0 ≤ nth cs k ∧ nth cs k ≤ 63) := by
  cases h : cs.any colB with
  | true =>
    obtain ⟨x, hx, hb⟩ := List.any_eq_true.1 h
    obtain ⟨k, hk, rfl⟩ := List.mem_iff_getElem.1 hx
    rw [tB_no (p := ∀ k, k < cs.length → 0 ≤ nth cs k ∧ nth cs k ≤ 63) fun hh => ?_]
    · rfl
    · have := hh k hk
      rw [nth_get hk] at this
      rw [colB, inB_mk this] at hb
      cases hb
  | false =>
    rw [tB_yes (p := ∀ k, k < cs.length → 0 ≤ nth cs k ∧ nth cs k ≤ 63) fun i hi => ?_]
    · rfl
    · rw [List.any_eq_false] at h
      have := h cs[i] (List.getElem_mem hi)
      rw [nth_get hi]
      exact inB_true (by simpa [colB] using this)
set_option maxHeartbeats 1000000 in
theorem l21Colors_any (A : Option Addr) (n c : Nat) (cs : List Int) (w : World) (ha : RI w A n cs) (hn : n ≤ 9223372036854775807) :
    Calls Tryz.prog 82 #[.slice A n c] w fun e w' => e = .returned (.bool (tB (colsOk cs))) ∧ w = w' := by
  have hla := Lib.hid ha.len
  by_cases h0 : n ≤ 64
  · go_enter Tryz.func82, Tryz.ntmps82
    go_wp2
    go_loop [3] (fun i => ∃ k : Nat, k ≤ n ∧ i = .int .i64 k ∧ ∀ j, j < k → 0 ≤ nth cs j ∧ nth cs j ≤ 63) (fun i => n - (intOf i).toNat)
    case atStart => exact ⟨0, Nat.zero_le _, rfl, fun _ h => absurd h (by omega)⟩
    case round =>
      obtain ⟨k, hk, rfl, hto⟩ := hrel
      by_cases hlt : k < n
      · obtain ⟨a, rfl, hca, hia⟩ := ha.get hlt
        cases h1 : inB (nth cs k) 0 63 with
        | true =>
          have H := Lib.hid (show ∀ j, j < k + 1 → 0 ≤ nth cs j ∧ nth cs j ≤ 63 from fun j hj => by
            rcases Nat.lt_succ_iff_lt_or_eq.1 hj with h' | h'
            · exact hto j h'
            · rw [h']; exact inB_true h1)
          clear hto
          go_wp2_with (go_at_call 52; refine (l00In_any _ _ _ _).mono ?_; rintro e w' ⟨rfl, rfl⟩; rw [h1])
          go_round
          case rel => exact ⟨k + 1, by omega, by go_num, H.out⟩
          case measure => simp [intOf]; omega
        | false =>
          have H := Lib.hid (show tB (colsOk cs) = false from tB_no fun h => by
            rw [inB_mk (h.2 k (by rw [hla.out]; exact hlt))] at h1; cases h1)
          clear hto
          go_wp2_with (go_at_call 52; refine (l00In_any _ _ _ _).mono ?_; rintro e w' ⟨rfl, rfl⟩; rw [h1])
          go_ret
          exact ⟨by rw [H.out]; rfl, rfl⟩
      · have H := Lib.hid (show tB (colsOk cs) = true from tB_yes ⟨by rw [hla.out]; exact h0, by rw [hla.out]; rwa [show k = n by omega] at hto⟩)
        clear hto
        go_wp2
        go_ret
        exact ⟨by rw [H.out]; rfl, rfl⟩
  · have H := Lib.hid (show tB (colsOk cs) = false from tB_no fun h => h0 (by have := h.1; rw [hla.out] at this; exact this))
    go_enter Tryz.func82, Tryz.ntmps82
    go_wp2
    go_ret
    exact ⟨by rw [H.out]; rfl, rfl⟩
end Go.Proofs.YtkeeneedaekfoaaGreat
