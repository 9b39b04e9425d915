/- Objects: made, copied, marked, held and compared. No condition beyond those stated. -/
import Derived.Test.YtncknfhfkmmhbaaGreatZAF
import Derived.Test.YtncknfhfkmmhbaaGreatZAK
import Derived.Test.YtncknfhfkmmhbaaGreatZAG
import Derived.Test.YtncknfhfkmmhbaaGreatZAH
set_option linter.unusedVariables false
set_option linter.unusedSimpArgs false
namespace Go.Proofs.YtncknfhfkmmhbaaGreat
open Go.RowKit

theorem bcell {W w1 : World} (hb : Below W.heap.size W w1) : (∀ b o, b < W.heap.size → w1.cell? ⟨b, o, none⟩ = W.cell? ⟨b, o, none⟩) ∧ (∀ b o, b < W.heap.size → w1.frozen? ⟨b, o, none⟩ = W.frozen? ⟨b, o, none⟩) :=
  ⟨fun b o h => hb.cell (p := ⟨b, o, none⟩) h, fun b o h => hb.frozen (p := ⟨b, o, none⟩) h⟩
/-- an object whose rows lie in memory of the call's own -/
def RetO (w : World) (k s : Int) (zss : List (List Int)) (en : Ending) (w' : World) : Prop :=
  ∃ A n c, en = .returned (.agg #[.int .i64 k, .int .i64 s, .slice A n c]) ∧ OR w' w.heap.size 33 2 A n c zss ∧ Below w.heap.size w w'
/-- the same, and a code -/
def RetOC (w : World) (k s : Int) (zss : List (List Int)) (code : Int) (en : Ending) (w' : World) : Prop :=
  ∃ A n c, en = .returned (.tuple #[.agg #[.int .i64 k, .int .i64 s, .slice A n c], .int .i64 code]) ∧ OR w' w.heap.size 33 2 A n c zss ∧ Below w.heap.size w w'

end Go.Proofs.YtncknfhfkmmhbaaGreat
/- Designs: whether blocks are one, on both sides. No condition beyond those stated. -/
namespace Go.Proofs.YtncknfhfkmmhbaaGreat
open Go.RowKit

set_option maxHeartbeats 1000000 in
theorem validSet_any (A : Option Addr) (n c : Nat) (z : List Int) (v : Int) (w : World) (ha : RI w A n z) (hn : n ≤ 9223372036854775807) (v1 : 1 ≤ v) (v2 : v ≤ 32) :
    Calls Tryz.prog 90 #[.slice A n c, .int .i64 v] w fun e w' => e = .returned (.bool (tB (Rises z 0 (v - 1)))) ∧ w = w' := by
  have hla := Lib.hid ha.len
  have hv := Lib.hid (inB_mk (a := v) (lo := 0) (hi := 32) (by omega))
  go_enter Tryz.func90, Tryz.ntmps90
  go_wp2
  go_loop [5, 10] (fun l i => ∃ (k : Nat) (x : Int), k ≤ n ∧ i = .int .i64 k ∧ l = .int .i64 x ∧ -1 ≤ x ∧ x ≤ 31 ∧ Hid ((k = 0 ∧ x = -1) ∨ (0 < k ∧ x = nth z (k - 1))) ∧ risesTo z 0 (v - 1) k) (fun _ i => n - (intOf i).toNat)
  case atStart => exact ⟨0, -1, Nat.zero_le _, rfl, rfl, by omega, by omega, Lib.hid (.inl ⟨rfl, rfl⟩), risesTo_zero _ _ _⟩
  case round =>
    obtain ⟨k, x, hk, rfl, rfl, x1, x2, hx, hr⟩ := hrel
    by_cases hlt : k < n
    · obtain ⟨a, rfl, hca, hia⟩ := ha.get hlt
      by_cases h1 : nth z k ≤ x
      · have H := Lib.hid (show tB (Rises z 0 (v - 1)) = false from tB_no fun hh => by
          rcases hx.out with ⟨_, e⟩ | ⟨e0, e⟩
          · have := (hh.bd k (by rw [hla.out]; exact hlt)).1; omega
          · have := hh.up (k - 1) (by rw [hla.out]; omega)
            rw [show k - 1 + 1 = k by omega] at this
            omega)
        clear hr hx
        go_wp2
        go_ret
        exact ⟨by rw [H.out]; rfl, rfl⟩
      · by_cases h2 : v ≤ nth z k
        · have H := Lib.hid (show tB (Rises z 0 (v - 1)) = false from tB_no fun hh => by
            have := (hh.bd k (by rw [hla.out]; exact hlt)).2; omega)
          clear hr hx
          go_wp2
          go_ret
          exact ⟨by rw [H.out]; rfl, rfl⟩
        · have h3 : 0 ≤ nth z k := by omega
          have H := Lib.hid (risesTo_step hr ⟨h3, by omega⟩ (fun h0 => by
            rcases hx.out with ⟨e, _⟩ | ⟨e0, e⟩
            · omega
            · rw [← e]; omega))
          clear hr hx
          go_wp2
          go_round
          case rel => exact ⟨k + 1, nth z k, by omega, by go_num, rfl, by omega, by omega, Lib.hid (.inr ⟨by omega, by simp⟩), H.out⟩
          case measure => simp [intOf]; omega
    · have H := Lib.hid (show tB (Rises z 0 (v - 1)) = true from tB_yes (risesTo_all hla.out (by rwa [show k = n by omega] at hr)))
      clear hr hx
      go_wp2_with (go_at_call 14; refine (within_any _ _ _ _).mono ?_; rintro e w' ⟨rfl, rfl⟩)
      go_ret
      exact ⟨by rw [H.out]; exact ret_bool hv.out, rfl⟩
/-- all lists are blocks -/
def allBlk (bs : List (List Int)) (v : Int) : Prop := ∀ i, i < bs.length → Block (row bs i) v
noncomputable def noBlk (v : Int) (z : List Int) : Bool := !tB (Block z v)
theorem noBlk_any (bs : List (List Int)) (v : Int) : (!bs.any (noBlk v)) = tB (allBlk bs v) := by
  cases h : bs.any (noBlk v) with
  | true =>
    obtain ⟨x, hx, hb⟩ := List.any_eq_true.1 h
    obtain ⟨k, hk, rfl⟩ := List.mem_iff_getElem.1 hx
    rw [tB_no (p := allBlk bs v) fun hh => ?_]
    · rfl
    · have := hh k hk
      rw [row_get hk] at this
      simp [noBlk, tB_yes this] at hb
  | false =>
    rw [tB_yes (p := allBlk bs v) fun i hi => ?_]
    · rfl
    · rw [List.any_eq_false] at h
      have := h bs[i] (List.getElem_mem hi)
      rw [row_get hi]
      exact tB_true.1 (by simpa [noBlk] using this)

def sortedTo (bs : List (List Int)) (x : Int) : Prop := ∀ j : Nat, x ≤ j → j + 1 < bs.length → cmpL (row bs j) (row bs (j + 1)) ≤ 0
def sortedR (bs : List (List Int)) : Prop := ∀ j : Nat, j + 1 < bs.length → cmpL (row bs j) (row bs (j + 1)) ≤ 0
theorem design_iff (v : Int) (bs : List (List Int)) : Design v bs ↔ (1 ≤ v ∧ v ≤ 32) ∧ allBlk bs v ∧ bs.length ≤ 128 ∧ sortedR bs :=
  ⟨fun h => ⟨⟨h.v1, h.v2⟩, h.blk, h.len, h.ord⟩, fun h => ⟨h.1.1, h.1.2, h.2.2.1, h.2.1, h.2.2.2⟩⟩
end Go.Proofs.YtncknfhfkmmhbaaGreat
