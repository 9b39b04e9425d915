/- The cell that a search splits, on both sides. No condition beyond those stated. -/
import Derived.Test.YtncknfhfkmmhbaaGreatZAN
import Derived.Test.YtncknfhfkmmhbaaGreatZAF
import Derived.Deep.QuietTactic
import Derived.BigQuiet
set_option linter.unusedVariables false
set_option linter.unusedSimpArgs false
namespace Go.Proofs.YtncknfhfkmmhbaaGreat
open Go.RowKit

/-- the vertices of the cell that is split -/
def vL (cells : List Int) : List Int := if tgtP cells < 0 then [] else vertsP cells (tgtP cells)
theorem vL_none {cells : List Int} (h : ∀ c : Nat, c < cells.length → cells.count (c : Int) < 2) : vL cells = [] := by rw [vL, if_pos (by rw [tgtP_none h]; omega)]
theorem vL_some {cells : List Int} {c : Nat} (hc : c < cells.length) (h2 : 2 ≤ cells.count (c : Int)) (hl : ∀ d : Nat, d < c → cells.count (d : Int) < 2) : vL cells = vertsP cells c := by
  rw [vL, tgtP_val hc h2 hl, if_neg (by omega)]
def fewTo (cells : List Int) (k : Nat) : Prop := ∀ d : Nat, d < k → cells.count (d : Int) < 2
theorem fewTo_zero (cells : List Int) : fewTo cells 0 := fun _ h => absurd h (by omega)
theorem fewTo_step {cells : List Int} {k : Nat} (h : fewTo cells k) (hk : ¬ 1 < (vertsP cells (k : Int)).length) : fewTo cells (k + 1) := fun d hd => by
  rcases Nat.lt_succ_iff_lt_or_eq.1 hd with h' | h'
  · exact h d h'
  · rw [h', ← vertsP_count]; omega
theorem vT_more (cells : List Int) (t : Int) (k : Nat) : vT cells t (k + 1) = if nth cells k = t then vT cells t k ++ [(k : Int)] else vT cells t k := vT_step cells t k
set_option maxRecDepth 100000 in
set_option maxHeartbeats 1000000 in
theorem target_any (A : Option Addr) (n c : Nat) (cells : List Int) (w : World) (ha : RI w A n cells) (hn : n ≤ 1048576) :
    Calls Tryz.prog 85 #[.slice A n c] w (RetI w 2 (vL cells)) := by
  have hla := Lib.hid ha.len
  go_enter Tryz.func85, Tryz.ntmps85
  go_wp2
  go_loopw [9] (fun i wr => ∃ k : Nat, k ≤ n ∧ i = .int .i64 k ∧ Below w.heap.size w wr ∧ fewTo cells k) (fun i _ => n - (intOf i).toNat)
  case atStart => exact ⟨0, Nat.zero_le _, rfl, Below.refl _ _, fewTo_zero _⟩
  case round =>
    obtain ⟨k, hk, rfl, hw, hf⟩ := hrel
    by_cases hlt : k < n
    · have HF := Lib.hid hf; clear hf
      have hsz := hw.size
      go_wp2
      obtain ⟨wo, rfl⟩ : ∃ wo : World, wo = wr := ⟨_, rfl⟩
      go_loopw [4, 14] (fun v i w2 => ∃ (j m : Nat) (A' : Option Addr) (c' : Nat), j ≤ n ∧ i = .int .i64 j ∧ v = .slice A' m c' ∧ OI w2 w.heap.size 2 A' m c' (vT cells k j) ∧ Below w.heap.size w w2) (fun _ i _ => n - (intOf i).toNat)
      case atStart => exact ⟨0, 0, _, _, Nat.zero_le _, rfl, rfl, OI.nil_ _ _ _, hw⟩
      case round =>
        obtain ⟨j, m, A', c', hj, rfl, rfl, ho, hw2⟩ := hrel
        by_cases hjl : j < n
        · obtain ⟨a, rfl, hca, hia⟩ := (ha.keep hw2).get hjl
          have hm : m ≤ n := by have := ho.len; have := vT_len cells k j; omega
          by_cases he : nth cells j = k
          · have he' : (nth cells j == (k : Int)) = true := by simp [he]
            have HV := Lib.hid (show vT cells k (j + 1) = vT cells k j ++ [(j : Int)] by rw [vT_more, if_pos he])
            rw [he] at hca
            clear he he' hia
            have hkk : ((k : Int) == (k : Int)) = true := by simp
            go_wp2_with (at_builtin; refine app_int _ rfl _ _ rfl w.heap.size A' m c' (vT cells k j) rfl ho (j : Int) _ rfl (by simp) ⟨by omega, by omega⟩ (by omega) hw2.size ?_; intro A2 c2 w3 ho3 hg3 hn3)
            have hw3 := below_own hw2 hg3 hw2.size (fun b hb => (ho.os.lt hb).1)
            clear ho hg3 hn3 hca
            go_roundw
            case rel => exact ⟨j + 1, _, _, _, by omega, by go_num, rfl, by rw [HV.out]; exact ho3, hw3⟩
            case measure => simp [intOf]; omega
          · have he' : (nth cells j == (k : Int)) = false := by simp [he]
            have HV := Lib.hid (show vT cells k (j + 1) = vT cells k j by rw [vT_more, if_neg he])
            clear he
            go_wp2
            go_roundw
            case rel => exact ⟨j + 1, _, _, _, by omega, by go_num, rfl, by rw [HV.out]; exact ho, hw2⟩
            case measure => simp [intOf]; omega
        · have HJ := Lib.hid (show vT cells k j = vertsP cells k by rw [show j = cells.length by rw [hla.out]; omega]; exact vT_all cells k)
          rw [HJ.out] at ho
          have hml := Lib.hid ho.len
          by_cases h1 : 1 < m
          · have HR := Lib.hid (show vL cells = vertsP cells k from vL_some (by rw [hla.out]; exact hlt) (by rw [← vertsP_count, hml.out]; omega) HF.out)
            clear hlt hk hj
            have hm9 : (m : Int) > 1 := by omega
            go_wp2
            go_ret
            exact ⟨_, _, _, rfl, by rw [HR.out]; exact ho, hw2⟩
          · have HN := Lib.hid (fewTo_step HF.out (by rw [hml.out]; exact h1))
            go_wp2
            go_roundw
            case rel => exact ⟨k + 1, by omega, by go_num, hw2, HN.out⟩
            case measure => simp [intOf]; omega
    · have HR := Lib.hid (show vL cells = [] from vL_none (by rw [hla.out]; intro d hd; exact hf d (by omega)))
      clear hf
      go_wp2
      go_ret
      exact ⟨none, 0, 0, rfl, by rw [HR.out]; exact OI.nil_ _ _ _, hw⟩
/-- the pairs of places that have been looked at -/
def pairTo (u v a b : Nat) : Prop := b < a ∧ (a < u ∨ (a = u ∧ b < v))
def TgtTo (cells : List Int) (u v : Nat) (out : Int) : Prop :=
  (out = -1 ∧ ∀ a b, pairTo u v a b → nth cells a ≠ nth cells b) ∨
  (0 ≤ out ∧ (∃ a b, pairTo u v a b ∧ nth cells a = nth cells b ∧ nth cells a = out) ∧ ∀ a b, pairTo u v a b → nth cells a = nth cells b → out ≤ nth cells a)
theorem tgtTo_zero (cells : List Int) : TgtTo cells 0 0 (-1) := .inl ⟨rfl, fun a b h => by unfold pairTo at h; omega⟩
theorem pairTo_step {u v a b : Nat} (h : pairTo u (v + 1) a b) : pairTo u v a b ∨ (a = u ∧ b = v) := by unfold pairTo at *; omega
theorem pairTo_more {u v a b : Nat} (h : pairTo u v a b) : pairTo u (v + 1) a b := by unfold pairTo at *; omega
theorem tgtTo_new {cells : List Int} {u v : Nat} {out : Int} (h : TgtTo cells u v out) (hv : v < u) (he : nth cells u = nth cells v) (h0 : 0 ≤ nth cells u) (hc : out < 0 ∨ nth cells u < out) : TgtTo cells u (v + 1) (nth cells u) := by
  refine .inr ⟨h0, ⟨u, v, by unfold pairTo; omega, he, rfl⟩, fun a b hp hq => ?_⟩
  rcases pairTo_step hp with h1 | ⟨rfl, rfl⟩
  · rcases h with ⟨_, h2⟩ | ⟨h2, _, h3⟩
    · exact absurd hq (h2 a b h1)
    · have := h3 a b h1 hq
      omega
  · omega
theorem tgtTo_old {cells : List Int} {u v : Nat} {out : Int} (h : TgtTo cells u v out) (hc : nth cells u ≠ nth cells v ∨ (0 ≤ out ∧ out ≤ nth cells u)) : TgtTo cells u (v + 1) out := by
  rcases h with ⟨h1, h2⟩ | ⟨h1, ⟨a, b, h2, h3⟩, h4⟩
  · refine .inl ⟨h1, fun a b hp => ?_⟩
    rcases pairTo_step hp with h3 | ⟨rfl, rfl⟩
    · exact h2 a b h3
    · rcases hc with hc | hc
      · exact hc
      · omega
  · refine .inr ⟨h1, ⟨a, b, pairTo_more h2, h3⟩, fun a b hp hq => ?_⟩
    rcases pairTo_step hp with h5 | ⟨rfl, rfl⟩
    · exact h4 a b h5 hq
    · rcases hc with hc | hc
      · exact absurd hq hc
      · exact hc.2
theorem tgtTo_next {cells : List Int} {u : Nat} {out : Int} (h : TgtTo cells u u out) : TgtTo cells (u + 1) 0 out := by
  have e : ∀ a b, pairTo (u + 1) 0 a b ↔ pairTo u u a b := fun a b => by unfold pairTo; omega
  unfold TgtTo at *
  simp only [e]
  exact h
theorem tgtTo_range {cells : List Int} {u v : Nat} {out : Int} (h : TgtTo cells u v out) : -1 ≤ out := by
  rcases h with ⟨h1, _⟩ | ⟨h1, _⟩ <;> omega
theorem tgtTo_end {n : Nat} {cells : List Int} {out : Int} (hc : Cells n cells) (h : TgtTo cells n 0 out) : tgtP cells = out := by
  rcases h with ⟨h1, h2⟩ | ⟨h1, ⟨a, b, h2, h3, h5⟩, h4⟩
  · rw [h1]
    refine tgtP_none fun c _ => ?_
    rcases Nat.lt_or_ge (cells.count (c : Int)) 2 with h3 | h3
    · exact h3
    · exfalso
      obtain ⟨u, v, h4, h5, h6, h7⟩ := two_count h3
      exact h2 u v (by unfold pairTo; rw [hc.len] at h5; omega) (h6.trans h7.symm)
  · have ha : a < n := by unfold pairTo at h2; omega
    have hb := hc.bd a ha
    have e : out = (out.toNat : Int) := by omega
    rw [e]
    refine tgtP_val (by rw [hc.len]; omega) ?_ fun d hd => ?_
    · rw [← e, ← h5]
      exact count_two (by unfold pairTo at h2; omega) (by rw [hc.len]; exact ha) h3
    · rcases Nat.lt_or_ge (cells.count (d : Int)) 2 with h6 | h6
      · exact h6
      · exfalso
        obtain ⟨u, v, h7, h8, h9, h10⟩ := two_count h6
        have := h4 u v (by unfold pairTo; rw [hc.len] at h8; omega) (h9.trans h10.symm)
        omega
end Go.Proofs.YtncknfhfkmmhbaaGreat
