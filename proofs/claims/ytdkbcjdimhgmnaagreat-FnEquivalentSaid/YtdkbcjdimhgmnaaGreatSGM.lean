/- Rising lists by putting, and lists in order by insertion: the reference's side. No condition beyond those stated. -/
import Derived.Test.YtdkbcjdimhgmnaaGreatSGG
set_option linter.unusedVariables false
set_option linter.unusedSimpArgs false
namespace Go.Proofs.YtdkbcjdimhgmnaaGreat
open Go.RowKit
section
variable {α : Type} {c : α → α → Int} {zs L : List α} {x : α} {k : Nat} {d : Bool}
end
structure Rows (w : World) (vs : List Sl) (L : List (List Int)) : Prop where
  len : vs.length = L.length
  row : ∀ (j : Nat) (v : Sl) (z : List Int), vs[j]? = some v → L[j]? = some z → v.2.1 ≤ v.2.2 ∧ v.2.2 ≤ 9223372036854775807 ∧ RI w v.1 v.2.1 z
section
variable {w w' : World} {vs us : List Sl} {L M : List (List Int)}
end
section
variable {ops : Array Oper} {rest : List Oper} {o : Oper} {a : Act} {Q : Exit → Act → World → Prop}
end
def vL (cells : List Int) : List Int := if tgtP cells < 0 then [] else vertsP cells (tgtP cells)
theorem vL_none {cells : List Int} (h : ∀ c : Nat, c < cells.length → cells.count (c : Int) < 2) : vL cells = [] := by rw [vL, if_pos (by rw [tgtP_none h]; omega)]
theorem vL_some {cells : List Int} {c : Nat} (hc : c < cells.length) (h2 : 2 ≤ cells.count (c : Int)) (hl : ∀ d : Nat, d < c → cells.count (d : Int) < 2) : vL cells = vertsP cells c := by
  rw [vL, tgtP_val hc h2 hl, if_neg (by omega)]
def fewTo (cells : List Int) (k : Nat) : Prop := ∀ d : Nat, d < k → cells.count (d : Int) < 2
theorem fewTo_zero (cells : List Int) : fewTo cells 0 := fun _ h => absurd h (by omega)
theorem fewTo_step {cells : List Int} {k : Nat} (h : fewTo cells k) (hk : ¬ 1 < (vertsP cells (k : Int)).length) : fewTo cells (k + 1) := fun d hd => by
  rcases Nat.lt_succ_iff_lt_or_eq.1 hd with h' | h'
  · exact h d h'
  · rw [h', ← vertsP_count]; omega
theorem vT_more (cells : List Int) (t : Int) (k : Nat) : vT cells t (k + 1) = if nth cells k = t then vT cells t k ++ [(k : Int)] else vT cells t k := vT_step cells t k
set_option maxRecDepth 100000 in
set_option maxHeartbeats 1000000 in
theorem target_any (A : Option Addr) (n c : Nat) (cells : List Int) (w : World) (ha : RI w A n cells) (hn : n ≤ 1048576) :
    Calls Tryz.prog 232 #[.slice A n c] w (RetI w 2 (vL cells)) := by
  have hla := Lib.hid ha.len
  go_enter Tryz.func232, Tryz.ntmps232
  go_wp2
  go_loopw [9] (fun i wr => ∃ k : Nat, k ≤ n ∧ i = .int .i64 k ∧ Below w.heap.size w wr ∧ fewTo cells k) (fun i _ => n - (intOf i).toNat)
  case atStart => exact ⟨0, Nat.zero_le _, rfl, Below.refl _ _, fewTo_zero _⟩
  case round =>
    obtain ⟨k, hk, rfl, hw, hf⟩ := hrel
    by_cases hlt : k < n
    · have HF := Lib.hid hf; clear hf
      have hsz := hw.size
      go_wp2
      obtain ⟨wo, rfl⟩ : ∃ wo : World, wo = wr := ⟨_, rfl⟩
      go_loopw [4, 14] (fun v i w2 => ∃ (j m : Nat) (A' : Option Addr) (c' : Nat), j ≤ n ∧ i = .int .i64 j ∧ v = .slice A' m c' ∧ OI w2 w.heap.size 2 A' m c' (vT cells k j) ∧ Below w.heap.size w w2) (fun _ i _ => n - (intOf i).toNat)
      case atStart => exact ⟨0, 0, _, _, Nat.zero_le _, rfl, rfl, OI.nil_ _ _ _, hw⟩
      case round =>
        obtain ⟨j, m, A', c', hj, rfl, rfl, ho, hw2⟩ := hrel
        by_cases hjl : j < n
        · obtain ⟨a, rfl, hca, hia⟩ := (ha.keep hw2).get hjl
          have hm : m ≤ n := by have := ho.len; have := vT_len cells k j; omega
          by_cases he : nth cells j = k
          · have he' : (nth cells j == (k : Int)) = true := by simp [he]
            have HV := Lib.hid (show vT cells k (j + 1) = vT cells k j ++ [(j : Int)] by rw [vT_more, if_pos he])
            rw [he] at hca
            clear he he' hia
            have hkk : ((k : Int) == (k : Int)) = true := by simp
            go_wp2_with (at_builtin; refine app_int _ rfl _ _ rfl w.heap.size A' m c' (vT cells k j) rfl ho (j : Int) _ rfl (by simp) ⟨by omega, by omega⟩ (by omega) hw2.size ?_; intro A2 c2 w3 ho3 hg3 hn3)
            have hw3 := below_own hw2 hg3 hw2.size (fun b hb => (ho.os.lt hb).1)
            clear ho hg3 hn3 hca
            go_roundw
            case rel => exact ⟨j + 1, _, _, _, by omega, by go_num, rfl, by rw [HV.out]; exact ho3, hw3⟩
            case measure => simp [intOf]; omega
          · have he' : (nth cells j == (k : Int)) = false := by simp [he]
            have HV := Lib.hid (show vT cells k (j + 1) = vT cells k j by rw [vT_more, if_neg he])
            clear he
            go_wp2
            go_roundw
            case rel => exact ⟨j + 1, _, _, _, by omega, by go_num, rfl, by rw [HV.out]; exact ho, hw2⟩
            case measure => simp [intOf]; omega
        · have HJ := Lib.hid (show vT cells k j = vertsP cells k by rw [show j = cells.length by rw [hla.out]; omega]; exact vT_all cells k)
          rw [HJ.out] at ho
          have hml := Lib.hid ho.len
          by_cases h1 : 1 < m
          · have HR := Lib.hid (show vL cells = vertsP cells k from vL_some (by rw [hla.out]; exact hlt) (by rw [← vertsP_count, hml.out]; omega) HF.out)
            clear hlt hk hj
            have hm9 : (m : Int) > 1 := by omega
            go_wp2
            go_ret
            exact ⟨_, _, _, rfl, by rw [HR.out]; exact ho, hw2⟩
          · have HN := Lib.hid (fewTo_step HF.out (by rw [hml.out]; exact h1))
            go_wp2
            go_roundw
            case rel => exact ⟨k + 1, by omega, by go_num, hw2, HN.out⟩
            case measure => simp [intOf]; omega
    · have HR := Lib.hid (show vL cells = [] from vL_none (by rw [hla.out]; intro d hd; exact hf d (by omega)))
      clear hf
      go_wp2
      go_ret
      exact ⟨none, 0, 0, rfl, by rw [HR.out]; exact OI.nil_ _ _ _, hw⟩
end Go.Proofs.YtdkbcjdimhgmnaaGreat
