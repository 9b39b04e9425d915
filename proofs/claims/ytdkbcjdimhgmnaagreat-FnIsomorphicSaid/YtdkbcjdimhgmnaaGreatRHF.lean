/- Permutations and squares: whether lists are such, the reference's side. No condition beyond those stated. -/
import Derived.Test.YtdkbcjdimhgmnaaGreatRGC
import Derived.Test.YtdkbcjdimhgmnaaGreatRGH
import Derived.Deep.RegionHeld3
set_option linter.unusedVariables false
set_option linter.unusedSimpArgs false
namespace Go.Proofs.YtdkbcjdimhgmnaaGreat
open Go.RowKit
theorem RI.take {w : World} {A : Option Addr} {n k : Nat} {zs : List Int} (h : RI w A n zs) (hk : k ≤ n) : RI w A k (zs.take k) :=
  ⟨by rw [List.length_take, h.len]; omega, fun j x hx => by
    rw [List.getElem?_take] at hx
    split at hx
    · exact RS.at_ h j x hx
    · cases hx⟩
theorem nth_take {zs : List Int} {k j : Nat} (h : j < k) : nth (zs.take k) j = nth zs j := by
  simp [nth, List.getD, List.getElem?_take, h]
def noneTo' (zs : List Int) (x : Int) (k : Nat) : Prop := ∀ j, j < k → nth zs j ≠ x
set_option maxHeartbeats 400000 in
theorem l00Has_any (A : Option Addr) (n c : Nat) (zs : List Int) (x : Int) (w : World) (ha : RI w A n zs) (hn : n ≤ 9223372036854775807) :
    Calls Tryz.prog 142 #[.slice A n c, .int .i64 x] w fun e w' => e = .returned (.bool (tB (x ∈ zs))) ∧ w = w' := by
  have hla := Lib.hid ha.len
  go_enter Tryz.func142, Tryz.ntmps142
  go_wp2
  go_loop [5] (fun i => ∃ k : Nat, k ≤ n ∧ i = .int .i64 k ∧ noneTo' zs x k) (fun i => n - (intOf i).toNat)
  case atStart => exact ⟨0, Nat.zero_le _, rfl, fun _ h => absurd h (by omega)⟩
  case round =>
    obtain ⟨k, hk, rfl, hno⟩ := hrel
    by_cases hlt : k < n
    · obtain ⟨a, rfl, hca, hia⟩ := ha.get hlt
      by_cases he : nth zs k = x
      · have he' : (nth zs k == x) = true := by simp [he]
        have H := Lib.hid (show tB (x ∈ zs) = true from tB_yes (by rw [← he]; exact nth_mem (by rw [hla.out]; exact hlt)))
        clear he hno
        go_wp2
        go_ret
        exact ⟨by rw [H.out]; rfl, rfl⟩
      · have he' : (nth zs k == x) = false := by simp [he]
        have H := Lib.hid (show noneTo' zs x (k + 1) from fun j hj => by
          rcases Nat.lt_succ_iff_lt_or_eq.1 hj with h' | h'
          · exact hno j h'
          · rw [h']; exact he)
        clear he hno
        go_wp2
        go_round
        case rel => exact ⟨k + 1, by omega, by go_num, H.out⟩
        case measure => simp [intOf]; omega
    · have H := Lib.hid (show tB (x ∈ zs) = false from tB_no fun hm => by
        obtain ⟨j, hj, e⟩ := mem_nth hm
        exact hno j (by rw [hla.out] at hj; omega) e)
      clear hno
      go_wp2
      go_ret
      exact ⟨by rw [H.out]; rfl, rfl⟩
def permTo (p : List Int) (k : Nat) : Prop := (∀ j, j < k → 0 ≤ nth p j ∧ nth p j < p.length) ∧ ∀ i j, i < j → j < k → nth p i ≠ nth p j
theorem permTo_step {p : List Int} {k : Nat} (h : permTo p k) (hk : k < p.length) (h1 : 0 ≤ nth p k ∧ nth p k ≤ (p.length : Int) - 1) (h2 : nth p k ∉ p.take k) : permTo p (k + 1) :=
  ⟨fun j hj => by
    rcases Nat.lt_succ_iff_lt_or_eq.1 hj with h' | h'
    · exact h.1 j h'
    · rw [h']; omega,
   fun i j hij hj => by
    rcases Nat.lt_succ_iff_lt_or_eq.1 hj with h' | h'
    · exact h.2 i j hij h'
    · rw [h'] at hij ⊢
      intro e
      refine h2 ?_
      rw [← e, ← nth_take (k := k) hij]
      exact nth_mem (by rw [List.length_take]; omega)⟩
set_option maxRecDepth 100000 in
set_option maxHeartbeats 1000000 in
theorem l04Ok_any (A : Option Addr) (n c : Nat) (p : List Int) (w : World) (ha : RI w A n p) (hn : n ≤ c) (hc : c ≤ 9223372036854775807) :
    Calls Tryz.prog 82 #[.slice A n c] w (Quiet w (.bool (tB (PermOk p)))) := by
  have hla := Lib.hid ha.len
  by_cases h0 : n ≤ 32
  · go_enter Tryz.func82, Tryz.ntmps82
    go_wp2
    go_loopw [3] (fun i wr => ∃ k : Nat, k ≤ n ∧ i = .int .i64 k ∧ Drawn w wr ∧ permTo p k) (fun i _ => n - (intOf i).toNat)
    case atStart => exact ⟨0, Nat.zero_le _, rfl, Drawn.refl _, fun _ h => absurd h (by omega), fun _ _ _ h => absurd h (by omega)⟩
    case round =>
      obtain ⟨k, hk, rfl, hd, hto⟩ := hrel
      by_cases hlt : k < n
      · obtain ⟨a, rfl, hca, hia⟩ := (ha.drawn hd).get hlt
        have e1 : IntKind.i64.wrap ((n : Int) - 1) = (n : Int) - 1 := IntWalk.i64_in _ (by omega)
        have e4 : (k : Int) ≤ (c : Int) := by omega
        cases h1 : inB (nth p k) 0 ((n : Int) - 1) with
        | false =>
          have hcall : ∀ q, Calls Tryz.prog 37 #[.int .i64 (nth p k), .int .i64 0, .int .i64 ((n : Int) - 1)] (wr.drewN q) (Quiet (wr.drewN q) (.bool false)) := fun q => by rw [← h1]; exact (l00In_any _ _ _ _).mono fun _ _ h => Quiet.of_same h
          have H := Lib.hid (show tB (PermOk p) = false from tB_no fun hh => by
            have := hh.2.bd k (by rw [hla.out]; exact hlt)
            rw [hla.out] at this
            rw [inB_mk ⟨this.1, by omega⟩] at h1
            cases h1)
          clear hto h1
          go_wp2
          go_quiet ((go_at_call 37; exact Quiet.call (hcall _)))
          clear e1
          go_wp2
          go_ret
          exact ⟨by rw [H.out]; rfl, hd.more _⟩
        | true =>
          have hcall : ∀ q, Calls Tryz.prog 37 #[.int .i64 (nth p k), .int .i64 0, .int .i64 ((n : Int) - 1)] (wr.drewN q) (Quiet (wr.drewN q) (.bool true)) := fun q => by rw [← h1]; exact (l00In_any _ _ _ _).mono fun _ _ h => Quiet.of_same h
          have hin := Lib.hid (inB_true h1)
          clear h1
          by_cases h2 : nth p k ∈ p.take k
          · have hcall2 : ∀ q, Calls Tryz.prog 142 #[.slice (some a) k c, .int .i64 (nth p k)] (wr.drewN q) (Quiet (wr.drewN q) (.bool true)) := fun q => by
              rw [← tB_yes h2]; exact (l00Has_any (some a) k c (p.take k) _ _ ((ha.drawn (hd.more q)).take (by omega)) (by omega)).mono fun _ _ h => Quiet.of_same h
            have H := Lib.hid (show tB (PermOk p) = false from tB_no fun hh => by
              obtain ⟨j, hj, e⟩ := mem_nth h2
              rw [List.length_take] at hj
              rw [nth_take (by omega)] at e
              exact hh.2.ne j k (by omega) (by rw [hla.out]; exact hlt) e)
            clear hto h2
            go_wp2
            go_quiet ((first | (go_at_call 37; exact Quiet.call (hcall _)) | (go_at_call 142; exact Quiet.call (hcall2 _))))
            clear e1 e4
            go_wp2
            go_ret
            exact ⟨by rw [H.out]; rfl, hd.more _⟩
          · have hcall2 : ∀ q, Calls Tryz.prog 142 #[.slice (some a) k c, .int .i64 (nth p k)] (wr.drewN q) (Quiet (wr.drewN q) (.bool false)) := fun q => by
              rw [← tB_no h2]; exact (l00Has_any (some a) k c (p.take k) _ _ ((ha.drawn (hd.more q)).take (by omega)) (by omega)).mono fun _ _ h => Quiet.of_same h
            have H := Lib.hid (permTo_step hto (by rw [hla.out]; exact hlt) (by rw [hla.out]; exact hin.out) h2)
            clear hto h2
            go_wp2
            go_quiet ((first | (go_at_call 37; exact Quiet.call (hcall _)) | (go_at_call 142; exact Quiet.call (hcall2 _))))
            clear e1 e4
            go_wp2
            go_roundw
            case rel => exact ⟨k + 1, by omega, by go_num, hd.more _, H.out⟩
            case measure => simp [intOf]; omega
      · have H := Lib.hid (show tB (PermOk p) = true from tB_yes ⟨by rw [hla.out]; exact h0, by rw [hla.out, ← show k = n by omega]; have := hla.out; rw [show k = n by omega, ← this]; rw [show k = n by omega, ← this] at hto; exact hto.1, by rw [hla.out]; rw [show k = n by omega] at hto; exact fun i j h1 h2 => hto.2 i j h1 h2⟩)
        clear hto
        go_wp2
        go_ret
        exact ⟨by rw [H.out]; rfl, hd⟩
  · have H := Lib.hid (show tB (PermOk p) = false from tB_no fun hh => h0 (by have := hh.1; rw [hla.out] at this; exact this))
    go_enter Tryz.func82, Tryz.ntmps82
    go_wp2
    go_ret
    exact ⟨by rw [H.out]; rfl, Drawn.refl _⟩
end Go.Proofs.YtdkbcjdimhgmnaaGreat
