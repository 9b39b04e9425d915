/- Hadamard matrices: whether rows are one, the program's side. No condition beyond those stated. -/
import Derived.Test.YtainkgckahcdnaaHad
import Derived.Test.YtainkgckahcdnaaCopy
namespace Go.Proofs.Ytainkgckahcdnaa
open Go.RowKit

def oddB (x : Int) : Bool := x != 1 && x != -1
set_option maxHeartbeats 400000 in
theorem validHadamard1_any (x : Int) (w : World) : Calls Try.prog 61 #[.int .i64 x] w fun e w' => e = .returned (.bool (oddB x)) ∧ w = w' := by
  by_cases e1 : x = 1
  · have h1 : (x != 1) = false := by simp [e1]
    have H := Lib.hid (show oddB x = false by simp [oddB, h1])
    clear e1
    go_enter Try.func61, Try.ntmps61
    go_wp2
    go_ret
    exact ⟨by rw [H.out]; rfl, rfl⟩
  · have h1 : (x != 1) = true := by simp [e1]
    by_cases e2 : x = -1
    · have h2 : (x != -1) = false := by simp [e2]
      have H := Lib.hid (show oddB x = false by simp [oddB, h2])
      clear e1 e2
      go_enter Try.func61, Try.ntmps61
      go_wp2
      go_ret
      exact ⟨by rw [H.out]; rfl, rfl⟩
    · have h2 : (x != -1) = true := by simp [e2]
      have H := Lib.hid (show oddB x = true by simp [oddB, h1, h2])
      clear e1 e2
      go_enter Try.func61, Try.ntmps61
      go_wp2
      go_ret
      exact ⟨by rw [H.out]; rfl, rfl⟩
theorem oddB_no {x : Int} (h : oddB x = false) : x = 1 ∨ x = -1 := by
  simp [oddB] at h
  omega
theorem pm_of {z : List Int} (h : z.any oddB = false) : PM z z.length := fun k hk => by
  rw [List.any_eq_false] at h
  rw [nth_get hk]
  exact oddB_no (by simpa using h _ (List.getElem_mem hk))
theorem not_pm {z : List Int} (h : z.any oddB = true) : ¬ PM z z.length := fun hp => by
  obtain ⟨x, hx, hb⟩ := List.any_eq_true.1 h
  obtain ⟨k, hk, rfl⟩ := List.mem_iff_getElem.1 hx
  have := hp k hk
  rw [nth_get hk] at this
  rcases this with e | e <;> rw [e] at hb <;> simp [oddB] at hb
theorem askOdd (w : World) : AskI 61 #[] oddB w := fun x W _ _ => (validHadamard1_any x W).mono fun _ _ h => RetB.of_same h

set_option maxRecDepth 100000 in
set_option maxHeartbeats 2000000 in
theorem validHadamard_any (A : Option Addr) (n c : Nat) (h : List (List Int)) (w : World) (ha : RR w A n h) (hn : n ≤ c) (hc : c ≤ 9223372036854775807) :
    Calls Try.prog 40 #[.slice A n c] w (RetB w (tB (Had h))) := by
  have hla := Lib.hid ha.len
  have eg : ∀ (args : Array Value) (w : World), (callFunc 61 args).run Try.prog w = .ok (.enter 61 args) w := fun _ _ => by kernel_rfl
  have hask := askOdd
  go_enter Try.func40, Try.ntmps40
  go_wp2_with (go_at_call 42; refine (sizeR_any _ _ _ _ (by omega)).mono ?_; rintro e w' ⟨rfl, rfl⟩)
  go_loopw [14] (fun i wr => ∃ j : Nat, i = .int .i64 j ∧ j ≤ n ∧ hadTo h j ∧ pairTo h j ∧ Below w.heap.size w wr) (fun i _ => n - (intOf i).toNat)
  case atStart => exact ⟨0, rfl, Nat.zero_le _, fun _ h => absurd h (by omega), fun _ h => absurd h (by omega), Below.refl _ _⟩
  case round =>
    obtain ⟨j, rfl, hj, hto, hpt, hb⟩ := hrel
    by_cases hlt : j < n
    · obtain ⟨a, A1, n1, c1, rfl, hca0, hn1, hc1, ha1⟩ := ha.get hlt
      have hca := below_cell hb hca0
      clear hca0
      have hl1 := Lib.hid ha1.len
      by_cases hn' : n1 = n
      · subst hn'
        cases hodd : (row h j).any oddB with
        | true =>
          have H := Lib.hid (show tB (Had h) = false from tB_no fun hh => by
            have := (hh.2.2.1 j (by rw [hla.out]; exact hlt)).2
            rw [hla.out, ← hl1.out] at this
            exact not_pm hodd this)
          clear hto hpt
          go_wp2_with (first
            | (go_at_call 54; refine (sizeI_any _ _ _ _ (by omega)).mono ?_; rintro e w' ⟨rfl, rfl⟩)
            | (go_at_call 60; refine (containsFuncI _ _ eg oddB A1 n1 c1 (row h j) _ (ha1.keep hb) (by omega) (hask _)).mono ?_; rintro e w1 ⟨rfl, hb1⟩; rw [hodd]))
          go_ret
          exact ⟨by rw [H.out]; rfl, hb.trans (hb1.mono hb.size)⟩
        | false =>
          have hr := Lib.hid (show HadRow h j from ⟨hl1.out.trans hla.out.symm, by rw [hla.out, ← hl1.out]; exact pm_of hodd⟩)
          have hto2 := Lib.hid (hadTo_step hto hr.out)
          clear hto
          go_wp2_with (first
            | (go_at_call 54; refine (sizeI_any _ _ _ _ (by omega)).mono ?_; rintro e w' ⟨rfl, rfl⟩)
            | (go_at_call 60; refine (containsFuncI _ _ eg oddB A1 n1 c1 (row h j) _ (ha1.keep hb) (by omega) (hask _)).mono ?_; rintro e w1 ⟨rfl, hb1⟩; rw [hodd]))
          have hb2 := hb.trans (hb1.mono hb.size)
          clear hodd hca hb hb1
          go_loopw [31] (fun i wr => ∃ k : Nat, i = .int .i64 k ∧ k ≤ j ∧ pairRow h j k ∧ Below w.heap.size w wr) (fun i _ => j - (intOf i).toNat)
          case atStart => exact ⟨0, rfl, Nat.zero_le _, fun _ h => absurd h (by omega), hb2⟩
          case round =>
            obtain ⟨k, rfl, hk, hpr, hb⟩ := hrel
            clear hb2
            by_cases hk' : k < j
            · obtain ⟨b, B1, m1, d1, hb', hcb0, hm1, hd1, hb0⟩ := ha.get (show k < n1 by omega)
              have hcb := below_cell hb hcb0
              clear hcb0
              obtain rfl : a = b := by injection hb'
              clear hb'
              have r2 := hto2.out k (by omega)
              obtain rfl : m1 = n1 := by rw [← hb0.len, r2.1, hla.out]
              have p1 := Lib.hid (show PM (row h j) m1 by rw [← hla.out]; exact hr.out.2)
              have p2 := Lib.hid (show PM (row h k) m1 by rw [← hla.out]; exact r2.2)
              clear r2
              go_wp2
              go_loopw [8, 37] (fun s i wr => ∃ l : Nat, i = .int .i64 l ∧ l ≤ m1 ∧ s = .int .i64 (dotTo (row h j) (row h k) l) ∧ Below w.heap.size w wr) (fun _ i _ => m1 - (intOf i).toNat)
              case atStart => exact ⟨0, rfl, Nat.zero_le _, rfl, hb⟩
              case round =>
                clear hb hcb
                obtain ⟨l, rfl, hl, rfl, hb⟩ := hrel
                by_cases hl' : l < m1
                · obtain ⟨x, rfl, hcx, hix⟩ := (ha1.keep hb).get hl'
                  obtain ⟨y, rfl, hcy, hiy⟩ := (hb0.keep hb).get hl'
                  have hm := pm_mul p1.out p2.out hl'
                  have hs := dotTo_bd p1.out p2.out hl
                  have m1 := hm.1
                  have m2 := hm.2
                  have s1 := hs.1
                  have s2 := hs.2
                  have e1 : IntKind.i64.wrap (nth (row h j) l * nth (row h k) l) = nth (row h j) l * nth (row h k) l := IntWalk.i64_in _ (by omega)
                  have e2 : IntKind.i64.wrap (dotTo (row h j) (row h k) l + nth (row h j) l * nth (row h k) l) = dotTo (row h j) (row h k) l + nth (row h j) l * nth (row h k) l := IntWalk.i64_in _ (by omega)
                  clear hm hs
                  go_wp2
                  go_quiet (fail)
                  clear e1 e2
                  go_wp2
                  go_roundw
                  case rel => exact ⟨l + 1, by go_num, by omega, rfl, hb.trans ((below_drewn _ _).mono hb.size)⟩
                  case measure => simp [intOf]; omega
                · by_cases e : dotTo (row h j) (row h k) m1 = 0
                  · have e' : (dotTo (row h j) (row h k) m1 != 0) = false := by simp [e]
                    have H := Lib.hid (pairRow_step hpr (show HadPair h j k by unfold HadPair; rw [hla.out]; exact e))
                    obtain rfl : l = m1 := by omega
                    clear hpr hpt e
                    go_wp2
                    go_roundw
                    case rel => exact ⟨k + 1, by go_num, by omega, H.out, hb⟩
                    case measure => simp [intOf]; omega
                  · have e' : (dotTo (row h j) (row h k) m1 != 0) = true := by simp [e]
                    have H := Lib.hid (show tB (Had h) = false from tB_no fun hh => by
                      have := hh.2.2.2 j (by rw [hla.out]; exact hlt) k hk'
                      unfold HadPair at this
                      rw [hla.out] at this
                      exact e this)
                    obtain rfl : l = m1 := by omega
                    clear hpr hpt e
                    go_wp2
                    go_ret
                    exact ⟨by rw [H.out]; rfl, hb⟩
            · have H := Lib.hid (pairTo_step hpt (show pairRow h j j by rwa [show k = j by omega] at hpr))
              clear hpr hpt
              go_wp2
              go_roundw
              case rel => exact ⟨j + 1, by go_num, by omega, hto2.out, H.out, hb⟩
              case measure => simp [intOf]; omega
      · have hne : ((n1 : Int) != (n : Int)) = true := by simp; omega
        have H := Lib.hid (show tB (Had h) = false from tB_no fun hh => by
          have := (hh.2.2.1 j (by rw [hla.out]; exact hlt)).1
          rw [hl1.out, hla.out] at this
          exact hn' this)
        clear hto hpt hn'
        go_wp2_with (go_at_call 54; refine (sizeI_any _ _ _ _ (by omega)).mono ?_; rintro e w' ⟨rfl, rfl⟩)
        go_ret
        exact ⟨by rw [H.out]; rfl, hb⟩
    · have H := Lib.hid (show inB n 1 32 = tB (Had h) by
        obtain rfl : j = n := by omega
        by_cases h1 : 1 ≤ j ∧ j ≤ 32
        · rw [inB_mk (by omega), tB_yes ⟨by rw [hla.out]; exact h1.1, by rw [hla.out]; exact h1.2, by rw [hla.out]; exact hto, by rw [hla.out]; exact hpt⟩]
        · rw [inB_not (by omega), tB_no fun hh => h1 (by have := hh.1; have := hh.2.1; rw [hla.out] at *; omega)])
      clear hto hpt
      go_wp2_with (go_at_call 62; refine (within_any _ _ _ _).mono ?_; rintro e w' ⟨rfl, rfl⟩)
      go_ret
      exact ⟨by rw [← H.out]; rfl, hb⟩
end Go.Proofs.Ytainkgckahcdnaa
