/- Hadamard matrices: whether rows are one, on both sides. No condition beyond those stated. -/
import Derived.Test.YtainkgckahcdnaaFunc
import Derived.Test.YtainkgckahcdnaaBase
namespace Go.Proofs.Ytainkgckahcdnaa
open Go.RowKit

def hadTo (h : List (List Int)) (i : Nat) : Prop := ∀ j, j < i → HadRow h j
theorem hadTo_step {h : List (List Int)} {i : Nat} (k : hadTo h i) (r : HadRow h i) : hadTo h (i + 1) := fun j hj => by
  rcases Nat.lt_succ_iff_lt_or_eq.1 hj with h' | h'
  · exact k j h'
  · rw [h']; exact r
def pairTo (h : List (List Int)) (i : Nat) : Prop := ∀ j, j < i → ∀ k, k < j → HadPair h j k
def pairRow (h : List (List Int)) (i k : Nat) : Prop := ∀ j, j < k → HadPair h i j
theorem pairTo_step {h : List (List Int)} {i : Nat} (k : pairTo h i) (r : pairRow h i i) : pairTo h (i + 1) := fun j hj => by
  rcases Nat.lt_succ_iff_lt_or_eq.1 hj with h' | h'
  · exact k j h'
  · rw [h']; exact r
theorem pairRow_step {h : List (List Int)} {i k : Nat} (r : pairRow h i k) (p : HadPair h i k) : pairRow h i (k + 1) := fun j hj => by
  rcases Nat.lt_succ_iff_lt_or_eq.1 hj with h' | h'
  · exact r j h'
  · rw [h']; exact p
def pmTo (a : List Int) (k : Nat) : Prop := PM a k
theorem pmTo_step {a : List Int} {k : Nat} (h : pmTo a k) (p : nth a k = 1 ∨ nth a k = -1) : pmTo a (k + 1) := fun j hj => by
  rcases Nat.lt_succ_iff_lt_or_eq.1 hj with h' | h'
  · exact h j h'
  · rw [h']; exact p

set_option maxHeartbeats 1000000 in
theorem l15Dot_any (A B : Option Addr) (n c d : Nat) (a b : List Int) (w : World) (ha : RI w A n a) (hb : RI w B n b) (pa : PM a n) (pb : PM b n) (hn : n ≤ 1000) :
    Calls Try.prog 104 #[.slice A n c, .slice B n d] w (Quiet w (.int .i64 (dotTo a b n))) := by
  go_enter Try.func104, Try.ntmps104
  go_wp2
  go_loopw [5, 6] (fun s i wr => ∃ k : Nat, k ≤ n ∧ i = .int .i64 k ∧ s = .int .i64 (dotTo a b k) ∧ Drawn w wr) (fun _ i _ => n - (intOf i).toNat)
  case atStart => exact ⟨0, Nat.zero_le _, rfl, rfl, Drawn.refl _⟩
  case round =>
    obtain ⟨k, hk, rfl, rfl, hd⟩ := hrel
    by_cases hlt : k < n
    · obtain ⟨x, rfl, hcx, hix⟩ := (ha.drawn hd).get hlt
      obtain ⟨y, rfl, hcy, hiy⟩ := (hb.drawn hd).get hlt
      have hm := pm_mul pa pb hlt
      have hs := dotTo_bd pa pb hk
      have m1 := hm.1
      have m2 := hm.2
      have s1 := hs.1
      have s2 := hs.2
      have e1 : IntKind.i64.wrap (nth a k * nth b k) = nth a k * nth b k := IntWalk.i64_in _ (by omega)
      have e2 : IntKind.i64.wrap (dotTo a b k + nth a k * nth b k) = dotTo a b k + nth a k * nth b k := IntWalk.i64_in _ (by omega)
      clear hm hs
      go_wp2
      go_quiet (fail)
      clear e1 e2
      go_wp2
      go_roundw
      case rel => exact ⟨k + 1, by omega, by go_num, rfl, hd.more _⟩
      case measure => simp [intOf]; omega
    · obtain rfl : k = n := by omega
      go_wp2
      go_ret
      exact ⟨rfl, hd⟩

set_option maxRecDepth 100000 in
set_option maxHeartbeats 2000000 in
theorem l15Ok_any (A : Option Addr) (n c : Nat) (h : List (List Int)) (w : World) (ha : RR w A n h) (hn : n ≤ 9223372036854775807) :
    Calls Try.prog 84 #[.slice A n c] w (Quiet w (.bool (tB (Had h)))) := by
  have hla := Lib.hid ha.len
  by_cases h0 : 1 ≤ n
  · by_cases h1 : n ≤ 32
    · go_enter Try.func84, Try.ntmps84
      go_wp2
      go_loop [4] (fun i => ∃ j : Nat, i = .int .i64 j ∧ j ≤ n ∧ hadTo h j) (fun i => n - (intOf i).toNat)
      case atStart => exact ⟨0, rfl, Nat.zero_le _, fun _ h => absurd h (by omega)⟩
      case round =>
        obtain ⟨j, rfl, hj, hto⟩ := hrel
        by_cases hlt : j < n
        · obtain ⟨a, A1, n1, c1, rfl, hca, hn1, hc1, ha1⟩ := ha.get hlt
          have hl1 := Lib.hid ha1.len
          by_cases hn' : n1 = n
          · subst hn'
            go_wp2
            go_loop [5] (fun i => ∃ k : Nat, i = .int .i64 k ∧ k ≤ n1 ∧ pmTo (row h j) k) (fun i => n1 - (intOf i).toNat)
            case atStart => exact ⟨0, rfl, Nat.zero_le _, fun _ h => absurd h (by omega)⟩
            case round =>
              obtain ⟨k, rfl, hk, hpm⟩ := hrel
              by_cases hk' : k < n1
              · obtain ⟨b, rfl, hcb, hib⟩ := ha1.get hk'
                by_cases e1 : nth (row h j) k = 1
                · have e1' : (nth (row h j) k != 1) = false := by simp [e1]
                  have H := Lib.hid (pmTo_step hpm (.inl e1))
                  clear hpm hto e1
                  go_wp2
                  go_round
                  case rel => exact ⟨k + 1, by go_num, by omega, H.out⟩
                  case measure => simp [intOf]; omega
                · have e1' : (nth (row h j) k != 1) = true := by simp [e1]
                  by_cases e2 : nth (row h j) k = -1
                  · have e2' : (nth (row h j) k != -1) = false := by simp [e2]
                    have H := Lib.hid (pmTo_step hpm (.inr e2))
                    clear hpm hto e1 e2
                    go_wp2
                    go_round
                    case rel => exact ⟨k + 1, by go_num, by omega, H.out⟩
                    case measure => simp [intOf]; omega
                  · have e2' : (nth (row h j) k != -1) = true := by simp [e2]
                    have H := Lib.hid (show tB (Had h) = false from tB_no fun hh => by
                      have := (hh.2.2.1 j (by rw [hla.out]; exact hlt)).2 k (by rw [hla.out]; exact hk')
                      omega)
                    clear hpm hto e1 e2
                    go_wp2
                    go_ret
                    exact ⟨by rw [H.out]; rfl, Drawn.refl _⟩
              · have H := Lib.hid (hadTo_step hto ⟨hl1.out.trans hla.out.symm, by rw [hla.out]; rwa [show k = n1 by omega] at hpm⟩)
                clear hpm hto
                go_wp2
                go_round
                case rel => exact ⟨j + 1, by go_num, by omega, H.out⟩
                case measure => simp [intOf]; omega
          · have hne : ((n1 : Int) != (n : Int)) = true := by simp; omega
            have H := Lib.hid (show tB (Had h) = false from tB_no fun hh => by
              have := (hh.2.2.1 j (by rw [hla.out]; exact hlt)).1
              rw [hl1.out, hla.out] at this
              exact hn' this)
            clear hto hn'
            go_wp2
            go_ret
            exact ⟨by rw [H.out]; rfl, Drawn.refl _⟩
        · have HT := Lib.hid (show hadTo h n by rwa [show j = n by omega] at hto)
          clear hto
          go_wp2
          go_loopw [6] (fun i wr => ∃ j : Nat, i = .int .i64 j ∧ j ≤ n ∧ pairTo h j ∧ Drawn w wr) (fun i _ => n - (intOf i).toNat)
          case atStart => exact ⟨0, rfl, Nat.zero_le _, fun _ h => absurd h (by omega), Drawn.refl _⟩
          case round =>
            obtain ⟨j, rfl, hj, hto, hd⟩ := hrel
            by_cases hlt : j < n
            · obtain ⟨w1, rfl⟩ : ∃ w1 : World, w1 = wr := ⟨_, rfl⟩
              go_wp2
              go_loopw [7] (fun i wr => ∃ k : Nat, i = .int .i64 k ∧ k ≤ j ∧ pairRow h j k ∧ Drawn w wr) (fun i _ => j - (intOf i).toNat)
              case atStart => exact ⟨0, rfl, Nat.zero_le _, fun _ h => absurd h (by omega), hd⟩
              case round =>
                obtain ⟨k, rfl, hk, hpr, hd⟩ := hrel
                by_cases hk' : k < j
                · obtain ⟨a, A1, n1, c1, rfl, hca, hn1, hc1, ha1⟩ := (ha.drawn hd).get hlt
                  obtain ⟨b, A2, n2, c2, hb', hcb, hn2, hc2, ha2⟩ := (ha.drawn hd).get (show k < n by omega)
                  obtain rfl : a = b := by injection hb'
                  clear hb'
                  have r1 := HT.out j hlt
                  have r2 := HT.out k (by omega)
                  obtain rfl : n1 = n := by rw [← ha1.len, r1.1, hla.out]
                  obtain rfl : n2 = n1 := by rw [← ha2.len, r2.1, hla.out]
                  have p1 := Lib.hid (show PM (row h j) n2 by rw [← hla.out]; exact r1.2)
                  have p2 := Lib.hid (show PM (row h k) n2 by rw [← hla.out]; exact r2.2)
                  clear r1 r2
                  by_cases e : dotTo (row h j) (row h k) n2 = 0
                  · have e' : (dotTo (row h j) (row h k) n2 != 0) = false := by simp [e]
                    have H := Lib.hid (pairRow_step hpr (show HadPair h j k by unfold HadPair; rw [hla.out]; exact e))
                    clear hpr hto e
                    go_wp2
                    go_quiet ((go_at_call 104; exact Quiet.call (l15Dot_any A1 A2 n2 c1 c2 (row h j) (row h k) _ (ha1.drewN _) (ha2.drewN _) p1.out p2.out (by omega))))
                    go_wp2
                    go_roundw
                    case rel => exact ⟨k + 1, by go_num, by omega, H.out, hd.more _⟩
                    case measure => simp [intOf]; omega
                  · have e' : (dotTo (row h j) (row h k) n2 != 0) = true := by simp [e]
                    have H := Lib.hid (show tB (Had h) = false from tB_no fun hh => by
                      have := hh.2.2.2 j (by rw [hla.out]; exact hlt) k hk'
                      unfold HadPair at this
                      rw [hla.out] at this
                      exact e this)
                    clear hpr hto e
                    go_wp2
                    go_quiet ((go_at_call 104; exact Quiet.call (l15Dot_any A1 A2 n2 c1 c2 (row h j) (row h k) _ (ha1.drewN _) (ha2.drewN _) p1.out p2.out (by omega))))
                    go_wp2
                    go_ret
                    exact ⟨by rw [H.out]; rfl, hd.more _⟩
                · have H := Lib.hid (pairTo_step hto (show pairRow h j j by rwa [show k = j by omega] at hpr))
                  clear hpr hto
                  go_wp2
                  go_roundw
                  case rel => exact ⟨j + 1, by go_num, by omega, H.out, hd⟩
                  case measure => simp [intOf]; omega
            · have H := Lib.hid (show tB (Had h) = true from tB_yes ⟨by rw [hla.out]; exact h0, by rw [hla.out]; exact h1, by rw [hla.out]; exact HT.out, by rw [hla.out]; rwa [show j = n by omega] at hto⟩)
              clear hto
              go_wp2
              go_ret
              exact ⟨by rw [H.out]; rfl, hd⟩
    · have H := Lib.hid (show tB (Had h) = false from tB_no fun hh => by have := hh.2.1; rw [hla.out] at this; exact h1 this)
      go_enter Try.func84, Try.ntmps84
      go_wp2
      go_ret
      exact ⟨by rw [H.out]; rfl, Drawn.refl _⟩
  · have H := Lib.hid (show tB (Had h) = false from tB_no fun hh => by have := hh.1; rw [hla.out] at this; exact h0 this)
    go_enter Try.func84, Try.ntmps84
    go_wp2
    go_ret
    exact ⟨by rw [H.out]; rfl, Drawn.refl _⟩
end Go.Proofs.Ytainkgckahcdnaa
