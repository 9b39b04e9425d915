/- Hadamard matrices: whether rows are one, on both sides. No condition beyond those stated. -/
import Derived.Test.YtemdjochphehjaaGreatQGC
import Derived.Test.YtemdjochphehjaaGreatQGB
set_option linter.unusedVariables false
set_option linter.unusedSimpArgs false
namespace Go.Proofs.YtemdjochphehjaaGreat
open Go.RowKit

def hadTo (h : List (List Int)) (i : Nat) : Prop := ∀ j, j < i → HadRow h j
theorem hadTo_step {h : List (List Int)} {i : Nat} (k : hadTo h i) (r : HadRow h i) : hadTo h (i + 1) := fun j hj => by
  rcases Nat.lt_succ_iff_lt_or_eq.1 hj with h' | h'
  · exact k j h'
  · rw [h']; exact r
def pairTo (h : List (List Int)) (i : Nat) : Prop := ∀ j, j < i → ∀ k, k < j → HadPair h j k
def pairRow (h : List (List Int)) (i k : Nat) : Prop := ∀ j, j < k → HadPair h i j
theorem pairTo_step {h : List (List Int)} {i : Nat} (k : pairTo h i) (r : pairRow h i i) : pairTo h (i + 1) := fun j hj => by
  rcases Nat.lt_succ_iff_lt_or_eq.1 hj with h' | h'
  · exact k j h'
  · rw [h']; exact r
theorem pairRow_step {h : List (List Int)} {i k : Nat} (r : pairRow h i k) (p : HadPair h i k) : pairRow h i (k + 1) := fun j hj => by
  rcases Nat.lt_succ_iff_lt_or_eq.1 hj with h' | h'
  · exact r j h'
  · rw [h']; exact p
def pmTo (a : List Int) (k : Nat) : Prop := PM a k
theorem pmTo_step {a : List Int} {k : Nat} (h : pmTo a k) (p : nth a k = 1 ∨ nth a k = -1) : pmTo a (k + 1) := fun j hj => by
  rcases Nat.lt_succ_iff_lt_or_eq.1 hj with h' | h'
  · exact h j h'
  · rw [h']; exact p

set_option maxHeartbeats 1000000 in
theorem l15Dot_any (A B : Option Addr) (n c d : Nat) (a b : List Int) (w : World) (ha : RI w A n a) (hb : RI w B n b) (pa : PM a n) (pb : PM b n) (hn : n ≤ 1000) :
    Calls Tryz.prog 160 #[.slice A n c, .slice B n d] w (Quiet w (.int .i64 (dotTo a b n))) := by
  go_enter Tryz.func160, Tryz.ntmps160
  go_wp2
  go_loopw [5, 6] (fun s i wr => ∃ k : Nat, k ≤ n ∧ i = .int .i64 k ∧ s = .int .i64 (dotTo a b k) ∧ Drawn w wr) (fun _ i _ => n - (intOf i).toNat)
  case atStart => exact ⟨0, Nat.zero_le _, rfl, rfl, Drawn.refl _⟩
  case round =>
    obtain ⟨k, hk, rfl, rfl, hd⟩ := hrel
    by_cases hlt : k < n
    · obtain ⟨x, rfl, hcx, hix⟩ := (ha.drawn hd).get hlt
      obtain ⟨y, rfl, hcy, hiy⟩ := (hb.drawn hd).get hlt
      have hm := pm_mul pa pb hlt
      have hs := dotTo_bd pa pb hk
      have m1 := hm.1
      have m2 := hm.2
      have s1 := hs.1
      have s2 := hs.2
      have e1 : IntKind.i64.wrap (nth a k * nth b k) = nth a k * nth b k := IntWalk.i64_in _ (by omega)
      have e2 : IntKind.i64.wrap (dotTo a b k + nth a k * nth b k) = dotTo a b k + nth a k * nth b k := IntWalk.i64_in _ (by omega)
      clear hm hs
      go_wp2
      go_quiet (fail)
      clear e1 e2
      go_wp2
      go_roundw
      case rel => exact ⟨k + 1, by omega, by go_num, rfl, hd.more _⟩
      case measure => simp [intOf]; omega
    · obtain rfl : k = n := by omega
      go_wp2
      go_ret
      exact ⟨rfl, hd⟩

set_option maxRecDepth 100000 in
set_option maxHeartbeats 2000000 in
theorem l15Ok_any (A : Option Addr) (n c : Nat) (h : List (List Int)) (w : World) (ha : RR w A n h) (hn : n ≤ 9223372036854775807) :
    Calls Tryz.prog 111 #[.slice A n c] w (Quiet w (.bool (tB (Had h)))) := by
  have hla := Lib.hid ha.len
  by_cases h0 : 1 ≤ n
  · by_cases h1 : n ≤ 32
    · go_enter Tryz.func111, Tryz.ntmps111
      go_wp2
      go_loop [4] (fun i => ∃ j : Nat, i = .int .i64 j ∧ j ≤ n ∧ hadTo h j) (fun i => n - (intOf i).toNat)
      case atStart => exact ⟨0, rfl, Nat.zero_le _, fun _ h => absurd h (by omega)⟩
      case round =>
        obtain ⟨j, rfl, hj, hto⟩ := hrel
        by_cases hlt : j < n
        · obtain ⟨a, A1, n1, c1, rfl, hca, hn1, hc1, ha1⟩ := ha.get hlt
          have hl1 := Lib.hid ha1.len
          by_cases hn' : n1 = n
          · subst hn'
            go_wp2
            go_loop [5] (fun i => ∃ k : Nat, i = .int .i64 k ∧ k ≤ n1 ∧ pmTo (row h j) k) (fun i => n1 - (intOf i).toNat)
            case atStart => exact ⟨0, rfl, Nat.zero_le _, fun _ h => absurd h (by omega)⟩
            case round =>
              obtain ⟨k, rfl, hk, hpm⟩ := hrel
              by_cases hk' : k < n1
              · obtain ⟨b, rfl, hcb, hib⟩ := ha1.get hk'
                by_cases e1 : nth (row h j) k = 1
                · have e1' : (nth (row h j) k != 1) = false := by simp [e1]
                  have H := Lib.hid (pmTo_step hpm (.inl e1))
                  clear hpm hto e1
                  go_wp2
                  go_round
                  case rel => exact ⟨k + 1, by go_num, by omega, H.out⟩
                  case measure => simp [intOf]; omega
                · have e1' : (nth (row h j) k != 1) = true := by simp [e1]
                  by_cases e2 : nth (row h j) k = -1
                  · have e2' : (nth (row h j) k != -1) = false := by simp [e2]
                    have H := Lib.hid (pmTo_step hpm (.inr e2))
                    clear hpm hto e1 e2
                    go_wp2
                    go_round
                    case rel => exact ⟨k + 1, by go_num, by omega, H.out⟩
                    case measure => simp [intOf]; omega
                  · have e2' : (nth (row h j) k != -1) = true := by simp [e2]
                    have H := Lib.hid (show tB (Had h) = false from tB_no fun hh => by
                      have := (hh.2.2.1 j (by rw [hla.out]; exact hlt)).2 k (by rw [hla.out]; exact hk')
                      omega)
                    clear hpm hto e1 e2
                    go_wp2
                    go_ret
                    exact ⟨by rw [H.out]; rfl, Drawn.refl _⟩
              · have H := Lib.hid (hadTo_step hto ⟨hl1.out.trans hla.out.symm, by rw [hla.out]; rwa [show k = n1 by omega] at hpm⟩)
                clear hpm hto
                go_wp2
                go_round
                case rel => exact ⟨j + 1, by go_num, by omega, H.out⟩
                case measure => simp [intOf]; omega
          · have hne : ((n1 : Int) != (n : Int)) = true := by simp; omega
            have H := Lib.hid (show tB (Had h) = false from tB_no fun hh => by
              have := (hh.2.2.1 j (by rw [hla.out]; exact hlt)).1
              rw [hl1.out, hla.out] at this
              exact hn' this)
            clear hto hn'
            go_wp2
            go_ret
            exact ⟨by rw [H.out]; rfl, Drawn.refl _⟩
        · have HT := Lib.hid (show hadTo h n by rwa [show j = n by omega] at hto)
          clear hto
          go_wp2
          go_loopw [6] (fun i wr => ∃ j : Nat, i = .int .i64 j ∧ j ≤ n ∧ pairTo h j ∧ Drawn w wr) (fun i _ => n - (intOf i).toNat)
          case atStart => exact ⟨0, rfl, Nat.zero_le _, fun _ h => absurd h (by omega), Drawn.refl _⟩
          case round =>
            obtain ⟨j, rfl, hj, hto, hd⟩ := hrel
            by_cases hlt : j < n
            · obtain ⟨w1, rfl⟩ : ∃ w1 : World, w1 = wr := ⟨_, rfl⟩
              go_wp2
              go_loopw [7] (fun i wr => ∃ k : Nat, i = .int .i64 k ∧ k ≤ j ∧ pairRow h j k ∧ Drawn w wr) (fun i _ => j - (intOf i).toNat)
              case atStart => exact ⟨0, rfl, Nat.zero_le _, fun _ h => absurd h (by omega), hd⟩
              case round =>
                obtain ⟨k, rfl, hk, hpr, hd⟩ := hrel
                by_cases hk' : k < j
                · obtain ⟨a, A1, n1, c1, rfl, hca, hn1, hc1, ha1⟩ := (ha.drawn hd).get hlt
                  obtain ⟨b, A2, n2, c2, hb', hcb, hn2, hc2, ha2⟩ := (ha.drawn hd).get (show k < n by omega)
                  obtain rfl : a = b := by injection hb'
                  clear hb'
                  have r1 := HT.out j hlt
                  have r2 := HT.out k (by omega)
                  obtain rfl : n1 = n := by rw [← ha1.len, r1.1, hla.out]
                  obtain rfl : n2 = n1 := by rw [← ha2.len, r2.1, hla.out]
                  have p1 := Lib.hid (show PM (row h j) n2 by rw [← hla.out]; exact r1.2)
                  have p2 := Lib.hid (show PM (row h k) n2 by rw [← hla.out]; exact r2.2)
                  clear r1 r2
                  by_cases e : dotTo (row h j) (row h k) n2 = 0
                  · have e' : (dotTo (row h j) (row h k) n2 != 0) = false := by simp [e]
                    have H := Lib.hid (pairRow_step hpr (show HadPair h j k by unfold HadPair; rw [hla.out]; exact e))
                    clear hpr hto e
                    go_wp2
                    go_quiet ((go_at_call 160; exact Quiet.call (l15Dot_any A1 A2 n2 c1 c2 (row h j) (row h k) _ (ha1.drewN _) (ha2.drewN _) p1.out p2.out (by omega))))
                    go_wp2
                    go_roundw
                    case rel => exact ⟨k + 1, by go_num, by omega, H.out, hd.more _⟩
                    case measure => simp [intOf]; omega
                  · have e' : (dotTo (row h j) (row h k) n2 != 0) = true := by simp [e]
                    have H := Lib.hid (show tB (Had h) = false from tB_no fun hh => by
                      have := hh.2.2.2 j (by rw [hla.out]; exact hlt) k hk'
                      unfold HadPair at this
                      rw [hla.out] at this
                      exact e this)
                    clear hpr hto e
                    go_wp2
                    go_quiet ((go_at_call 160; exact Quiet.call (l15Dot_any A1 A2 n2 c1 c2 (row h j) (row h k) _ (ha1.drewN _) (ha2.drewN _) p1.out p2.out (by omega))))
                    go_wp2
                    go_ret
                    exact ⟨by rw [H.out]; rfl, hd.more _⟩
                · have H := Lib.hid (pairTo_step hto (show pairRow h j j by rwa [show k = j by omega] at hpr))
                  clear hpr hto
                  go_wp2
                  go_roundw
                  case rel => exact ⟨j + 1, by go_num, by omega, H.out, hd⟩
                  case measure => simp [intOf]; omega
            · have H := Lib.hid (show tB (Had h) = true from tB_yes ⟨by rw [hla.out]; exact h0, by rw [hla.out]; exact h1, by rw [hla.out]; exact HT.out, by rw [hla.out]; rwa [show j = n by omega] at hto⟩)
              clear hto
              go_wp2
              go_ret
              exact ⟨by rw [H.out]; rfl, hd⟩
    · have H := Lib.hid (show tB (Had h) = false from tB_no fun hh => by have := hh.2.1; rw [hla.out] at this; exact h1 this)
      go_enter Tryz.func111, Tryz.ntmps111
      go_wp2
      go_ret
      exact ⟨by rw [H.out]; rfl, Drawn.refl _⟩
  · have H := Lib.hid (show tB (Had h) = false from tB_no fun hh => by have := hh.1; rw [hla.out] at this; exact h0 this)
    go_enter Tryz.func111, Tryz.ntmps111
    go_wp2
    go_ret
    exact ⟨by rw [H.out]; rfl, Drawn.refl _⟩
end Go.Proofs.YtemdjochphehjaaGreat
/- Hadamard matrices: whether rows are one, the program's side. No condition beyond those stated. -/
namespace Go.Proofs.YtemdjochphehjaaGreat
open Go.RowKit

def oddB (x : Int) : Bool := x != 1 && x != -1
set_option maxHeartbeats 400000 in
theorem validHadamard1_any (x : Int) (w : World) : Calls Tryz.prog 123 #[.int .i64 x] w fun e w' => e = .returned (.bool (oddB x)) ∧ w = w' := by
  by_cases e1 : x = 1
  · have h1 : (x != 1) = false := by simp [e1]
    have H := Lib.hid (show oddB x = false by simp [oddB, h1])
    clear e1
    go_enter Tryz.func123, Tryz.ntmps123
    go_wp2
    go_ret
    exact ⟨by rw [H.out]; rfl, rfl⟩
  · have h1 : (x != 1) = true := by simp [e1]
    by_cases e2 : x = -1
    · have h2 : (x != -1) = false := by simp [e2]
      have H := Lib.hid (show oddB x = false by simp [oddB, h2])
      clear e1 e2
      go_enter Tryz.func123, Tryz.ntmps123
      go_wp2
      go_ret
      exact ⟨by rw [H.out]; rfl, rfl⟩
    · have h2 : (x != -1) = true := by simp [e2]
      have H := Lib.hid (show oddB x = true by simp [oddB, h1, h2])
      clear e1 e2
      go_enter Tryz.func123, Tryz.ntmps123
      go_wp2
      go_ret
      exact ⟨by rw [H.out]; rfl, rfl⟩
theorem oddB_no {x : Int} (h : oddB x = false) : x = 1 ∨ x = -1 := by
  simp [oddB] at h
  omega
theorem pm_of {z : List Int} (h : z.any oddB = false) : PM z z.length := fun k hk => by
  rw [List.any_eq_false] at h
  rw [nth_get hk]
  exact oddB_no (by simpa using h _ (List.getElem_mem hk))
theorem not_pm {z : List Int} (h : z.any oddB = true) : ¬ PM z z.length := fun hp => by
  obtain ⟨x, hx, hb⟩ := List.any_eq_true.1 h
  obtain ⟨k, hk, rfl⟩ := List.mem_iff_getElem.1 hx
  have := hp k hk
  rw [nth_get hk] at this
  rcases this with e | e <;> rw [e] at hb <;> simp [oddB] at hb
theorem askOdd (w : World) : AskI 123 #[] oddB w := fun x W _ _ => (validHadamard1_any x W).mono fun _ _ h => RetB.of_same h

set_option maxRecDepth 100000 in
set_option maxHeartbeats 2000000 in
theorem validHadamard_any (A : Option Addr) (n c : Nat) (h : List (List Int)) (w : World) (ha : RR w A n h) (hn : n ≤ c) (hc : c ≤ 9223372036854775807) :
    Calls Tryz.prog 67 #[.slice A n c] w (RetB w (tB (Had h))) := by
  have hla := Lib.hid ha.len
  have eg : ∀ (args : Array Value) (w : World), (callFunc 123 args).run Tryz.prog w = .ok (.enter 123 args) w := fun _ _ => by kernel_rfl
  have hask := askOdd
  go_enter Tryz.func67, Tryz.ntmps67
  go_wp2_with (go_at_call 63; refine (sizeR_any _ _ _ _ (by omega)).mono ?_; rintro e w' ⟨rfl, rfl⟩)
  go_loopw [14] (fun i wr => ∃ j : Nat, i = .int .i64 j ∧ j ≤ n ∧ hadTo h j ∧ pairTo h j ∧ Below w.heap.size w wr) (fun i _ => n - (intOf i).toNat)
  case atStart => exact ⟨0, rfl, Nat.zero_le _, fun _ h => absurd h (by omega), fun _ h => absurd h (by omega), Below.refl _ _⟩
  case round =>
    obtain ⟨j, rfl, hj, hto, hpt, hb⟩ := hrel
    by_cases hlt : j < n
    · obtain ⟨a, A1, n1, c1, rfl, hca0, hn1, hc1, ha1⟩ := ha.get hlt
      have hca := below_cell hb hca0
      clear hca0
      have hl1 := Lib.hid ha1.len
      by_cases hn' : n1 = n
      · subst hn'
        cases hodd : (row h j).any oddB with
        | true =>
          have H := Lib.hid (show tB (Had h) = false from tB_no fun hh => by
            have := (hh.2.2.1 j (by rw [hla.out]; exact hlt)).2
            rw [hla.out, ← hl1.out] at this
            exact not_pm hodd this)
          clear hto hpt
          go_wp2_with (first
            | (go_at_call 121; refine (sizeI_any _ _ _ _ (by omega)).mono ?_; rintro e w' ⟨rfl, rfl⟩)
            | (go_at_call 122; refine (containsFuncI _ _ eg oddB A1 n1 c1 (row h j) _ (ha1.keep hb) (by omega) (hask _)).mono ?_; rintro e w1 ⟨rfl, hb1⟩; rw [hodd]))
          go_ret
          exact ⟨by rw [H.out]; rfl, hb.trans (hb1.mono hb.size)⟩
        | false =>
          have hr := Lib.hid (show HadRow h j from ⟨hl1.out.trans hla.out.symm, by rw [hla.out, ← hl1.out]; exact pm_of hodd⟩)
          have hto2 := Lib.hid (hadTo_step hto hr.out)
          clear hto
          go_wp2_with (first
            | (go_at_call 121; refine (sizeI_any _ _ _ _ (by omega)).mono ?_; rintro e w' ⟨rfl, rfl⟩)
            | (go_at_call 122; refine (containsFuncI _ _ eg oddB A1 n1 c1 (row h j) _ (ha1.keep hb) (by omega) (hask _)).mono ?_; rintro e w1 ⟨rfl, hb1⟩; rw [hodd]))
          have hb2 := hb.trans (hb1.mono hb.size)
          clear hodd hca hb hb1
          go_loopw [31] (fun i wr => ∃ k : Nat, i = .int .i64 k ∧ k ≤ j ∧ pairRow h j k ∧ Below w.heap.size w wr) (fun i _ => j - (intOf i).toNat)
          case atStart => exact ⟨0, rfl, Nat.zero_le _, fun _ h => absurd h (by omega), hb2⟩
          case round =>
            obtain ⟨k, rfl, hk, hpr, hb⟩ := hrel
            clear hb2
            by_cases hk' : k < j
            · obtain ⟨b, B1, m1, d1, hb', hcb0, hm1, hd1, hb0⟩ := ha.get (show k < n1 by omega)
              have hcb := below_cell hb hcb0
              clear hcb0
              obtain rfl : a = b := by injection hb'
              clear hb'
              have r2 := hto2.out k (by omega)
              obtain rfl : m1 = n1 := by rw [← hb0.len, r2.1, hla.out]
              have p1 := Lib.hid (show PM (row h j) m1 by rw [← hla.out]; exact hr.out.2)
              have p2 := Lib.hid (show PM (row h k) m1 by rw [← hla.out]; exact r2.2)
              clear r2
              go_wp2
              go_loopw [8, 37] (fun s i wr => ∃ l : Nat, i = .int .i64 l ∧ l ≤ m1 ∧ s = .int .i64 (dotTo (row h j) (row h k) l) ∧ Below w.heap.size w wr) (fun _ i _ => m1 - (intOf i).toNat)
              case atStart => exact ⟨0, rfl, Nat.zero_le _, rfl, hb⟩
              case round =>
                clear hb hcb
                obtain ⟨l, rfl, hl, rfl, hb⟩ := hrel
                by_cases hl' : l < m1
                · obtain ⟨x, rfl, hcx, hix⟩ := (ha1.keep hb).get hl'
                  obtain ⟨y, rfl, hcy, hiy⟩ := (hb0.keep hb).get hl'
                  have hm := pm_mul p1.out p2.out hl'
                  have hs := dotTo_bd p1.out p2.out hl
                  have m1 := hm.1
                  have m2 := hm.2
                  have s1 := hs.1
                  have s2 := hs.2
                  have e1 : IntKind.i64.wrap (nth (row h j) l * nth (row h k) l) = nth (row h j) l * nth (row h k) l := IntWalk.i64_in _ (by omega)
                  have e2 : IntKind.i64.wrap (dotTo (row h j) (row h k) l + nth (row h j) l * nth (row h k) l) = dotTo (row h j) (row h k) l + nth (row h j) l * nth (row h k) l := IntWalk.i64_in _ (by omega)
                  clear hm hs
                  go_wp2
                  go_quiet (fail)
                  clear e1 e2
                  go_wp2
                  go_roundw
                  case rel => exact ⟨l + 1, by go_num, by omega, rfl, hb.trans ((below_drewn _ _).mono hb.size)⟩
                  case measure => simp [intOf]; omega
                · by_cases e : dotTo (row h j) (row h k) m1 = 0
                  · have e' : (dotTo (row h j) (row h k) m1 != 0) = false := by simp [e]
                    have H := Lib.hid (pairRow_step hpr (show HadPair h j k by unfold HadPair; rw [hla.out]; exact e))
                    obtain rfl : l = m1 := by omega
                    clear hpr hpt e
                    go_wp2
                    go_roundw
                    case rel => exact ⟨k + 1, by go_num, by omega, H.out, hb⟩
                    case measure => simp [intOf]; omega
                  · have e' : (dotTo (row h j) (row h k) m1 != 0) = true := by simp [e]
                    have H := Lib.hid (show tB (Had h) = false from tB_no fun hh => by
                      have := hh.2.2.2 j (by rw [hla.out]; exact hlt) k hk'
                      unfold HadPair at this
                      rw [hla.out] at this
                      exact e this)
                    obtain rfl : l = m1 := by omega
                    clear hpr hpt e
                    go_wp2
                    go_ret
                    exact ⟨by rw [H.out]; rfl, hb⟩
            · have H := Lib.hid (pairTo_step hpt (show pairRow h j j by rwa [show k = j by omega] at hpr))
              clear hpr hpt
              go_wp2
              go_roundw
              case rel => exact ⟨j + 1, by go_num, by omega, hto2.out, H.out, hb⟩
              case measure => simp [intOf]; omega
      · have hne : ((n1 : Int) != (n : Int)) = true := by simp; omega
        have H := Lib.hid (show tB (Had h) = false from tB_no fun hh => by
          have := (hh.2.2.1 j (by rw [hla.out]; exact hlt)).1
          rw [hl1.out, hla.out] at this
          exact hn' this)
        clear hto hpt hn'
        go_wp2_with (go_at_call 121; refine (sizeI_any _ _ _ _ (by omega)).mono ?_; rintro e w' ⟨rfl, rfl⟩)
        go_ret
        exact ⟨by rw [H.out]; rfl, hb⟩
    · have H := Lib.hid (show inB n 1 32 = tB (Had h) by
        obtain rfl : j = n := by omega
        by_cases h1 : 1 ≤ j ∧ j ≤ 32
        · rw [inB_mk (by omega), tB_yes ⟨by rw [hla.out]; exact h1.1, by rw [hla.out]; exact h1.2, by rw [hla.out]; exact hto, by rw [hla.out]; exact hpt⟩]
        · rw [inB_not (by omega), tB_no fun hh => h1 (by have := hh.1; have := hh.2.1; rw [hla.out] at *; omega)])
      clear hto hpt
      go_wp2_with (go_at_call 115; refine (within_any _ _ _ _).mono ?_; rintro e w' ⟨rfl, rfl⟩)
      go_ret
      exact ⟨by rw [← H.out]; rfl, hb⟩
end Go.Proofs.YtemdjochphehjaaGreat
/- Arrays: whether rows are one, on both sides. No condition beyond those stated. -/
namespace Go.Proofs.YtemdjochphehjaaGreat
open Go.RowKit

def rowOk (l c : Int) (z : List Int) : Prop := (z.length : Int) = c ∧ ∀ k, k < z.length → 0 ≤ nth z k ∧ nth z k ≤ l - 1
def rowsTo (l c : Int) (rs : List (List Int)) (k : Nat) : Prop := ∀ i, i < k → rowOk l c (row rs i)
theorem rowsTo_step {l c : Int} {rs : List (List Int)} {k : Nat} (h : rowsTo l c rs k) (h1 : rowOk l c (row rs k)) : rowsTo l c rs (k + 1) := fun j hj => by
  rcases Nat.lt_succ_iff_lt_or_eq.1 hj with h' | h'
  · exact h j h'
  · rw [h']; exact h1
def inTo (l : Int) (z : List Int) (k : Nat) : Prop := ∀ i, i < k → 0 ≤ nth z i ∧ nth z i ≤ l - 1
theorem inTo_step {l : Int} {z : List Int} {k : Nat} (h : inTo l z k) (h1 : 0 ≤ nth z k ∧ nth z k ≤ l - 1) : inTo l z (k + 1) := fun j hj => by
  rcases Nat.lt_succ_iff_lt_or_eq.1 hj with h' | h'
  · exact h j h'
  · rw [h']; exact h1
def shapeB (l c : Int) : Bool := inB l 2 16 && inB c 1 8
def outB (l x : Int) : Bool := !inB x 0 (l - 1)
theorem outB_any {l c : Int} {z : List Int} (hc : (z.length : Int) = c) : (!z.any (outB l)) = tB (rowOk l c z) := by
  cases h : z.any (outB l) with
  | true =>
    obtain ⟨x, hx, hb⟩ := List.any_eq_true.1 h
    obtain ⟨k, hk, rfl⟩ := List.mem_iff_getElem.1 hx
    rw [tB_no (p := rowOk l c z) fun hh => ?_]
    · rfl
    · have := hh.2 k hk
      rw [nth_get hk] at this
      rw [outB, inB_mk this] at hb
      cases hb
  | false =>
    rw [tB_yes (p := rowOk l c z) ⟨hc, fun i hi => ?_⟩]
    · rfl
    · rw [List.any_eq_false] at h
      have := h z[i] (List.getElem_mem hi)
      rw [nth_get hi]
      exact inB_true (by simpa [outB] using this)

set_option maxHeartbeats 400000 in
theorem isShape_any (l c : Int) (w : World) : Calls Tryz.prog 124 #[.int .i64 l, .int .i64 c] w fun e w' => e = .returned (.bool (shapeB l c)) ∧ w = w' := by
  cases h1 : inB l 2 16 with
  | true =>
    have H := Lib.hid (show shapeB l c = inB c 1 8 by simp [shapeB, h1])
    go_enter Tryz.func124, Tryz.ntmps124
    go_wp2_with (first | (go_at_call 115; (with_reducible refine (within_any l _ _ _).mono ?_); rintro e w' ⟨rfl, rfl⟩; rw [h1]) | (go_at_call 115; refine (within_any c _ _ _).mono ?_; rintro e w' ⟨rfl, rfl⟩))
    go_ret
    exact ⟨by rw [H.out]; rfl, rfl⟩
  | false =>
    have H := Lib.hid (show shapeB l c = false by simp [shapeB, h1])
    go_enter Tryz.func124, Tryz.ntmps124
    go_wp2_with (go_at_call 115; refine (within_any l _ _ _).mono ?_; rintro e w' ⟨rfl, rfl⟩; rw [h1])
    go_ret
    exact ⟨by rw [H.out]; rfl, rfl⟩
set_option maxHeartbeats 400000 in
theorem l16Shape_any (l c : Int) (w : World) : Calls Tryz.prog 161 #[.int .i64 l, .int .i64 c] w fun e w' => e = .returned (.bool (shapeB l c)) ∧ w = w' := by
  cases h1 : inB l 2 16 with
  | true =>
    have H := Lib.hid (show shapeB l c = inB c 1 8 by simp [shapeB, h1])
    go_enter Tryz.func161, Tryz.ntmps161
    go_wp2_with (first | (go_at_call 80; (with_reducible refine (l00In_any l _ _ _).mono ?_); rintro e w' ⟨rfl, rfl⟩; rw [h1]) | (go_at_call 80; refine (l00In_any c _ _ _).mono ?_; rintro e w' ⟨rfl, rfl⟩))
    go_ret
    exact ⟨by rw [H.out]; rfl, rfl⟩
  | false =>
    have H := Lib.hid (show shapeB l c = false by simp [shapeB, h1])
    go_enter Tryz.func161, Tryz.ntmps161
    go_wp2_with (go_at_call 80; refine (l00In_any l _ _ _).mono ?_; rintro e w' ⟨rfl, rfl⟩; rw [h1])
    go_ret
    exact ⟨by rw [H.out]; rfl, rfl⟩
theorem array_iff (l c : Int) (rs : List (List Int)) : Array' l c rs ↔ ((2 ≤ l ∧ l ≤ 16) ∧ 1 ≤ c ∧ c ≤ 8) ∧ rs.length ≤ 256 ∧ rowsTo l c rs rs.length :=
  ⟨fun h => ⟨⟨⟨h.l1, h.l2⟩, h.c1, h.c2⟩, h.len, h.row⟩, fun h => ⟨h.1.1.1, h.1.1.2, h.1.2.1, h.1.2.2, h.2.1, h.2.2⟩⟩
theorem shapeB_true {l c : Int} (h : shapeB l c = true) : (2 ≤ l ∧ l ≤ 16) ∧ 1 ≤ c ∧ c ≤ 8 := by
  rw [shapeB, Bool.and_eq_true] at h
  exact ⟨inB_true h.1, inB_true h.2⟩
theorem shapeB_mk {l c : Int} (h : (2 ≤ l ∧ l ≤ 16) ∧ 1 ≤ c ∧ c ≤ 8) : shapeB l c = true := by
  rw [shapeB, inB_mk h.1, inB_mk h.2]; rfl

set_option maxHeartbeats 400000 in
theorem validArray1_any (x l : Int) (g : Nat) (w : World) (hp : w.cell? ⟨g, 0, none⟩ = some (.int .i64 l)) (l1 : 2 ≤ l) (l2 : l ≤ 16) :
    Calls Tryz.prog 125 #[.int .i64 x, .pointer (some ⟨g, 0, none⟩)] w fun e w' => e = .returned (.bool (outB l x)) ∧ w = w' := by
  have H := Lib.hid (show (!inB x 0 (l - 1)) = outB l x from rfl)
  go_enter Tryz.func125, Tryz.ntmps125
  go_wp2_with (go_at_call 115; refine (within_any _ _ _ _).mono ?_; rintro e w' ⟨rfl, rfl⟩)
  go_ret
  exact ⟨by rw [← H.out]; rfl, rfl⟩
set_option maxRecDepth 100000 in
set_option maxHeartbeats 2000000 in
theorem validArray_any (l k : Int) (A : Option Addr) (n c : Nat) (rs : List (List Int)) (w : World) (ha : RR w A n rs) (hn : n ≤ 9223372036854775807) :
    Calls Tryz.prog 68 #[.agg #[.int .i64 l, .int .i64 k, .slice A n c]] w (RetB w (tB (Array' l k rs))) := by
  have hla := Lib.hid ha.len
  have eg : ∀ (args : Array Value) (w : World), (callFunc 125 args).run Tryz.prog w = .ok (.enter 125 args) w := fun _ _ => by kernel_rfl
  have hb1 := below_alloc w (.cells #[.int .i64 l, .int .i64 k, .slice A n c] 60)
  have B1 := Blk.new w 60 #[.int .i64 l, .int .i64 k, .slice A n c]
  have HD := Lib.hid (array_iff l k rs)
  cases h1 : shapeB l k with
  | false =>
    have H := Lib.hid (show tB (Array' l k rs) = false from tB_no fun hh => by
      rw [shapeB_mk (HD.out.1 hh).1] at h1; cases h1)
    go_enter Tryz.func68, Tryz.ntmps68
    go_wp2_with (go_at_call 124; refine (isShape_any _ _ _).mono ?_; rintro e w' ⟨rfl, rfl⟩; rw [h1])
    go_ret
    exact ⟨by rw [H.out]; rfl, hb1⟩
  | true =>
    obtain ⟨⟨l1, l2⟩, k1, k2⟩ := shapeB_true h1
    by_cases h2 : n ≤ 256
    · have ha1 := ha.keep hb1
      go_enter Tryz.func68, Tryz.ntmps68
      go_wp2_with (go_at_call 124; refine (isShape_any _ _ _).mono ?_; rintro e w' ⟨rfl, rfl⟩; rw [h1])
      go_loopw [20] (fun i wr => ∃ j : Nat, j ≤ n ∧ i = .int .i64 j ∧ Below w.heap.size w wr ∧ Blk wr w.heap.size 60 #[.int .i64 l, .int .i64 k, .slice A n c] ∧ rowsTo l k rs j) (fun i _ => n - (intOf i).toNat)
      case atStart => exact ⟨0, Nat.zero_le _, rfl, hb1, B1, fun _ h => absurd h (by omega)⟩
      case round =>
        clear hb1 B1 ha1
        obtain ⟨j, hj, rfl, hb, hB, hto⟩ := hrel
        obtain ⟨x0, x1, x2⟩ := hB.cells3
        by_cases hlt : j < n
        · obtain ⟨a, A1, n1, c1, rfl, hca, hn1, hc1, ha1⟩ := (ha.keep hb).get hlt
          have hl1 := Lib.hid ha1.len
          by_cases h3 : (n1 : Int) = k
          · have h3' : ((n1 : Int) != k) = false := by simp [h3]
            have hk := Lib.hid (show ((row rs j).length : Int) = k by rw [hl1.out]; exact h3)
            clear h3
            have hask : ∀ q, AskIq 125 #[.pointer (some ⟨w.heap.size, 0, none⟩)] (outB l) (wr.drewN q) := fun q x _ => validArray1_any x l w.heap.size (wr.drewN q) x0 l1 l2
            cases h4 : (row rs j).any (outB l) with
            | false =>
              have hc2 : ∀ q, Calls Tryz.prog 122 #[.slice A1 n1 c1, .func (.func 125) #[] #[.pointer (some ⟨w.heap.size, 0, none⟩)]] (wr.drewN q) (Quiet (wr.drewN q) (.bool false)) := fun q => by
                rw [← h4]; exact (containsFuncIq _ _ eg (outB l) A1 n1 c1 (row rs j) _ (ha1.drewN q) (by omega) (hask q)).mono fun _ _ h => Quiet.of_same h
              have hc1 : ∀ q, Calls Tryz.prog 121 #[.slice A1 n1 c1] (wr.drewN q) (Quiet (wr.drewN q) (.int .i64 n1)) := fun q => (sizeI_any A1 n1 c1 _ (by omega)).mono fun _ _ h => Quiet.of_same h
              have H := Lib.hid (rowsTo_step hto (tB_true.1 (by rw [← outB_any hk.out, h4]; rfl)))
              clear hto h4 hask
              go_wp2
              go_quiet ((first | (go_at_call 121; exact Quiet.call (hc1 _)) | (go_at_call 122; exact Quiet.call (hc2 _))))
              go_wp2
              go_roundw
              case rel => exact ⟨j + 1, by omega, by go_num, hb.trans ((below_drewn _ _).mono hb.size), hB.after (below_drewn _ _), H.out⟩
              case measure => simp [intOf]; omega
            | true =>
              have hc2 : ∀ q, Calls Tryz.prog 122 #[.slice A1 n1 c1, .func (.func 125) #[] #[.pointer (some ⟨w.heap.size, 0, none⟩)]] (wr.drewN q) (Quiet (wr.drewN q) (.bool true)) := fun q => by
                rw [← h4]; exact (containsFuncIq _ _ eg (outB l) A1 n1 c1 (row rs j) _ (ha1.drewN q) (by omega) (hask q)).mono fun _ _ h => Quiet.of_same h
              have hc1 : ∀ q, Calls Tryz.prog 121 #[.slice A1 n1 c1] (wr.drewN q) (Quiet (wr.drewN q) (.int .i64 n1)) := fun q => (sizeI_any A1 n1 c1 _ (by omega)).mono fun _ _ h => Quiet.of_same h
              have H := Lib.hid (show tB (Array' l k rs) = false from tB_no fun hh => by
                have h5 := tB_yes (hh.row j (by rw [hla.out]; exact hlt))
                have h6 := outB_any (l := l) hk.out
                rw [h4] at h6
                rw [show tB (rowOk l k (row rs j)) = true from h5] at h6
                cases h6)
              clear hto h4 hask
              go_wp2
              go_quiet ((first | (go_at_call 121; exact Quiet.call (hc1 _)) | (go_at_call 122; exact Quiet.call (hc2 _))))
              go_wp2
              go_ret
              exact ⟨by rw [H.out]; rfl, hb.trans ((below_drewn _ _).mono hb.size)⟩
          · have h3' : ((n1 : Int) != k) = true := by simp [h3]
            have hc1 : ∀ q, Calls Tryz.prog 121 #[.slice A1 n1 c1] (wr.drewN q) (Quiet (wr.drewN q) (.int .i64 n1)) := fun q => (sizeI_any A1 n1 c1 _ (by omega)).mono fun _ _ h => Quiet.of_same h
            have H := Lib.hid (show tB (Array' l k rs) = false from tB_no fun hh => h3 (by
              have := (hh.row j (by rw [hla.out]; exact hlt)).1
              rw [hl1.out] at this; exact this))
            clear hto h3
            go_wp2
            go_quiet ((go_at_call 121; exact Quiet.call (hc1 _)))
            go_wp2
            go_ret
            exact ⟨by rw [H.out]; rfl, hb.trans ((below_drewn _ _).mono hb.size)⟩
        · have H := Lib.hid (show tB (Array' l k rs) = true from tB_yes (HD.out.2 ⟨⟨⟨l1, l2⟩, k1, k2⟩, by rw [hla.out]; exact h2, by rw [hla.out]; rwa [show j = n by omega] at hto⟩))
          clear hto
          go_wp2
          go_ret
          exact ⟨by rw [H.out]; rfl, hb⟩
    · have H := Lib.hid (show tB (Array' l k rs) = false from tB_no fun hh => h2 (by have := hh.len; rw [hla.out] at this; exact this))
      have h2' : 256 < n := by omega
      go_enter Tryz.func68, Tryz.ntmps68
      go_wp2_with (go_at_call 124; refine (isShape_any _ _ _).mono ?_; rintro e w' ⟨rfl, rfl⟩; rw [h1])
      go_ret
      exact ⟨by rw [H.out]; rfl, hb1⟩
set_option maxRecDepth 100000 in
set_option maxHeartbeats 4000000 in
theorem l16Ok_any (g : Nat) (l k : Int) (A : Option Addr) (n c : Nat) (rs : List (List Int)) (w : World) (hB : Blk w g 60 #[.int .i64 l, .int .i64 k, .slice A n c]) (ha : RR w A n rs) (hn : n ≤ 9223372036854775807) :
    Calls Tryz.prog 112 #[.pointer (some ⟨g, 0, none⟩)] w (Quiet w (.bool (tB (Array' l k rs)))) := by
  have hla := Lib.hid ha.len
  obtain ⟨x0, x1, x2⟩ := hB.cells3
  have HD := Lib.hid (array_iff l k rs)
  cases h1 : shapeB l k with
  | false =>
    have H := Lib.hid (show tB (Array' l k rs) = false from tB_no fun hh => by
      rw [shapeB_mk (HD.out.1 hh).1] at h1; cases h1)
    have hc1 : ∀ q, Calls Tryz.prog 161 #[.int .i64 l, .int .i64 k] (w.drewN q) (Quiet (w.drewN q) (.bool false)) := fun q => by rw [← h1]; exact (l16Shape_any l k _).mono fun _ _ h => Quiet.of_same h
    go_enter Tryz.func112, Tryz.ntmps112
    go_wp2
    go_quiet ((go_at_call 161; exact Quiet.call (hc1 _)))
    go_wp2
    go_ret
    exact ⟨by rw [H.out]; rfl, (Drawn.refl _).more _⟩
  | true =>
    obtain ⟨⟨l1, l2⟩, k1, k2⟩ := shapeB_true h1
    have hc1 : ∀ q, Calls Tryz.prog 161 #[.int .i64 l, .int .i64 k] (w.drewN q) (Quiet (w.drewN q) (.bool true)) := fun q => by rw [← h1]; exact (l16Shape_any l k _).mono fun _ _ h => Quiet.of_same h
    clear h1
    by_cases h2 : n ≤ 256
    · have h2' : decide (256 < n) = false := by simp; omega
      have h2'' : decide ((256 : Int) < (n : Int)) = false := by simp; omega
      go_enter Tryz.func112, Tryz.ntmps112
      go_wp2
      go_quiet ((go_at_call 161; exact Quiet.call (hc1 _)))
      go_wp2
      generalize hw1 : w.drewN _ = w1
      have hd0 : Drawn w w1 := ⟨_, hw1.symm⟩
      clear hw1 hc1 h2' h2'' x0 x1 x2
      go_loopw [3] (fun i wr => ∃ j : Nat, j ≤ n ∧ i = .int .i64 j ∧ Drawn w wr ∧ rowsTo l k rs j) (fun i _ => n - (intOf i).toNat)
      case atStart => exact ⟨0, Nat.zero_le _, rfl, hd0, fun _ h => absurd h (by omega)⟩
      case round =>
        obtain ⟨j, hj, rfl, hd, hto⟩ := hrel
        obtain ⟨x0, x1, x2⟩ := (hB.after hd.below).cells3
        by_cases hlt : j < n
        · obtain ⟨a, A1, n1, c1, rfl, hca, hn1, hc1, ha1⟩ := (ha.drawn hd).get hlt
          have hl1 := Lib.hid ha1.len
          by_cases h3 : (n1 : Int) = k
          · have h3' : ((n1 : Int) != k) = false := by simp [h3]
            have hk := Lib.hid (show ((row rs j).length : Int) = k by rw [hl1.out]; exact h3)
            clear h3
            go_wp2
            go_quiet (fail)
            go_wp2
            generalize hw2 : wr.drewN _ = w2
            have hd2 : Drawn w w2 := by rw [← hw2]; exact hd.more _
            have hd3 : Drawn wr w2 := ⟨_, hw2.symm⟩
            clear hw2 h3' x0 x1 x2
            go_loopw [4] (fun i ws => ∃ m : Nat, m ≤ n1 ∧ i = .int .i64 m ∧ Drawn wr ws ∧ inTo l (row rs j) m) (fun i _ => n1 - (intOf i).toNat)
            case atStart => exact ⟨0, Nat.zero_le _, rfl, hd3, fun _ h => absurd h (by omega)⟩
            case round =>
              obtain ⟨m, hm, rfl, hdm, hin⟩ := hrel
              obtain ⟨x0, x1, x2⟩ := (hB.after (hd.trans hdm).below).cells3
              have hca' := below_cell hdm.below hca
              by_cases hm' : m < n1
              · obtain ⟨b, rfl, hcb, hib⟩ := (ha1.drawn hdm).get hm'
                have e1 : IntKind.i64.wrap (l - 1) = l - 1 := IntWalk.i64_in _ (by omega)
                cases h4 : inB (nth (row rs j) m) 0 (l - 1) with
                | true =>
                  have hc1 : ∀ (wx : World) (q : Nat), Calls Tryz.prog 80 #[.int .i64 (nth (row rs j) m), .int .i64 0, .int .i64 (l - 1)] (wx.drewN q) (Quiet (wx.drewN q) (.bool true)) := fun wx q => by rw [← h4]; exact (l00In_any _ _ _ _).mono fun _ _ h => Quiet.of_same h
                  have H := Lib.hid (inTo_step hin (inB_true h4))
                  clear hin h4
                  go_wp2
                  go_quiet ((go_at_call 80; exact Quiet.call (hc1 _ _)))
                  clear e1
                  go_wp2
                  go_roundw
                  case rel => exact ⟨m + 1, by omega, by go_num, hdm.more _, H.out⟩
                  case measure => simp [intOf]; omega
                | false =>
                  have hc1 : ∀ (wx : World) (q : Nat), Calls Tryz.prog 80 #[.int .i64 (nth (row rs j) m), .int .i64 0, .int .i64 (l - 1)] (wx.drewN q) (Quiet (wx.drewN q) (.bool false)) := fun wx q => by rw [← h4]; exact (l00In_any _ _ _ _).mono fun _ _ h => Quiet.of_same h
                  have H := Lib.hid (show tB (Array' l k rs) = false from tB_no fun hh => by
                    have := (hh.row j (by rw [hla.out]; exact hlt)).2 m (by rw [hl1.out]; exact hm')
                    rw [inB_mk this] at h4; cases h4)
                  clear hin h4 hto
                  go_wp2
                  go_quiet ((go_at_call 80; exact Quiet.call (hc1 _ _)))
                  clear e1
                  go_wp2
                  go_ret
                  exact ⟨by rw [H.out]; rfl, (hd.trans hdm).more _⟩
              · have H := Lib.hid (rowsTo_step hto ⟨hk.out, by rw [hl1.out]; rwa [show m = n1 by omega] at hin⟩)
                clear hin hto
                go_wp2
                go_roundw
                case rel => exact ⟨j + 1, by omega, by go_num, hd.trans hdm, H.out⟩
                case measure => simp [intOf]; omega
          · have h3' : ((n1 : Int) != k) = true := by simp [h3]
            have H := Lib.hid (show tB (Array' l k rs) = false from tB_no fun hh => h3 (by
              have := (hh.row j (by rw [hla.out]; exact hlt)).1
              rw [hl1.out] at this; exact this))
            clear hto h3
            go_wp2
            go_quiet (fail)
            go_wp2
            go_ret
            exact ⟨by rw [H.out]; rfl, hd.more _⟩
        · have H := Lib.hid (show tB (Array' l k rs) = true from tB_yes (HD.out.2 ⟨⟨⟨l1, l2⟩, k1, k2⟩, by rw [hla.out]; exact h2, by rw [hla.out]; rwa [show j = n by omega] at hto⟩))
          clear hto
          go_wp2
          go_ret
          exact ⟨by rw [H.out]; rfl, hd⟩
    · have H := Lib.hid (show tB (Array' l k rs) = false from tB_no fun hh => h2 (by have := hh.len; rw [hla.out] at this; exact this))
      have h2' : decide (256 < n) = true := by simp; omega
      have h2'' : decide ((256 : Int) < (n : Int)) = true := by simp; omega
      go_enter Tryz.func112, Tryz.ntmps112
      go_wp2
      go_quiet ((go_at_call 161; exact Quiet.call (hc1 _)))
      go_wp2
      go_ret
      exact ⟨by rw [H.out]; rfl, (Drawn.refl _).more _⟩
end Go.Proofs.YtemdjochphehjaaGreat
