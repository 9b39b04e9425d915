/- Hadamard matrices: whether rows are one, on both sides. No condition beyond those stated. -/
import Derived.Test.YtnmcmologlgccaaGreatSZAD
import Derived.Deep.RegionHeldLaw
import Derived.Deep.DrawnRows
set_option linter.unusedVariables false
set_option linter.unusedSimpArgs false
namespace Go.Proofs.YtnmcmologlgccaaGreat
open Go.RowKit
def hadTo (h : List (List Int)) (i : Nat) : Prop := ∀ j, j < i → HadRow h j
theorem hadTo_step {h : List (List Int)} {i : Nat} (k : hadTo h i) (r : HadRow h i) : hadTo h (i + 1) := fun j hj => by
  rcases Nat.lt_succ_iff_lt_or_eq.1 hj with h' | h'
  · exact k j h'
  · rw [h']; exact r
def pairTo (h : List (List Int)) (i : Nat) : Prop := ∀ j, j < i → ∀ k, k < j → HadPair h j k
def pairRow (h : List (List Int)) (i k : Nat) : Prop := ∀ j, j < k → HadPair h i j
theorem pairTo_step {h : List (List Int)} {i : Nat} (k : pairTo h i) (r : pairRow h i i) : pairTo h (i + 1) := fun j hj => by
  rcases Nat.lt_succ_iff_lt_or_eq.1 hj with h' | h'
  · exact k j h'
  · rw [h']; exact r
theorem pairRow_step {h : List (List Int)} {i k : Nat} (r : pairRow h i k) (p : HadPair h i k) : pairRow h i (k + 1) := fun j hj => by
  rcases Nat.lt_succ_iff_lt_or_eq.1 hj with h' | h'
  · exact r j h'
  · rw [h']; exact p
def pmTo (a : List Int) (k : Nat) : Prop := PM a k
theorem pmTo_step {a : List Int} {k : Nat} (h : pmTo a k) (p : nth a k = 1 ∨ nth a k = -1) : pmTo a (k + 1) := fun j hj => by
  rcases Nat.lt_succ_iff_lt_or_eq.1 hj with h' | h'
  · exact h j h'
  · rw [h']; exact p
set_option maxHeartbeats 1000000 in
theorem l15Dot_any (A B : Option Addr) (n c d : Nat) (a b : List Int) (w : World) (ha : RI w A n a) (hb : RI w B n b) (pa : PM a n) (pb : PM b n) (hn : n ≤ 1000) :
    Calls Tryz.prog 170 #[.slice A n c, .slice B n d] w (Quiet w (.int .i64 (dotTo a b n))) := by
  go_enter Tryz.func170, Tryz.ntmps170
  go_wp2
  go_loopw [5, 6] (fun s i wr => ∃ k : Nat, k ≤ n ∧ i = .int .i64 k ∧ s = .int .i64 (dotTo a b k) ∧ Drawn w wr) (fun _ i _ => n - (intOf i).toNat)
  case atStart => exact ⟨0, Nat.zero_le _, rfl, rfl, Drawn.refl _⟩
  case round =>
    obtain ⟨k, hk, rfl, rfl, hd⟩ := hrel
    by_cases hlt : k < n
    · obtain ⟨x, rfl, hcx, hix⟩ := (ha.drawn hd).get hlt
      obtain ⟨y, rfl, hcy, hiy⟩ := (hb.drawn hd).get hlt
      have hm := pm_mul pa pb hlt
      have hs := dotTo_bd pa pb hk
      have m1 := hm.1
      have m2 := hm.2
      have s1 := hs.1
      have s2 := hs.2
      have e1 : IntKind.i64.wrap (nth a k * nth b k) = nth a k * nth b k := IntWalk.i64_in _ (by omega)
      have e2 : IntKind.i64.wrap (dotTo a b k + nth a k * nth b k) = dotTo a b k + nth a k * nth b k := IntWalk.i64_in _ (by omega)
      clear hm hs
      go_wp2
      go_quiet (fail)
      clear e1 e2
      go_wp2
      go_roundw
      case rel => exact ⟨k + 1, by omega, by go_num, rfl, hd.more _⟩
      case measure => simp [intOf]; omega
    · obtain rfl : k = n := by omega
      go_wp2
      go_ret
      exact ⟨rfl, hd⟩
set_option maxRecDepth 100000 in
set_option maxHeartbeats 2000000 in
theorem l15Ok_any (A : Option Addr) (n c : Nat) (h : List (List Int)) (w : World) (ha : RR w A n h) (hn : n ≤ 9223372036854775807) :
    Calls Tryz.prog 131 #[.slice A n c] w (Quiet w (.bool (tB (Had h)))) := by
  have hla := Lib.hid ha.len
  by_cases h0 : 1 ≤ n
  · by_cases h1 : n ≤ 32
    · go_enter Tryz.func131, Tryz.ntmps131
      go_wp2
      go_loop [4] (fun i => ∃ j : Nat, i = .int .i64 j ∧ j ≤ n ∧ hadTo h j) (fun i => n - (intOf i).toNat)
      case atStart => exact ⟨0, rfl, Nat.zero_le _, fun _ h => absurd h (by omega)⟩
      case round =>
        obtain ⟨j, rfl, hj, hto⟩ := hrel
        by_cases hlt : j < n
        · obtain ⟨a, A1, n1, c1, rfl, hca, hn1, hc1, ha1⟩ := ha.get hlt
          have hl1 := Lib.hid ha1.len
          by_cases hn' : n1 = n
          · subst hn'
            go_wp2
            go_loop [5] (fun i => ∃ k : Nat, i = .int .i64 k ∧ k ≤ n1 ∧ pmTo (row h j) k) (fun i => n1 - (intOf i).toNat)
            case atStart => exact ⟨0, rfl, Nat.zero_le _, fun _ h => absurd h (by omega)⟩
            case round =>
              obtain ⟨k, rfl, hk, hpm⟩ := hrel
              by_cases hk' : k < n1
              · obtain ⟨b, rfl, hcb, hib⟩ := ha1.get hk'
                by_cases e1 : nth (row h j) k = 1
                · have e1' : (nth (row h j) k != 1) = false := by simp [e1]
                  have H := Lib.hid (pmTo_step hpm (.inl e1))
                  clear hpm hto e1
                  go_wp2
                  go_round
                  case rel => exact ⟨k + 1, by go_num, by omega, H.out⟩
                  case measure => simp [intOf]; omega
                · have e1' : (nth (row h j) k != 1) = true := by simp [e1]
                  by_cases e2 : nth (row h j) k = -1
                  · have e2' : (nth (row h j) k != -1) = false := by simp [e2]
                    have H := Lib.hid (pmTo_step hpm (.inr e2))
                    clear hpm hto e1 e2
                    go_wp2
                    go_round
                    case rel => exact ⟨k + 1, by go_num, by omega, H.out⟩
                    case measure => simp [intOf]; omega
                  · have e2' : (nth (row h j) k != -1) = true := by simp [e2]
                    have H := Lib.hid (show tB (Had h) = false from tB_no fun hh => by
                      have := (hh.2.2.1 j (by rw [hla.out]; exact hlt)).2 k (by rw [hla.out]; exact hk')
                      omega)
                    clear hpm hto e1 e2
                    go_wp2
                    go_ret
                    exact ⟨by rw [H.out]; rfl, Drawn.refl _⟩
              · have H := Lib.hid (hadTo_step hto ⟨hl1.out.trans hla.out.symm, by rw [hla.out]; rwa [show k = n1 by omega] at hpm⟩)
                clear hpm hto
                go_wp2
                go_round
                case rel => exact ⟨j + 1, by go_num, by omega, H.out⟩
                case measure => simp [intOf]; omega
          · have hne : ((n1 : Int) != (n : Int)) = true := by simp; omega
            have H := Lib.hid (show tB (Had h) = false from tB_no fun hh => by
              have := (hh.2.2.1 j (by rw [hla.out]; exact hlt)).1
              rw [hl1.out, hla.out] at this
              exact hn' this)
            clear hto hn'
            go_wp2
            go_ret
            exact ⟨by rw [H.out]; rfl, Drawn.refl _⟩
        · have HT := Lib.hid (show hadTo h n by rwa [show j = n by omega] at hto)
          clear hto
          go_wp2
          go_loopw [6] (fun i wr => ∃ j : Nat, i = .int .i64 j ∧ j ≤ n ∧ pairTo h j ∧ Drawn w wr) (fun i _ => n - (intOf i).toNat)
          case atStart => exact ⟨0, rfl, Nat.zero_le _, fun _ h => absurd h (by omega), Drawn.refl _⟩
          case round =>
            obtain ⟨j, rfl, hj, hto, hd⟩ := hrel
            by_cases hlt : j < n
            · obtain ⟨w1, rfl⟩ : ∃ w1 : World, w1 = wr := ⟨_, rfl⟩
              go_wp2
              go_loopw [7] (fun i wr => ∃ k : Nat, i = .int .i64 k ∧ k ≤ j ∧ pairRow h j k ∧ Drawn w wr) (fun i _ => j - (intOf i).toNat)
              case atStart => exact ⟨0, rfl, Nat.zero_le _, fun _ h => absurd h (by omega), hd⟩
              case round =>
                obtain ⟨k, rfl, hk, hpr, hd⟩ := hrel
                by_cases hk' : k < j
                · obtain ⟨a, A1, n1, c1, rfl, hca, hn1, hc1, ha1⟩ := (ha.drawn hd).get hlt
                  obtain ⟨b, A2, n2, c2, hb', hcb, hn2, hc2, ha2⟩ := (ha.drawn hd).get (show k < n by omega)
                  obtain rfl : a = b := by injection hb'
                  clear hb'
                  have r1 := HT.out j hlt
                  have r2 := HT.out k (by omega)
                  obtain rfl : n1 = n := by rw [← ha1.len, r1.1, hla.out]
                  obtain rfl : n2 = n1 := by rw [← ha2.len, r2.1, hla.out]
                  have p1 := Lib.hid (show PM (row h j) n2 by rw [← hla.out]; exact r1.2)
                  have p2 := Lib.hid (show PM (row h k) n2 by rw [← hla.out]; exact r2.2)
                  clear r1 r2
                  by_cases e : dotTo (row h j) (row h k) n2 = 0
                  · have e' : (dotTo (row h j) (row h k) n2 != 0) = false := by simp [e]
                    have H := Lib.hid (pairRow_step hpr (show HadPair h j k by unfold HadPair; rw [hla.out]; exact e))
                    clear hpr hto e
                    go_wp2
                    go_quiet ((go_at_call 170; exact Quiet.call (l15Dot_any A1 A2 n2 c1 c2 (row h j) (row h k) _ (ha1.drewN _) (ha2.drewN _) p1.out p2.out (by omega))))
                    go_wp2
                    go_roundw
                    case rel => exact ⟨k + 1, by go_num, by omega, H.out, hd.more _⟩
                    case measure => simp [intOf]; omega
                  · have e' : (dotTo (row h j) (row h k) n2 != 0) = true := by simp [e]
                    have H := Lib.hid (show tB (Had h) = false from tB_no fun hh => by
                      have := hh.2.2.2 j (by rw [hla.out]; exact hlt) k hk'
                      unfold HadPair at this
                      rw [hla.out] at this
                      exact e this)
                    clear hpr hto e
                    go_wp2
                    go_quiet ((go_at_call 170; exact Quiet.call (l15Dot_any A1 A2 n2 c1 c2 (row h j) (row h k) _ (ha1.drewN _) (ha2.drewN _) p1.out p2.out (by omega))))
                    go_wp2
                    go_ret
                    exact ⟨by rw [H.out]; rfl, hd.more _⟩
                · have H := Lib.hid (pairTo_step hto (show pairRow h j j by rwa [show k = j by omega] at hpr))
                  clear hpr hto
                  go_wp2
                  go_roundw
                  case rel => exact ⟨j + 1, by go_num, by omega, H.out, hd⟩
                  case measure => simp [intOf]; omega
            · have H := Lib.hid (show tB (Had h) = true from tB_yes ⟨by rw [hla.out]; exact h0, by rw [hla.out]; exact h1, by rw [hla.out]; exact HT.out, by rw [hla.out]; rwa [show j = n by omega] at hto⟩)
              clear hto
              go_wp2
              go_ret
              exact ⟨by rw [H.out]; rfl, hd⟩
    · have H := Lib.hid (show tB (Had h) = false from tB_no fun hh => by have := hh.2.1; rw [hla.out] at this; exact h1 this)
      go_enter Tryz.func131, Tryz.ntmps131
      go_wp2
      go_ret
      exact ⟨by rw [H.out]; rfl, Drawn.refl _⟩
  · have H := Lib.hid (show tB (Had h) = false from tB_no fun hh => by have := hh.1; rw [hla.out] at this; exact h0 this)
    go_enter Tryz.func131, Tryz.ntmps131
    go_wp2
    go_ret
    exact ⟨by rw [H.out]; rfl, Drawn.refl _⟩
def oddB (x : Int) : Bool := x != 1 && x != -1
set_option maxHeartbeats 400000 in
theorem validHadamard1_any (x : Int) (w : World) : Calls Tryz.prog 207 #[.int .i64 x] w fun e w' => e = .returned (.bool (oddB x)) ∧ w = w' := by
  by_cases e1 : x = 1
  · have h1 : (x != 1) = false := by simp [e1]
    have H := Lib.hid (show oddB x = false by simp [oddB, h1])
    clear e1
    go_enter Tryz.func207, Tryz.ntmps207
    go_wp2
    go_ret
    exact ⟨by rw [H.out]; rfl, rfl⟩
  · have h1 : (x != 1) = true := by simp [e1]
    by_cases e2 : x = -1
    · have h2 : (x != -1) = false := by simp [e2]
      have H := Lib.hid (show oddB x = false by simp [oddB, h2])
      clear e1 e2
      go_enter Tryz.func207, Tryz.ntmps207
      go_wp2
      go_ret
      exact ⟨by rw [H.out]; rfl, rfl⟩
    · have h2 : (x != -1) = true := by simp [e2]
      have H := Lib.hid (show oddB x = true by simp [oddB, h1, h2])
      clear e1 e2
      go_enter Tryz.func207, Tryz.ntmps207
      go_wp2
      go_ret
      exact ⟨by rw [H.out]; rfl, rfl⟩
theorem oddB_no {x : Int} (h : oddB x = false) : x = 1 ∨ x = -1 := by
  simp [oddB] at h
  omega
theorem pm_of {z : List Int} (h : z.any oddB = false) : PM z z.length := fun k hk => by
  rw [List.any_eq_false] at h
  rw [nth_get hk]
  exact oddB_no (by simpa using h _ (List.getElem_mem hk))
theorem not_pm {z : List Int} (h : z.any oddB = true) : ¬ PM z z.length := fun hp => by
  obtain ⟨x, hx, hb⟩ := List.any_eq_true.1 h
  obtain ⟨k, hk, rfl⟩ := List.mem_iff_getElem.1 hx
  have := hp k hk
  rw [nth_get hk] at this
  rcases this with e | e <;> rw [e] at hb <;> simp [oddB] at hb
theorem askOdd (w : World) : AskI 207 #[] oddB w := fun x W _ _ => (validHadamard1_any x W).mono fun _ _ h => RetB.of_same h
set_option maxRecDepth 100000 in
set_option maxHeartbeats 2000000 in
theorem validHadamard_any (A : Option Addr) (n c : Nat) (h : List (List Int)) (w : World) (ha : RR w A n h) (hn : n ≤ c) (hc : c ≤ 9223372036854775807) :
    Calls Tryz.prog 188 #[.slice A n c] w (RetB w (tB (Had h))) := by
  have hla := Lib.hid ha.len
  have eg : ∀ (args : Array Value) (w : World), (callFunc 207 args).run Tryz.prog w = .ok (.enter 207 args) w := fun _ _ => by kernel_rfl
  have hask := askOdd
  go_enter Tryz.func188, Tryz.ntmps188
  go_wp2_with (go_at_call 24; refine (sizeR_any _ _ _ _ (by omega)).mono ?_; rintro e w' ⟨rfl, rfl⟩)
  go_loopw [14] (fun i wr => ∃ j : Nat, i = .int .i64 j ∧ j ≤ n ∧ hadTo h j ∧ pairTo h j ∧ Below w.heap.size w wr) (fun i _ => n - (intOf i).toNat)
  case atStart => exact ⟨0, rfl, Nat.zero_le _, fun _ h => absurd h (by omega), fun _ h => absurd h (by omega), Below.refl _ _⟩
  case round =>
    obtain ⟨j, rfl, hj, hto, hpt, hb⟩ := hrel
    by_cases hlt : j < n
    · obtain ⟨a, A1, n1, c1, rfl, hca0, hn1, hc1, ha1⟩ := ha.get hlt
      have hca := below_cell hb hca0
      clear hca0
      have hl1 := Lib.hid ha1.len
      by_cases hn' : n1 = n
      · subst hn'
        cases hodd : (row h j).any oddB with
        | true =>
          have H := Lib.hid (show tB (Had h) = false from tB_no fun hh => by
            have := (hh.2.2.1 j (by rw [hla.out]; exact hlt)).2
            rw [hla.out, ← hl1.out] at this
            exact not_pm hodd this)
          clear hto hpt
          go_wp2_with (first
            | (go_at_call 48; refine (sizeI_any _ _ _ _ (by omega)).mono ?_; rintro e w' ⟨rfl, rfl⟩)
            | (go_at_call 206; refine (containsFuncI _ _ eg oddB A1 n1 c1 (row h j) _ (ha1.keep hb) (by omega) (hask _)).mono ?_; rintro e w1 ⟨rfl, hb1⟩; rw [hodd]))
          go_ret
          exact ⟨by rw [H.out]; rfl, hb.trans (hb1.mono hb.size)⟩
        | false =>
          have hr := Lib.hid (show HadRow h j from ⟨hl1.out.trans hla.out.symm, by rw [hla.out, ← hl1.out]; exact pm_of hodd⟩)
          have hto2 := Lib.hid (hadTo_step hto hr.out)
          clear hto
          go_wp2_with (first
            | (go_at_call 48; refine (sizeI_any _ _ _ _ (by omega)).mono ?_; rintro e w' ⟨rfl, rfl⟩)
            | (go_at_call 206; refine (containsFuncI _ _ eg oddB A1 n1 c1 (row h j) _ (ha1.keep hb) (by omega) (hask _)).mono ?_; rintro e w1 ⟨rfl, hb1⟩; rw [hodd]))
          have hb2 := hb.trans (hb1.mono hb.size)
          clear hodd hca hb hb1
          go_loopw [31] (fun i wr => ∃ k : Nat, i = .int .i64 k ∧ k ≤ j ∧ pairRow h j k ∧ Below w.heap.size w wr) (fun i _ => j - (intOf i).toNat)
          case atStart => exact ⟨0, rfl, Nat.zero_le _, fun _ h => absurd h (by omega), hb2⟩
          case round =>
            obtain ⟨k, rfl, hk, hpr, hb⟩ := hrel
            clear hb2
            by_cases hk' : k < j
            · obtain ⟨b, B1, m1, d1, hb', hcb0, hm1, hd1, hb0⟩ := ha.get (show k < n1 by omega)
              have hcb := below_cell hb hcb0
              clear hcb0
              obtain rfl : a = b := by injection hb'
              clear hb'
              have r2 := hto2.out k (by omega)
              obtain rfl : m1 = n1 := by rw [← hb0.len, r2.1, hla.out]
              have p1 := Lib.hid (show PM (row h j) m1 by rw [← hla.out]; exact hr.out.2)
              have p2 := Lib.hid (show PM (row h k) m1 by rw [← hla.out]; exact r2.2)
              clear r2
              go_wp2
              go_loopw [8, 37] (fun s i wr => ∃ l : Nat, i = .int .i64 l ∧ l ≤ m1 ∧ s = .int .i64 (dotTo (row h j) (row h k) l) ∧ Below w.heap.size w wr) (fun _ i _ => m1 - (intOf i).toNat)
              case atStart => exact ⟨0, rfl, Nat.zero_le _, rfl, hb⟩
              case round =>
                clear hb hcb
                obtain ⟨l, rfl, hl, rfl, hb⟩ := hrel
                by_cases hl' : l < m1
                · obtain ⟨x, rfl, hcx, hix⟩ := (ha1.keep hb).get hl'
                  obtain ⟨y, rfl, hcy, hiy⟩ := (hb0.keep hb).get hl'
                  have hm := pm_mul p1.out p2.out hl'
                  have hs := dotTo_bd p1.out p2.out hl
                  have m1 := hm.1
                  have m2 := hm.2
                  have s1 := hs.1
                  have s2 := hs.2
                  have e1 : IntKind.i64.wrap (nth (row h j) l * nth (row h k) l) = nth (row h j) l * nth (row h k) l := IntWalk.i64_in _ (by omega)
                  have e2 : IntKind.i64.wrap (dotTo (row h j) (row h k) l + nth (row h j) l * nth (row h k) l) = dotTo (row h j) (row h k) l + nth (row h j) l * nth (row h k) l := IntWalk.i64_in _ (by omega)
                  clear hm hs
                  go_wp2
                  go_quiet (fail)
                  clear e1 e2
                  go_wp2
                  go_roundw
                  case rel => exact ⟨l + 1, by go_num, by omega, rfl, hb.trans ((below_drewn _ _).mono hb.size)⟩
                  case measure => simp [intOf]; omega
                · by_cases e : dotTo (row h j) (row h k) m1 = 0
                  · have e' : (dotTo (row h j) (row h k) m1 != 0) = false := by simp [e]
                    have H := Lib.hid (pairRow_step hpr (show HadPair h j k by unfold HadPair; rw [hla.out]; exact e))
                    obtain rfl : l = m1 := by omega
                    clear hpr hpt e
                    go_wp2
                    go_roundw
                    case rel => exact ⟨k + 1, by go_num, by omega, H.out, hb⟩
                    case measure => simp [intOf]; omega
                  · have e' : (dotTo (row h j) (row h k) m1 != 0) = true := by simp [e]
                    have H := Lib.hid (show tB (Had h) = false from tB_no fun hh => by
                      have := hh.2.2.2 j (by rw [hla.out]; exact hlt) k hk'
                      unfold HadPair at this
                      rw [hla.out] at this
                      exact e this)
                    obtain rfl : l = m1 := by omega
                    clear hpr hpt e
                    go_wp2
                    go_ret
                    exact ⟨by rw [H.out]; rfl, hb⟩
            · have H := Lib.hid (pairTo_step hpt (show pairRow h j j by rwa [show k = j by omega] at hpr))
              clear hpr hpt
              go_wp2
              go_roundw
              case rel => exact ⟨j + 1, by go_num, by omega, hto2.out, H.out, hb⟩
              case measure => simp [intOf]; omega
      · have hne : ((n1 : Int) != (n : Int)) = true := by simp; omega
        have H := Lib.hid (show tB (Had h) = false from tB_no fun hh => by
          have := (hh.2.2.1 j (by rw [hla.out]; exact hlt)).1
          rw [hl1.out, hla.out] at this
          exact hn' this)
        clear hto hpt hn'
        go_wp2_with (go_at_call 48; refine (sizeI_any _ _ _ _ (by omega)).mono ?_; rintro e w' ⟨rfl, rfl⟩)
        go_ret
        exact ⟨by rw [H.out]; rfl, hb⟩
    · have H := Lib.hid (show inB n 1 32 = tB (Had h) by
        obtain rfl : j = n := by omega
        by_cases h1 : 1 ≤ j ∧ j ≤ 32
        · rw [inB_mk (by omega), tB_yes ⟨by rw [hla.out]; exact h1.1, by rw [hla.out]; exact h1.2, by rw [hla.out]; exact hto, by rw [hla.out]; exact hpt⟩]
        · rw [inB_not (by omega), tB_no fun hh => h1 (by have := hh.1; have := hh.2.1; rw [hla.out] at *; omega)])
      clear hto hpt
      go_wp2_with (go_at_call 30; refine (within_any _ _ _ _).mono ?_; rintro e w' ⟨rfl, rfl⟩)
      go_ret
      exact ⟨by rw [← H.out]; rfl, hb⟩
end Go.Proofs.YtnmcmologlgccaaGreat
namespace Go.Proofs.YtnmcmologlgccaaGreat
open Go
section
variable {P : Program}
def atEnd (F : Act → World → Prop) (Q : Exit → Act → World → Prop) : Exit → Act → World → Prop
  | .normal, a, w => F a w
  | e, a, w => Q e a w
theorem wp_atEnd {F : Act → World → Prop} {Q : Exit → Act → World → Prop} {o : Oper} {a : Act} {w : World} {K : Act → World → Prop} (h : o.wp P a w K (atEnd F Q)) : o.wp P a w K Q := by
  unfold Oper.wp at *
  generalize (execOp a.eval o).run P w = r at *
  cases r with
  | ok n w' =>
    cases n with
    | value u => exact h
    | skip => exact h
    | defer d => exact h
    | enter f args =>
      refine Calls.mono h fun e w'' he => ?_
      cases e with
      | returned u => exact he
      | panicked c => exact he
      | outgrown => exact he
    | _ => exact h
  | halt x w' =>
    cases x with
    | panic u => exact h
    | _ => exact h
def lastB (md : Region.Mode) (l : List Oper) (oz : Oper) : Bool :=
  ((List.range l.length).all fun i => ((l[i]?).map fun o => o.guard.isNone && o.after.all fun e => decide (e.on < i)).getD true) && oz.guard.isNone && ((List.range l.length).all fun i => oz.after.any fun e => Region.binds md e && e.on == i) && oz.after.all fun e => decide (e.on < l.length)
theorem lastB_op {md : Region.Mode} {l : List Oper} {oz : Oper} (h : lastB md l oz = true) {i : Nat} {o : Oper} (hi : l[i]? = some o) : o.guard = none ∧ ∀ e ∈ o.after, e.on < i := by
  unfold lastB at h
  simp only [Bool.and_eq_true] at h
  have hl := (List.getElem?_eq_some_iff.1 hi).1
  have h1 := List.all_eq_true.1 h.1.1.1 i (List.mem_range.2 hl)
  rw [hi] at h1
  simp only [Option.map_some, Option.getD_some, Bool.and_eq_true] at h1
  refine ⟨by simpa using h1.1, fun e he => ?_⟩
  have := Array.all_eq_true_iff_forall_mem.1 h1.2 e he
  simpa using this
theorem lastB_z {md : Region.Mode} {l : List Oper} {oz : Oper} (h : lastB md l oz = true) : oz.guard = none ∧ (∀ i, i < l.length → ∃ e ∈ oz.after, Region.binds md e = true ∧ e.on = i) ∧ ∀ e ∈ oz.after, e.on < l.length := by
  unfold lastB at h
  simp only [Bool.and_eq_true] at h
  refine ⟨by simpa using h.1.1.2, fun i hi => ?_, fun e he => ?_⟩
  · have h1 := List.all_eq_true.1 h.1.2 i (List.mem_range.2 hi)
    obtain ⟨j, hj, hq⟩ := Array.any_eq_true.1 h1
    simp at hq
    exact ⟨oz.after[j], Array.getElem_mem hj, hq.1, hq.2⟩
  · have := Array.all_eq_true_iff_forall_mem.1 h.2 e he
    simpa using this
theorem op_left {l : List Oper} {oz : Oper} {i : Nat} (h : i < l.length) : (l ++ [oz]).toArray[i]? = l.toArray[i]? := by simp [List.getElem?_append_left h]
theorem op_last {l : List Oper} {oz : Oper} : (l ++ [oz]).toArray[l.length]? = some oz := by simp
theorem getD_push {listed : Array Bool} {i : Nat} (d : Bool) (h : i < listed.size) : (listed.push false).getD i d = listed.getD i d := by
  simp [Array.getD_eq_getD_getElem?, Array.getElem?_push, Nat.ne_of_lt h]
theorem wpAny_last {md : Region.Mode} {l : List Oper} {oz : Oper} {F : Act → World → Prop} {Q : Exit → Act → World → Prop} (hz : lastB md l oz = true)
    (hF : ∀ a w, F a w → oz.wp P a w (Q .normal) Q ∨ (oz.asks P a w ∧ LetsOut Q)) : ∀ (fuel : Nat) (listed : Array Bool) (a : Act) (w : World), listed.size = l.length →
      wpAny P md l.toArray (atEnd F Q) fuel listed a w → wpAny P md (l ++ [oz]).toArray Q (fuel + 1) (listed.push false) a w := by
  obtain ⟨zg, zw, zl⟩ := lastB_z hz
  have small : ∀ {listed : Array Bool} {i : Nat}, listed.size = l.length → i < l.length → (i ∈ Region.ready md (l ++ [oz]).toArray (listed.push false) ↔ i ∈ Region.ready md l.toArray listed) := fun {listed i} hs hi => by
    rw [mem_ready, mem_ready, getD_push _ (by omega), op_left hi]
    refine and_congr_right fun _ => exists_congr fun o => and_congr_right fun ho => ?_
    have hon := (lastB_op hz (by simpa using ho)).2
    refine forall_congr' fun e => forall_congr' fun he => ?_
    rw [getD_push _ (by have := hon e he; omega)]
  have dead : ∀ {listed : Array Bool}, listed.size = l.length → Region.ready md l.toArray listed = [] → ∀ i, i < l.length → listed.getD i true = true := fun {listed} hs hr i => by
    induction i using Nat.strongRecOn with
    | ind i ih =>
      intro hi
      cases hq : listed.getD i true with
      | true => rfl
      | false =>
        exfalso
        have : i ∈ Region.ready md l.toArray listed := by
          refine mem_ready.2 ⟨hq, l[i], by simp, fun e he _ => ?_⟩
          have hon := (lastB_op hz (i := i) (o := l[i]) (by simp)).2 e he
          have := ih e.on hon (by omega)
          rw [Array.getD_eq_getD_getElem?, Array.getElem?_eq_getElem (by omega)] at this ⊢
          simpa using this
        rw [hr] at this
        cases this
  have zready : ∀ {listed : Array Bool}, listed.size = l.length → (l.length ∈ Region.ready md (l ++ [oz]).toArray (listed.push false) ↔ ∀ i, i < l.length → listed.getD i true = true) := fun {listed} hs => by
    rw [mem_ready]
    constructor
    · rintro ⟨_, o, ho, h⟩ i hi
      rw [op_last] at ho
      injection ho with ho
      subst ho
      obtain ⟨e, he, hb, rfl⟩ := zw i hi
      have := h e he hb
      rw [getD_push _ (by omega)] at this
      rw [Array.getD_eq_getD_getElem?, Array.getElem?_eq_getElem (by omega)] at this ⊢
      simpa using this
    · intro h
      refine ⟨by simp [Array.getD_eq_getD_getElem?, ← hs], oz, op_last, fun e he hb => ?_⟩
      have hl := zl e he
      have := h e.on hl
      rw [getD_push _ (by omega)]
      rw [Array.getD_eq_getD_getElem?, Array.getElem?_eq_getElem (by omega)] at this ⊢
      simpa using this
  have beyond : ∀ {listed : Array Bool} {i : Nat}, i ∈ Region.ready md (l ++ [oz]).toArray (listed.push false) → i ≤ l.length := fun {listed i} h => by
    obtain ⟨_, o, ho, _⟩ := mem_ready.1 h
    have := (Array.getElem?_eq_some_iff.1 ho).1
    simp at this
    omega
  have setp : ∀ {listed : Array Bool} {i : Nat}, i < listed.size → (listed.push false).setIfInBounds i true = (listed.setIfInBounds i true).push false := fun {listed i} h => by
    apply Array.ext_getElem?
    intro k
    rw [Array.getElem?_push, Array.getElem?_setIfInBounds, Array.getElem?_setIfInBounds, Array.getElem?_push]
    simp only [Array.size_setIfInBounds, Array.size_push]
    by_cases e : i = k
    · subst e
      simp [Nat.ne_of_lt h, h, show i < listed.size + 1 from by omega]
    · rw [if_neg e, if_neg e]
  -- all others have come up
  have finish : ∀ (fuel : Nat) (listed : Array Bool) (a : Act) (w : World), listed.size = l.length → Region.ready md l.toArray listed = [] → F a w → wpAny P md (l ++ [oz]).toArray Q (fuel + 1) (listed.push false) a w := fun fuel listed a w hs hr hf => by
    have hall := dead hs hr
    have hzr := (zready hs).2 hall
    refine ⟨(fun h => by rw [h] at hzr; cases hzr), fun i hi => ?_⟩
    have hib := beyond hi
    rcases Nat.lt_or_ge i l.length with h1 | h1
    · have := (small hs h1).1 hi
      rw [hr] at this; cases this
    · have e : i = l.length := by omega
      subst e
      unfold wpOp
      rw [op_last]
      simp only
      rw [if_pos (by unfold Region.wanted; rw [zg])]
      refine (hF a w hf).imp (fun hq0 => Oper.wp_mono (fun a' w' hq => ?_) hq0) id
      have hnone : Region.ready md (l ++ [oz]).toArray ((listed.push false).setIfInBounds l.length true) = [] := by
        rw [List.eq_nil_iff_forall_not_mem]
        intro k hk
        obtain ⟨h2, o, ho, _⟩ := mem_ready.1 hk
        have hkl := (Array.getElem?_eq_some_iff.1 ho).1
        simp at hkl
        rcases Nat.lt_or_ge k l.length with h3 | h3
        · have := hall k h3
          rw [Array.getD_eq_getD_getElem?] at this h2
          rw [Array.getElem?_setIfInBounds_ne (by omega), Array.getElem?_push, if_neg (by omega)] at h2
          rw [this] at h2; cases h2
        · have e : k = l.length := by omega
          subst e
          rw [Array.getD_eq_getD_getElem?, Array.getElem?_setIfInBounds_self] at h2
          simp [hs] at h2
      cases fuel with
      | zero => exact ⟨hnone, hq⟩
      | succ f => exact ⟨fun _ => hq, by rw [hnone]; simp⟩
  intro fuel
  induction fuel with
  | zero => intro listed a w hs h; exact finish 0 listed a w hs h.1 h.2
  | succ f ih =>
    intro listed a w hs h
    by_cases hr : Region.ready md l.toArray listed = []
    · exact finish (f + 1) listed a w hs hr (h.1 hr)
    · obtain ⟨i0, hi0⟩ := List.exists_mem_of_ne_nil _ hr
      have hi0l : i0 < l.length := by
        obtain ⟨_, o, ho, _⟩ := mem_ready.1 hi0
        have := (Array.getElem?_eq_some_iff.1 ho).1
        simpa using this
      have hun := (mem_ready.1 hi0).1
      have hr' := (small hs hi0l).2 hi0
      refine ⟨(fun h0 => by rw [h0] at hr'; cases hr'), fun i hi => ?_⟩
      have hib := beyond hi
      rcases Nat.lt_or_ge i l.length with h1 | h1
      · have h2 := h.2 i ((small hs h1).1 hi)
        unfold wpOp at h2 ⊢
        rw [op_left h1]
        have hsome : l.toArray[i]? = some l[i] := by simp
        rw [hsome] at h2 ⊢
        simp only at h2 ⊢
        have hg := (lastB_op hz (i := i) (o := l[i]) (by simp)).1
        rw [if_pos (by unfold Region.wanted; rw [hg])] at h2 ⊢
        refine h2.imp (fun h3 => ?_) (fun h3 => ⟨h3.1, h3.2⟩)
        refine Oper.wp_mono (fun a' w' h4 => ?_) (wp_atEnd h3)
        rw [setp (by omega)]
        exact ih _ a' w' (by simpa using hs) h4
      · have e : i = l.length := by omega
        subst e
        have := (zready hs).1 hi i0 hi0l
        rw [Array.getD_eq_getD_getElem?, Array.getElem?_eq_getElem (by omega)] at this hun
        simp at this hun
        rw [this] at hun; cases hun
theorem region_last {id : Nat} {l m : List Oper} {oz : Oper} {Q : Exit → Act → World → Prop} {a : Act} {w : World} {S : World → Prop} (hm : P.follows .mixedOrders = true) (hl : l.getLast? = some oz) (hd : l.dropLast = m) (hz : lastB .any m oz = true) (hS : S w.drew)
    (h : S w.drew → wpAnyH P .any m.toArray (atEnd (fun a w => wpList P #[oz] Q [oz] a w) Q) S m.length (Array.replicate m.length false) a w.drew) : (Code.region id l.toArray true).wp P Q a w := by
  subst hd
  have e : l = l.dropLast ++ [oz] := by
    obtain ⟨r, rfl⟩ := List.getLast?_eq_some_iff.1 hl
    simp
  generalize l.dropLast = m at *
  subst e
  refine wp_region_any hm ?_
  have hF : ∀ a w, wpList P #[oz] Q [oz] a w → oz.wp P a w (Q .normal) Q ∨ (oz.asks P a w ∧ LetsOut Q) := fun a w h => by
    have hg := (lastB_z hz).1
    unfold wpList at h
    rw [if_pos (by unfold Region.wanted; rw [hg])] at h
    exact h
  have := wpAny_last hz hF m.length (Array.replicate m.length false) a _ (by simp) (wpAny_of_held _ _ _ _ (h hS))
  have e1 : (Array.replicate m.length false).push false = Array.replicate (m ++ [oz]).toArray.size false := by simp [Array.replicate_succ]
  rw [e1] at this
  simpa using this
end
end Go.Proofs.YtnmcmologlgccaaGreat
namespace Go.Proofs.YtnmcmologlgccaaGreat
open Go
section
variable {P : Program}
def Closed (md : Region.Mode) (l : List Oper) (listed : Array Bool) : Prop := ∀ i o, l[i]? = some o → listed.getD i true = true → ∀ e ∈ o.after, Region.binds md e = true → listed.getD e.on true = true
theorem closed_none (md : Region.Mode) (l : List Oper) : Closed md l (Array.replicate l.length false) := fun i o ho h => by
  have hi := (List.getElem?_eq_some_iff.1 ho).1
  simp [Array.getD_eq_getD_getElem?, hi] at h
theorem closed_set {md : Region.Mode} {l : List Oper} {listed : Array Bool} {i : Nat} (hi : i < listed.size) (h : Closed md l listed) (hr : i ∈ Region.ready md l.toArray listed) : Closed md l (listed.setIfInBounds i true) := fun k o ho hk e he hb => by
  have mono : ∀ q, listed.getD q true = true → (listed.setIfInBounds i true).getD q true = true := fun q hq => by
    rw [Array.getD_eq_getD_getElem?] at hq ⊢
    rw [Array.getElem?_setIfInBounds]
    split
    · first | rfl | (split <;> simp)
    · exact hq
  obtain ⟨_, o', ho', hall⟩ := mem_ready.1 hr
  by_cases e1 : k = i
  · subst e1
    have : o' = o := by
      have h2 : l[k]? = some o' := by simpa using ho'
      rw [ho] at h2
      injection h2 with h2
      exact h2.symm
    subst this
    have h3 := hall e he hb
    refine mono _ ?_
    rw [Array.getD_eq_getD_getElem?] at h3 ⊢
    cases hq : listed[e.on]? with
    | none => rfl
    | some q => rw [hq] at h3; simpa using h3
  · refine mono _ (h k o ho ?_ e he hb)
    rw [Array.getD_eq_getD_getElem?, Array.getElem?_setIfInBounds, if_neg (fun e => e1 e.symm)] at hk
    rw [Array.getD_eq_getD_getElem?]
    exact hk
end
end Go.Proofs.YtnmcmologlgccaaGreat
