/- Functions that compare slices of numbers, and slices of such slices: they return whether the lists are equal, and only read. No condition beyond those stated. -/
import Derived.Test.YtncknfhfkmmhbaaGreatProg
import Derived.Test.YtncknfhfkmmhbaaGreatZAB
import Derived.Deep.QuietTactic
import Derived.BigQuiet
set_option linter.unusedVariables false
set_option linter.unusedSimpArgs false
namespace Go.Proofs.YtncknfhfkmmhbaaGreat
open Go.RowKit

/-- a call that only reads, and what it returns -/
def Drawn (w w' : World) : Prop := ∃ q, w' = w.drewN q
theorem Drawn.refl (w : World) : Drawn w w := ⟨0, rfl⟩
theorem Drawn.trans {a b c : World} (h : Drawn a b) (k : Drawn b c) : Drawn a c := by
  obtain ⟨p, rfl⟩ := h
  obtain ⟨q, rfl⟩ := k
  exact ⟨p + q, World.drewN_drewN _ _ _⟩
theorem Drawn.more {a b : World} (h : Drawn a b) (q : Nat) : Drawn a (b.drewN q) := h.trans ⟨q, rfl⟩
theorem Drawn.below {a b : World} (h : Drawn a b) : Below a.heap.size a b := by
  obtain ⟨p, rfl⟩ := h
  exact below_drewn _ _
theorem RI.drawn {w w' : World} {A n zs} (h : RI w A n zs) (q : Drawn w w') : RI w' A n zs := h.keep q.below
theorem RR.drawn {w w' : World} {A n zs} (h : RR w A n zs) (q : Drawn w w') : RR w' A n zs := h.keep q.below
def Quiet (w : World) (v : Value) (e : Ending) (w' : World) : Prop := e = .returned v ∧ Drawn w w'
theorem Quiet.of_same {w w' : World} {v : Value} {e : Ending} (h : e = .returned v ∧ w = w') : Quiet w v e w' := ⟨h.1, h.2 ▸ Drawn.refl w⟩
theorem RI.drewN {w : World} {A n zs} (h : RI w A n zs) (q : Nat) : RI (w.drewN q) A n zs := h.keep (below_drewn w q)
theorem RR.drewN {w : World} {A n zs} (h : RR w A n zs) (q : Nat) : RR (w.drewN q) A n zs := h.keep (below_drewn w q)
theorem Quiet.call {P : Program} {f : FuncId} {args : Array Value} {w : World} {n : Nat} {v : Value} (h : Calls P f args (w.drewN n) (Quiet (w.drewN n) v)) :
    Calls P f args (w.drewN n) fun e w'' => e = .returned v ∧ ∃ m, w'' = w.drewN m := Calls.quiet_of (h.mono fun _ _ h => h)

/-- the first k places of two lists agree -/
def upTo (xs ys : List Int) (k : Nat) : Prop := ∀ j, j < k → nth xs j = nth ys j
theorem upTo_all {xs ys : List Int} (h : xs.length = ys.length) (k : upTo xs ys xs.length) : xs = ys := by
  apply List.ext_getElem h
  intro i h1 h2
  have := k i h1
  rwa [nth_get h1, nth_get h2] at this
theorem upTo_step {xs ys : List Int} {k : Nat} (h : upTo xs ys k) (he : nth xs k = nth ys k) : upTo xs ys (k + 1) := fun j hj => by
  rcases Nat.lt_succ_iff_lt_or_eq.1 hj with h' | h'
  · exact h j h'
  · rw [h']; exact he
def upToR (xs ys : List (List Int)) (k : Nat) : Prop := ∀ j, j < k → row xs j = row ys j
theorem upToR_all {xs ys : List (List Int)} (h : xs.length = ys.length) (k : upToR xs ys xs.length) : xs = ys := by
  apply List.ext_getElem h
  intro i h1 h2
  have := k i h1
  rwa [row_get h1, row_get h2] at this
theorem upToR_step {xs ys : List (List Int)} {k : Nat} (h : upToR xs ys k) (he : row xs k = row ys k) : upToR xs ys (k + 1) := fun j hj => by
  rcases Nat.lt_succ_iff_lt_or_eq.1 hj with h' | h'
  · exact h j h'
  · rw [h']; exact he



set_option maxHeartbeats 400000 in
theorem slicesEqual_any (A B : Option Addr) (n m c d : Nat) (xs ys : List Int) (w : World) (ha : RI w A n xs) (hb : RI w B m ys) (hn : n ≤ 9223372036854775807) (hm : m ≤ 9223372036854775807) :
    Calls Tryz.prog 35 #[.slice A n c, .slice B m d] w (Quiet w (.bool (decide (xs = ys)))) := by
  have hla := Lib.hid ha.len
  have hlb := Lib.hid hb.len
  by_cases h : n = m
  · subst h
    go_enter Tryz.func35, Tryz.ntmps35
    go_wp2
    go_loopw [5, 13] (fun _ i wr => ∃ k : Nat, k ≤ n ∧ i = .int .i64 k ∧ Drawn w wr ∧ upTo xs ys k) (fun _ i _ => n - (intOf i).toNat)
    case atStart => exact ⟨0, Nat.zero_le _, rfl, Drawn.refl _, fun _ h => absurd h (by omega)⟩
    case round =>
      obtain ⟨k, hk, rfl, hd, hu⟩ := hrel
      by_cases hlt : k < n
      · obtain ⟨a, rfl, hca, hia⟩ := (ha.drawn hd).get hlt
        obtain ⟨b, rfl, hcb, hib⟩ := (hb.drawn hd).get hlt
        by_cases he : nth xs k = nth ys k
        · have he' : (nth xs k != nth ys k) = false := by simp [he]
          have H := Lib.hid (upTo_step hu he); clear hu he
          go_wp2
          go_quiet (fail)
          go_wp2
          go_roundw
          case rel => exact ⟨k + 1, by omega, by go_num, hd.more _, H.out⟩
          case measure => simp [intOf]; omega
        · have he' : (nth xs k != nth ys k) = true := by simp [he]
          have H := Lib.hid (show decide (xs = ys) = false by simp; rintro rfl; exact he rfl)
          clear he hu
          go_wp2
          go_quiet (fail)
          go_wp2
          go_ret
          exact ⟨by rw [H.out]; rfl, hd.more _⟩
      · have H := Lib.hid (show decide (xs = ys) = true by simp; exact upTo_all (by rw [hla.out, hlb.out]) (fun j hj => hu j (by have := hla.out; omega)))
        clear hu
        go_wp2
        go_ret
        exact ⟨by rw [H.out]; rfl, hd⟩
  · have h' : ((n : Int) != (m : Int)) = true := by simp; omega
    have H := Lib.hid (show decide (xs = ys) = false by simp; rintro rfl; exact h (hla.out.symm.trans hlb.out))
    clear h
    go_enter Tryz.func35, Tryz.ntmps35
    go_wp2
    go_ret
    exact ⟨by rw [H.out]; rfl, Drawn.refl _⟩



set_option maxHeartbeats 400000 in
theorem equalFunc_any (A B : Option Addr) (n m c d : Nat) (xs ys : List (List Int)) (w : World) (ha : RR w A n xs) (hb : RR w B m ys) (hn : n ≤ 9223372036854775807) (hm : m ≤ 9223372036854775807) :
    Calls Tryz.prog 48 #[.slice A n c, .slice B m d, .func (.func 35) #[] #[]] w (Quiet w (.bool (decide (xs = ys)))) := by
  have hla := Lib.hid ha.len
  have hlb := Lib.hid hb.len
  by_cases h : n = m
  · subst h
    go_enter Tryz.func48, Tryz.ntmps48
    go_wp2
    go_loopw [7, 8, 9, 17] (fun _ _ _ i wr => ∃ k : Nat, k ≤ n ∧ i = .int .i64 k ∧ Drawn w wr ∧ upToR xs ys k) (fun _ _ _ i _ => n - (intOf i).toNat)
    case atStart => exact ⟨0, Nat.zero_le _, rfl, Drawn.refl _, fun _ h => absurd h (by omega)⟩
    case round =>
      obtain ⟨k, hk, rfl, hd, hu⟩ := hrel
      by_cases hlt : k < n
      · obtain ⟨a, A1, n1, c1, rfl, hca, hn1, hc1, ha1⟩ := (ha.drawn hd).get hlt
        obtain ⟨b, B1, m1, d1, rfl, hcb, hm1, hd1, hb1⟩ := (hb.drawn hd).get hlt
        by_cases he : row xs k = row ys k
        · have he' : decide (row xs k = row ys k) = true := by simp [he]
          have H := Lib.hid (upToR_step hu he); clear hu he
          go_wp2_with (go_at_call 35; refine (slicesEqual_any A1 B1 n1 m1 c1 d1 (row xs k) (row ys k) _ ha1 hb1 (by omega) (by omega)).mono ?_; rintro e w1 ⟨rfl, hd1⟩)
          go_roundw
          case rel => exact ⟨k + 1, by omega, by go_num, hd.trans hd1, H.out⟩
          case measure => simp [intOf]; omega
        · have he' : decide (row xs k = row ys k) = false := by simp [he]
          have H := Lib.hid (show decide (xs = ys) = false by simp; rintro rfl; exact he rfl)
          clear he hu
          go_wp2_with (go_at_call 35; refine (slicesEqual_any A1 B1 n1 m1 c1 d1 (row xs k) (row ys k) _ ha1 hb1 (by omega) (by omega)).mono ?_; rintro e w1 ⟨rfl, hd1⟩)
          go_ret
          exact ⟨by rw [H.out]; rfl, hd.trans hd1⟩
      · have H := Lib.hid (show decide (xs = ys) = true by simp; exact upToR_all (by rw [hla.out, hlb.out]) (fun j hj => hu j (by have := hla.out; omega)))
        clear hu
        go_wp2
        go_ret
        exact ⟨by rw [H.out]; rfl, hd⟩
  · have h' : ((n : Int) != (m : Int)) = true := by simp; omega
    have H := Lib.hid (show decide (xs = ys) = false by simp; rintro rfl; exact h (hla.out.symm.trans hlb.out))
    clear h
    go_enter Tryz.func48, Tryz.ntmps48
    go_wp2
    go_ret
    exact ⟨by rw [H.out]; rfl, Drawn.refl _⟩
set_option maxHeartbeats 400000 in
theorem areSame_any (A B : Option Addr) (n m c d : Nat) (xs ys : List (List Int)) (w : World) (ha : RR w A n xs) (hb : RR w B m ys) (hn : n ≤ 9223372036854775807) (hm : m ≤ 9223372036854775807) :
    Calls Tryz.prog 30 #[.slice A n c, .slice B m d] w (Quiet w (.bool (decide (xs = ys)))) := by
  go_enter Tryz.func30, Tryz.ntmps30
  go_wp2_with (go_at_call 48; refine (equalFunc_any _ _ _ _ _ _ xs ys _ ha hb hn hm).mono ?_; rintro e w1 ⟨rfl, hd1⟩)
  go_ret
  exact ⟨rfl, hd1⟩
end Go.Proofs.YtncknfhfkmmhbaaGreat
