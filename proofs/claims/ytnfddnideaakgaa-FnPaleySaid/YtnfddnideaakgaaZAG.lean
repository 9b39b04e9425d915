/- Lists compared, and rising lists, on both sides. No condition beyond those stated. -/
import Derived.Test.YtnfddnideaakgaaZAD
import Derived.Test.YtnfddnideaakgaaZAB
import Derived.Test.YtnfddnideaakgaaZAE
set_option linter.unusedVariables false
set_option linter.unusedSimpArgs false
namespace Go.Proofs.Ytnfddnideaakgaa
open Go.RowKit

def sgnI (x y : Int) : Int := if x < y then -1 else if y < x then 1 else 0
set_option maxHeartbeats 400000 in
theorem isNaN_any (x : Int) (w : World) : Calls Try.prog 59 #[.int .i64 x] w fun e w' => e = .returned (.bool false) ∧ w = w' := by
  go_enter Try.func59, Try.ntmps59
  go_wp2
  go_ret
  exact ⟨ret_bool (by simp), rfl⟩
set_option maxHeartbeats 400000 in
theorem cmpCompare_any (x y : Int) (w : World) : Calls Try.prog 46 #[.int .i64 x, .int .i64 y] w fun e w' => e = .returned (.int .i64 (sgnI x y)) ∧ w = w' := by
  by_cases h1 : x < y
  · have H := Lib.hid (show sgnI x y = -1 by simp [sgnI, h1])
    go_enter Try.func46, Try.ntmps46
    go_wp2_with (go_at_call 59; refine (isNaN_any _ _).mono ?_; rintro e w' ⟨rfl, rfl⟩)
    go_ret
    exact ⟨by rw [H.out]; rfl, rfl⟩
  · by_cases h2 : y < x
    · have H := Lib.hid (show sgnI x y = 1 by simp [sgnI, h1, h2])
      have h1' : y ≤ x := by omega
      go_enter Try.func46, Try.ntmps46
      go_wp2_with (go_at_call 59; refine (isNaN_any _ _).mono ?_; rintro e w' ⟨rfl, rfl⟩)
      go_ret
      exact ⟨by rw [H.out]; rfl, rfl⟩
    · have H := Lib.hid (show sgnI x y = 0 by simp [sgnI, h1, h2])
      go_enter Try.func46, Try.ntmps46
      go_wp2_with (go_at_call 59; refine (isNaN_any _ _).mono ?_; rintro e w' ⟨rfl, rfl⟩)
      go_ret
      exact ⟨by rw [H.out]; rfl, rfl⟩
set_option maxHeartbeats 1000000 in
theorem slicesCompare_any (A B : Option Addr) (n m c d : Nat) (xs ys : List Int) (w : World) (ha : RI w A n xs) (hb : RI w B m ys) (hn : n ≤ 9223372036854775807) (hm : m ≤ 9223372036854775807) :
    Calls Try.prog 31 #[.slice A n c, .slice B m d] w fun e w' => e = .returned (.int .i64 (cmpL xs ys)) ∧ w = w' := by
  have hla := Lib.hid ha.len
  have hlb := Lib.hid hb.len
  go_enter Try.func31, Try.ntmps31
  go_wp2
  go_loop [11] (fun i => ∃ k : Nat, k ≤ n ∧ i = .int .i64 k ∧ agree xs ys k) (fun i => n - (intOf i).toNat)
  case atStart => exact ⟨0, Nat.zero_le _, rfl, agree_zero _ _⟩
  case round =>
    obtain ⟨k, hk, rfl, hag⟩ := hrel
    by_cases hlt : k < n
    · obtain ⟨a, rfl, hca, hia⟩ := ha.get hlt
      by_cases hltm : k < m
      · obtain ⟨b, rfl, hcb, hib⟩ := hb.get hltm
        have l1 : k < xs.length := by rw [hla.out]; exact hlt
        have l2 : k < ys.length := by rw [hlb.out]; exact hltm
        by_cases h1 : nth xs k < nth ys k
        · have H := Lib.hid (cmpL_lt hag l1 l2 h1)
          have HS := Lib.hid (show sgnI (nth xs k) (nth ys k) = -1 by simp [sgnI, h1])
          clear hag h1 l1 l2
          go_wp2_with (go_at_call 46; refine (cmpCompare_any _ _ _).mono ?_; rintro e w' ⟨rfl, rfl⟩; rw [HS.out])
          go_ret
          exact ⟨by rw [H.out]; rfl, rfl⟩
        · by_cases h2 : nth ys k < nth xs k
          · have H := Lib.hid (cmpL_gt hag l1 l2 h2)
            have HS := Lib.hid (show sgnI (nth xs k) (nth ys k) = 1 by simp [sgnI, h1, h2])
            clear hag h1 h2 l1 l2
            go_wp2_with (go_at_call 46; refine (cmpCompare_any _ _ _).mono ?_; rintro e w' ⟨rfl, rfl⟩; rw [HS.out])
            go_ret
            exact ⟨by rw [H.out]; rfl, rfl⟩
          · have H := Lib.hid (agree_step hag l1 l2 (by omega))
            have HS := Lib.hid (show sgnI (nth xs k) (nth ys k) = 0 by simp [sgnI, h1, h2])
            clear hag h1 h2 l1 l2
            go_wp2_with (go_at_call 46; refine (cmpCompare_any _ _ _).mono ?_; rintro e w' ⟨rfl, rfl⟩; rw [HS.out])
            go_round
            case rel => exact ⟨k + 1, by omega, by go_num, H.out⟩
            case measure => simp [intOf]; omega
      · have hkm : m ≤ k := by omega
        have H := Lib.hid (show cmpL xs ys = 1 by
          have : k = m := by have := hag.2.1; rw [hlb.out] at this; omega
          refine cmpL_long ?_ (by rw [hla.out, hlb.out]; omega)
          rw [hlb.out, ← this]; exact hag)
        clear hag
        go_wp2
        go_ret
        exact ⟨by rw [H.out]; rfl, rfl⟩
    · obtain rfl : k = n := by omega
      by_cases hltm : k < m
      · have H := Lib.hid (show cmpL xs ys = -1 from cmpL_short (by rw [hla.out]; exact hag) (by rw [hla.out, hlb.out]; exact hltm))
        clear hag
        go_wp2
        go_ret
        exact ⟨by rw [H.out]; rfl, rfl⟩
      · have hkm : m ≤ k := by omega
        have H := Lib.hid (show cmpL xs ys = 0 from cmpL_same (by rw [hla.out]; exact hag) (by rw [hla.out, hlb.out]; have := hag.2.1; rw [hlb.out] at this; omega))
        clear hag
        go_wp2
        go_ret
        exact ⟨by rw [H.out]; rfl, rfl⟩
set_option maxHeartbeats 1000000 in
theorem compareLists_any (A B : Option Addr) (n m c d : Nat) (xs ys : List Int) (w : World) (ha : RI w A n xs) (hb : RI w B m ys) (hn : n ≤ 9223372036854775807) (hm : m ≤ 9223372036854775807) :
    Calls Try.prog 55 #[.slice A n c, .slice B m d] w (Quiet w (.int .i64 (cmpL xs ys))) := by
  have hla := Lib.hid ha.len
  have hlb := Lib.hid hb.len
  go_enter Try.func55, Try.ntmps55
  go_wp2
  go_loopw [5] (fun i wr => ∃ k : Nat, k ≤ n ∧ i = .int .i64 k ∧ Drawn w wr ∧ agree xs ys k) (fun i _ => n - (intOf i).toNat)
  case atStart => exact ⟨0, Nat.zero_le _, rfl, Drawn.refl _, agree_zero _ _⟩
  case round =>
    obtain ⟨k, hk, rfl, hd, hag⟩ := hrel
    by_cases hlt : k < n
    · obtain ⟨a, rfl, hca, hia⟩ := (ha.drawn hd).get hlt
      by_cases hltm : k < m
      · obtain ⟨b, rfl, hcb, hib⟩ := (hb.drawn hd).get hltm
        have l1 : k < xs.length := by rw [hla.out]; exact hlt
        have l2 : k < ys.length := by rw [hlb.out]; exact hltm
        by_cases h1 : nth xs k < nth ys k
        · have H := Lib.hid (cmpL_lt hag l1 l2 h1)
          clear hag l1 l2
          go_wp2
          go_quiet (fail)
          go_wp2
          go_ret
          exact ⟨by rw [H.out]; rfl, hd.more _⟩
        · have h1' : nth ys k ≤ nth xs k := by omega
          by_cases h2 : nth ys k < nth xs k
          · have H := Lib.hid (cmpL_gt hag l1 l2 h2)
            clear hag l1 l2
            go_wp2
            go_quiet (fail)
            go_wp2
            go_quiet (fail)
            go_wp2
            go_ret
            exact ⟨by rw [H.out]; rfl, by first | exact hd.more _ | exact (hd.more _).more _⟩
          · have h2' : nth xs k ≤ nth ys k := by omega
            have H := Lib.hid (agree_step hag l1 l2 (by omega))
            clear hag l1 l2
            go_wp2
            go_quiet (fail)
            go_wp2
            go_quiet (fail)
            go_wp2
            go_roundw
            case rel => exact ⟨k + 1, by omega, by go_num, by first | exact hd.more _ | exact (hd.more _).more _, H.out⟩
            case measure => simp [intOf]; omega
      · have hkm : m ≤ k := by omega
        have hmn : m < n := by omega
        have H := Lib.hid (show cmpL xs ys = 1 by
          have : k = m := by have := hag.2.1; rw [hlb.out] at this; omega
          refine cmpL_long ?_ (by rw [hla.out, hlb.out]; omega)
          rw [hlb.out, ← this]; exact hag)
        clear hag
        go_wp2
        go_ret
        exact ⟨by rw [H.out]; rfl, hd⟩
    · obtain rfl : k = n := by omega
      by_cases hltm : k < m
      · have H := Lib.hid (show cmpL xs ys = -1 from cmpL_short (by rw [hla.out]; exact hag) (by rw [hla.out, hlb.out]; exact hltm))
        clear hag
        go_wp2
        go_ret
        exact ⟨by rw [H.out]; rfl, hd⟩
      · have hkm : m ≤ k := by omega
        have hkm2 : k ≤ m := by have := hag.2.1; rw [hlb.out] at this; omega
        have H := Lib.hid (show cmpL xs ys = 0 from cmpL_same (by rw [hla.out]; exact hag) (by rw [hla.out, hlb.out]; omega))
        clear hag
        go_wp2
        go_ret
        exact ⟨by rw [H.out]; rfl, hd⟩

/-- the first k places rise -/
def risesTo (z : List Int) (lo hi : Int) (k : Nat) : Prop := (∀ j, j < k → lo ≤ nth z j ∧ nth z j ≤ hi) ∧ ∀ j, j + 1 < k → nth z j < nth z (j + 1)
theorem risesTo_zero (z : List Int) (lo hi : Int) : risesTo z lo hi 0 := ⟨fun _ h => absurd h (by omega), fun _ h => absurd h (by omega)⟩
theorem risesTo_step {z : List Int} {lo hi : Int} {k : Nat} (h : risesTo z lo hi k) (h1 : lo ≤ nth z k ∧ nth z k ≤ hi) (h2 : 0 < k → nth z (k - 1) < nth z k) : risesTo z lo hi (k + 1) :=
  ⟨fun j hj => by
    rcases Nat.lt_succ_iff_lt_or_eq.1 hj with h' | h'
    · exact h.1 j h'
    · rw [h']; exact h1,
   fun j hj => by
    rcases Nat.lt_succ_iff_lt_or_eq.1 hj with h' | h'
    · exact h.2 j h'
    · have := h2 (by omega)
      have e : k = j + 1 := h'.symm
      subst e
      simpa using this⟩
theorem risesTo_all {z : List Int} {lo hi : Int} {k : Nat} (hk : z.length = k) (h : risesTo z lo hi k) : Rises z lo hi := ⟨by rw [hk]; exact h.1, by rw [hk]; exact h.2⟩
set_option maxHeartbeats 1000000 in
theorem l00Rises_any (A : Option Addr) (n c : Nat) (z : List Int) (lo hi : Int) (w : World) (ha : RI w A n z) (hn : n ≤ 9223372036854775807) :
    Calls Try.prog 71 #[.slice A n c, .int .i64 lo, .int .i64 hi] w (Quiet w (.bool (tB (Rises z lo hi)))) := by
  have hla := Lib.hid ha.len
  go_enter Try.func71, Try.ntmps71
  go_wp2
  go_loopw [7] (fun i wr => ∃ k : Nat, k ≤ n ∧ i = .int .i64 k ∧ Drawn w wr ∧ risesTo z lo hi k) (fun i _ => n - (intOf i).toNat)
  case atStart => exact ⟨0, Nat.zero_le _, rfl, Drawn.refl _, risesTo_zero _ _ _⟩
  case round =>
    obtain ⟨k, hk, rfl, hd, hr⟩ := hrel
    by_cases hlt : k < n
    · obtain ⟨a, rfl, hca, hia⟩ := (ha.drawn hd).get hlt
      cases h1 : inB (nth z k) lo hi with
      | true =>
        have hin := Lib.hid (inB_true h1)
        have hcall : ∀ q, Calls Try.prog 53 #[.int .i64 (nth z k), .int .i64 lo, .int .i64 hi] (wr.drewN q) (Quiet (wr.drewN q) (.bool true)) := fun q => by
          rw [← h1]; exact (l00In_any _ _ _ _).mono fun _ _ h => Quiet.of_same h
        clear h1
        by_cases h0 : k ≤ 0
        · have g1 : decide ((0 : Int) < (k : Int)) = false := by simp; omega
          have g2 : decide (0 < k) = false := by simp; omega
          have H := Lib.hid (risesTo_step hr hin.out (fun h => absurd h (by omega)))
          clear hr
          go_wp2
          go_quiet ((go_at_call 53; exact Quiet.call (hcall _)))
          go_wp2
          go_roundw
          case rel => exact ⟨k + 1, by omega, by go_num, hd.more _, H.out⟩
          case measure => simp [intOf]; omega
        · have h0' : 0 < k := by omega
          obtain ⟨a', ha', hcb, hib⟩ := (ha.drawn hd).get (show k - 1 < n by omega)
          obtain rfl : a = a' := by injection ha'
          clear ha' h0
          have e1 : IntKind.i64.wrap ((k : Int) - 1) = (k : Int) - 1 := IntWalk.i64_in _ (by omega)
          have e2 : ((k : Int) - 1).toNat = k - 1 := by omega
          have e3 : (0 : Int) ≤ (k : Int) - 1 := by omega
          by_cases h2 : nth z (k - 1) < nth z k
          · have h2' : decide (nth z k ≤ nth z (k - 1)) = false := by simp; omega
            have H := Lib.hid (risesTo_step hr hin.out (fun _ => h2))
            clear hr
            go_wp2
            go_quiet ((go_at_call 53; exact Quiet.call (hcall _)))
            clear e1 e2 e3
            go_wp2
            go_roundw
            case rel => exact ⟨k + 1, by omega, by go_num, hd.more _, H.out⟩
            case measure => simp [intOf]; omega
          · have h2' : decide (nth z k ≤ nth z (k - 1)) = true := by simp; omega
            have H := Lib.hid (show tB (Rises z lo hi) = false from tB_no fun hh => by
              have := hh.up (k - 1) (by rw [hla.out]; omega)
              rw [show k - 1 + 1 = k by omega] at this
              exact h2 this)
            clear hr
            go_wp2
            go_quiet ((go_at_call 53; exact Quiet.call (hcall _)))
            clear e1 e2 e3
            go_wp2
            go_ret
            exact ⟨by rw [H.out]; rfl, hd.more _⟩
      | false =>
        have H := Lib.hid (show tB (Rises z lo hi) = false from tB_no fun hh => by
          have := hh.bd k (by rw [hla.out]; exact hlt)
          rw [inB_mk this] at h1
          cases h1)
        have hcall : ∀ q, Calls Try.prog 53 #[.int .i64 (nth z k), .int .i64 lo, .int .i64 hi] (wr.drewN q) (Quiet (wr.drewN q) (.bool false)) := fun q => by
          rw [← h1]; exact (l00In_any _ _ _ _).mono fun _ _ h => Quiet.of_same h
        clear hr h1
        go_wp2
        go_quiet ((go_at_call 53; exact Quiet.call (hcall _)))
        go_wp2
        go_ret
        exact ⟨by rw [H.out]; rfl, hd.more _⟩
    · have H := Lib.hid (show tB (Rises z lo hi) = true from tB_yes (risesTo_all hla.out (by rwa [show k = n by omega] at hr)))
      clear hr
      go_wp2
      go_ret
      exact ⟨by rw [H.out]; rfl, hd⟩
end Go.Proofs.Ytnfddnideaakgaa
/- What the laws' own helpers do with rows: mark them, hold them against marks, compare two that read alike. No condition beyond those stated. -/
namespace Go.Proofs.Ytnfddnideaakgaa
open Go.RowKit

theorem lens_cells (zss : List (List Int)) {k : Nat} (h : k ≤ zss.length) : lens zss k = cells (zss.take k) := by
  induction k with
  | zero => simp [lens, cells]
  | succ k ih => rw [lens, ih (by omega), cells_take zss h]
theorem bulk_cells (zss : List (List Int)) : bulk zss = zss.length + cells zss := by
  unfold bulk
  rw [lens_cells zss (Nat.le_refl _), List.take_length]
theorem OI.setMid {w : World} {B : Nat} {e : TypeId} {A : Option Addr} {n c : Nat} {zs ys : List Int} {w' : World} (h : OI w B e A n c zs) (_ : OI w' B e A n c ys) (hg : w.grownBy w' (blk A)) {D : Nat} (hD : ∀ b, blk A = some b → b < D) : Mid w w' B D :=
  Mid.grown hg fun b hb => ⟨(h.os.lt hb).1, hD b hb⟩



end Go.Proofs.Ytnfddnideaakgaa
/- Objects: made, copied, marked, held and compared. No condition beyond those stated. -/
namespace Go.Proofs.Ytnfddnideaakgaa
open Go.RowKit

theorem bcell {W w1 : World} (hb : Below W.heap.size W w1) : (∀ b o, b < W.heap.size → w1.cell? ⟨b, o, none⟩ = W.cell? ⟨b, o, none⟩) ∧ (∀ b o, b < W.heap.size → w1.frozen? ⟨b, o, none⟩ = W.frozen? ⟨b, o, none⟩) :=
  ⟨fun b o h => hb.cell (p := ⟨b, o, none⟩) h, fun b o h => hb.frozen (p := ⟨b, o, none⟩) h⟩
/-- an object whose rows lie in memory of the call's own -/
def RetO (w : World) (k s : Int) (zss : List (List Int)) (en : Ending) (w' : World) : Prop :=
  ∃ A n c, en = .returned (.agg #[.int .i64 k, .int .i64 s, .slice A n c]) ∧ OR w' w.heap.size 23 2 A n c zss ∧ Below w.heap.size w w'
/-- the same, and a code -/
def RetOC (w : World) (k s : Int) (zss : List (List Int)) (code : Int) (en : Ending) (w' : World) : Prop :=
  ∃ A n c, en = .returned (.tuple #[.agg #[.int .i64 k, .int .i64 s, .slice A n c], .int .i64 code]) ∧ OR w' w.heap.size 23 2 A n c zss ∧ Below w.heap.size w w'

end Go.Proofs.Ytnfddnideaakgaa
