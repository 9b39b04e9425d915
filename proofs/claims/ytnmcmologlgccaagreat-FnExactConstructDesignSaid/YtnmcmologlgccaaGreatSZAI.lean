/- Plain law: the search for completions of a partial square: the first one is the least. No program in sight. -/
import Derived.Test.YtnmcmologlgccaaGreatSZAH
set_option linter.unusedVariables false
set_option linter.unusedSimpArgs false
namespace Go.Proofs.YtnmcmologlgccaaGreat
/-! squares as rows; a place written -/
section
variable {n lim : Nat}
end
/-! partial squares -/
def atS (p : List (List Int)) (x y : Nat) : Int := nth (row p x) y
/-! in order -/
end Go.Proofs.YtnmcmologlgccaaGreat
namespace Go.Proofs.YtnmcmologlgccaaGreat
open Go.RowKit
def AskS (g : Nat) (lb : Array Value) (F : Nat → Nat → Int) (n : Nat) (w : World) : Prop :=
  ∀ (x y : Nat) (W : World), Below w.heap.size w W → x < n → y < n → Calls Tryz.prog g (#[.int .i64 x, .int .i64 y] ++ lb) W fun e w' => e = .returned (.int .i64 (F x y)) ∧ Below W.heap.size W w'
def fillR (F : Nat → Nat → Int) (x k : Nat) : List Int := (List.range k).map fun y => F x y
def fillS (F : Nat → Nat → Int) (n k : Nat) : List (List Int) := (List.range k).map fun x => fillR F x n
theorem fillR_step (F : Nat → Nat → Int) (x k : Nat) : fillR F x (k + 1) = fillR F x k ++ [F x k] := by simp [fillR, List.range_succ]
theorem fillS_step (F : Nat → Nat → Int) (n k : Nat) : fillS F n (k + 1) = fillS F n k ++ [fillR F k n] := by simp [fillS, List.range_succ]
theorem fillS_len (F : Nat → Nat → Int) (n k : Nat) : (fillS F n k).length = k := by simp [fillS]
theorem fillR_len (F : Nat → Nat → Int) (x k : Nat) : (fillR F x k).length = k := by simp [fillR]
theorem fillR_nth (F : Nat → Nat → Int) {x y k : Nat} (h : y < k) : nth (fillR F x k) y = F x y := by
  rw [nth_get (by rw [fillR_len]; exact h)]; simp [fillR]
theorem fillS_row (F : Nat → Nat → Int) {x n k : Nat} (h : x < k) : row (fillS F n k) x = fillR F x n := by
  rw [row_get (by rw [fillS_len]; exact h)]; simp [fillS]
set_option maxRecDepth 100000 in
set_option maxHeartbeats 2000000 in
theorem filledSquare_any (g : Nat) (lb : Array Value) (eg : ∀ args w, (callFunc g args).run Tryz.prog w = .ok (.enter g args) w) (F : Nat → Nat → Int) (n : Nat) (w : World) (hn : n ≤ 1000) (hF : ∀ x y, x < n → y < n → I64 (F x y)) (hp : AskS g lb F n w) :
    Calls Tryz.prog 111 #[.int .i64 n, .func (.func g) #[] lb] w fun e w' => ∃ A c, e = .returned (.slice A n c) ∧ OR w' w.heap.size 36 2 A n c (fillS F n n) ∧ Below w.heap.size w w' := by
  have HF := Lib.hid hF
  clear hF
  go_enter Tryz.func111, Tryz.ntmps111
  go_wp2
  go_loopw [5, 6, 7, 8] (fun l i _ _ wr => ∃ (x : Nat) (A : Option Addr) (c : Nat), x ≤ n ∧ i = .int .i64 x ∧ l = .slice A x c ∧ OR wr w.heap.size 36 2 A x c (fillS F n x) ∧ Below w.heap.size w wr) (fun _ i _ _ _ => n - (intOf i).toNat)
  case atStart => exact ⟨0, none, 0, Nat.zero_le _, rfl, rfl, OR.nil_ _ _ (by decide), Below.refl _ _⟩
  case round =>
    obtain ⟨x, A, c, hx, rfl, rfl, ho, hb⟩ := hrel
    by_cases hlt : x < n
    · generalize hwo : wr = wo at *
      clear hwo
      have HO := Lib.hid ho
      have HB := Lib.hid hb
      clear ho hb
      go_wp2
      go_loopw [7, 8] (fun l i wr => ∃ (y : Nat) (R : Option Addr) (rc : Nat), y ≤ n ∧ i = .int .i64 y ∧ l = .slice R y rc ∧ OI wr wo.heap.size 2 R y rc (fillR F x y) ∧ Below wo.heap.size wo wr) (fun _ i _ => n - (intOf i).toNat)
      case atStart => exact ⟨0, none, 0, Nat.zero_le _, rfl, rfl, OI.nil_ _ _ _, Below.refl _ _⟩
      case round =>
        obtain ⟨y, R, rc, hy, rfl, rfl, hor, hbr⟩ := hrel
        by_cases hyl : y < n
        · have hcall := hp x y wr (HB.out.trans (hbr.mono HB.out.size)) hlt hyl
          have h64 := HF.out x y hlt hyl
          have HR := Lib.hid hor
          have HST := Lib.hid (fillR_step F x y)
          generalize F x y = z at *
          clear hor
          go_wp2_with (first | (go_at_fn g; refine hcall.mono ?_; rintro e w4 ⟨rfl, hb4⟩; have HR4 := Lib.hid (HR.out.below hb4); have hbs4 := hb4.size; have hbrs := hbr.size) | (at_builtin; refine app_int _ rfl (.tmp 19) (.tmp 24) rfl wo.heap.size R y rc _ rfl HR4.out z w4.heap.size rfl rfl h64 (by omega) (by omega) ?_; intro A5 c5 w5 ho5 hg5 hf5; have hb5 := Lib.hid (below_own (hbr.trans (hb4.mono hbr.size)) hg5 (by omega) (fun b hb => (HR4.out.os.lt hb).1)); rw [← HST.out] at ho5))
          go_roundw
          case rel => exact ⟨y + 1, A5, c5, by omega, by go_num, rfl, ho5, hb5.out⟩
          case measure => simp [intOf]; omega
        · obtain rfl : y = n := by omega
          obtain ⟨vs, hov0⟩ := HO.out
          have hap := hov0.apart_new (v := (R, y, rc)) (fun b hb => (hor.os.lt hb).1)
          have ho1 := Lib.hid (hov0.below hbr)
          have hrow := Lib.hid (hor.more HB.out.size)
          have hbw := Lib.hid (HB.out.trans (hbr.mono HB.out.size))
          have hbs := hbw.out.size
          have HST := Lib.hid (fillS_step F y x)
          clear hov0 hor hbr
          go_wp2_with (at_builtin; refine app_row _ rfl (.tmp 26) (.tmp 28) rfl w.heap.size A x c vs (fillS F y x) rfl ho1.out (R, y, rc) (fillR F x y) hrow.out hap _ rfl rfl (by omega) hbs ?_; intro A3 c3 w3 ho3 hg3 hn3; have hb3 := Lib.hid (below_own hbw.out hg3 hbs (fun b hb => (ho1.out.os.lt hb).1)); rw [← HST.out] at ho3)
          go_roundw
          case rel => exact ⟨x + 1, A3, c3, by omega, by go_num, rfl, ⟨_, ho3⟩, hb3.out⟩
          case measure => simp [intOf]; omega
    · obtain rfl : x = n := by omega
      go_wp2
      go_ret
      exact ⟨A, c, rfl, ho, hb⟩
end Go.Proofs.YtnmcmologlgccaaGreat
