/- The laws on two squares and a budget. No condition beyond those stated. -/
import Derived.Test.YtdkbcjdimhgmnaaGreatRHI
set_option linter.unusedVariables false
set_option linter.unusedSimpArgs false
namespace Go.Proofs.YtdkbcjdimhgmnaaGreat
open Go.RowKit
set_option maxHeartbeats 1000000 in
theorem impl_IsotopicSquares (A : Option Addr) (n c : Nat) (B : Option Addr) (m d : Nat) (xs ys : List (List Int)) (b : Int) (w : World) (ha : RR w A n xs) (hb : RR w B m ys) (hn : n ≤ 1048576) (hm : m ≤ 1048576) (hc : cells xs ≤ 1099511627776) (hd : cells ys ≤ 1099511627776) :
    Calls Tryz.prog 22 #[.slice A n c, .slice B m d, .int .i64 b] w (fun e w' => e = .returned (.tuple #[.bool (sqR xs ys false b), .int .i64 (sqK xs ys false b)]) ∧ Below w.heap.size w w') := by
  have h := sameSquares_any A n c B m d xs ys false b w ha hb hn hm hc hd
  go_enter Tryz.func22, Tryz.ntmps22
  go_wp2_with fail
  refine h.mono ?_
  rintro e w1 ⟨rfl, hb1⟩
  go_wp2
  go_ret2
  exact ⟨rfl, hb1⟩
set_option maxHeartbeats 1000000 in
theorem impl_SameMainClass (A : Option Addr) (n c : Nat) (B : Option Addr) (m d : Nat) (xs ys : List (List Int)) (b : Int) (w : World) (ha : RR w A n xs) (hb : RR w B m ys) (hn : n ≤ 1048576) (hm : m ≤ 1048576) (hc : cells xs ≤ 1099511627776) (hd : cells ys ≤ 1099511627776) :
    Calls Tryz.prog 23 #[.slice A n c, .slice B m d, .int .i64 b] w (fun e w' => e = .returned (.tuple #[.bool (sqR xs ys true b), .int .i64 (sqK xs ys true b)]) ∧ Below w.heap.size w w') := by
  have h := sameSquares_any A n c B m d xs ys true b w ha hb hn hm hc hd
  go_enter Tryz.func23, Tryz.ntmps23
  go_wp2_with fail
  refine h.mono ?_
  rintro e w1 ⟨rfl, hb1⟩
  go_wp2
  go_ret2
  exact ⟨rfl, hb1⟩
end Go.Proofs.YtdkbcjdimhgmnaaGreat
