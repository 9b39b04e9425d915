/- The laws on two squares and a budget. No condition beyond those stated. -/
import Derived.Test.YtaphmapkobbfbaaGreatGB
import Derived.Test.YtaphmapkobbfbaaGreatGC
import Derived.Test.YtaphmapkobbfbaaGreatHI
set_option linter.unusedVariables false
set_option linter.unusedSimpArgs false
namespace Go.Proofs.YtaphmapkobbfbaaGreat
open Go.RowKit

theorem dec_selfQ (q : List (List Int)) : decide (q = q) = true := by simp
theorem szF_yes {l t : Int} (h : t ≤ l) : szF l t = l - t := by simp [szF, h]
theorem szF_no {l t : Int} (h : ¬ t ≤ l) : szF l t = -1 := by simp [szF, h]
set_option maxRecDepth 100000 in
set_option maxHeartbeats 2000000 in
theorem law_IsotopicSquares_ok (A : Option Addr) (n c : Nat) (B : Option Addr) (m d : Nat) (xs ys : List (List Int)) (b : Int) (w : World) (ha : RR w A n xs) (hb : RR w B m ys) (hs : (bulk xs : Int) ≤ 1048576) (hs' : (bulk ys : Int) ≤ 1048576 - bulk xs) (r : Bool) (cd : Int)
    (hspec : (∀ (A : Option Addr) (n c : Nat) (B : Option Addr) (m d : Nat) (w : World), RR w A n xs → RR w B m ys → n ≤ 1048576 → m ≤ 1048576 → Calls Tryz.prog 14 #[.slice A n c, .slice B m d, .int .i64 b] w (fun e w' => e = .returned (.tuple #[.bool r, .int .i64 cd]) ∧ Below w.heap.size w w')))
    (himpl : (∀ (A : Option Addr) (n c : Nat) (B : Option Addr) (m d : Nat) (w : World), RR w A n xs → RR w B m ys → n ≤ 1048576 → m ≤ 1048576 → Calls Tryz.prog 16 #[.slice A n c, .slice B m d, .int .i64 b] w (fun e w' => e = .returned (.tuple #[.bool r, .int .i64 cd]) ∧ Below w.heap.size w w'))) :
    Calls Tryz.prog 4 #[.slice A n c, .slice B m d, .int .i64 b] w fun e w' => e = .returned (.bool true) ∧ Below w.heap.size w w' := by
  have hbx := bulk_eq ha
  have hby := bulk_eq hb
  have E1 := Lib.hid (szF_yes hs)
  have E2 := Lib.hid (szF_yes hs')
  obtain ⟨z1, z2, z3, z4⟩ : n ≤ 1048576 ∧ m ≤ 1048576 ∧ lens xs n ≤ 1048576 ∧ lens ys m ≤ 1048576 := by omega
  have hp1 : (0 : Int) ≤ 1048576 - bulk xs ∧ (1048576 - bulk xs : Int) ≤ 1048576 := by omega
  have hp2 : (0 : Int) ≤ 1048576 - bulk xs - bulk ys := by omega
  generalize hk1 : (1048576 - (bulk xs : Int)) = k1 at *
  generalize hk2 : (k1 - (bulk ys : Int)) = k2 at *
  have HS := Lib.hid hspec
  have HI := Lib.hid himpl
  obtain ⟨hp1, hp1'⟩ := hp1
  clear hk1 hk2 hspec himpl hbx hby hs hs'
  go_enter Tryz.func4, Tryz.ntmps4
  go_wp2_with fail
  refine (szInt64SS_any A n c 1048576 xs _ ha (by omega) (by omega) (by omega)).mono ?_
  rintro e w' ⟨rfl, rfl⟩
  rw [E1.out]
  go_wp2_with fail
  refine (szInt64SS_any B m d k1 ys _ hb (by omega) (by omega) (by omega)).mono ?_
  rintro e w' ⟨rfl, rfl⟩
  rw [E2.out]
  go_wp2_with fail
  refine (toInt64SS_any A n c xs _ ha (by omega) (by omega)).mono ?_
  rintro e w1 ⟨A1, n1, c1, rfl, ho1, hb1⟩
  have k11 : n1 ≤ 1048576 := by have := ho1.len; have := ha.len; omega
  go_wp2_with fail
  refine (toInt64SS_any B m d ys _ (hb.keep hb1) (by omega) (by omega)).mono ?_
  rintro e w2 ⟨A2, n2, c2, rfl, ho2, hb2⟩
  have k22 : n2 ≤ 1048576 := by have := ho2.len; have := hb.len; omega
  go_wp2_with fail
  refine (HS.out A1 n1 c1 A2 n2 c2 _ (ho1.reads.keep hb2) ho2.reads (by omega) (by omega)).mono ?_
  rintro e w3 ⟨rfl, hb3⟩
  have b3 := below_then (below_then hb1 hb2) hb3
  clear ho1 ho2 hb1 hb2 hb3
  go_wp2_with fail
  refine (toInt64SS_any A n c xs _ (ha.keep b3) (by omega) (by omega)).mono ?_
  rintro e w4 ⟨A4, n4, c4, rfl, ho4, hb4⟩
  have k44 : n4 ≤ 1048576 := by have := ho4.len; have := ha.len; omega
  have b4 := below_then b3 hb4
  go_wp2_with fail
  refine (toInt64SS_any B m d ys _ (hb.keep b4) (by omega) (by omega)).mono ?_
  rintro e w5 ⟨A5, n5, c5, rfl, ho5, hb5⟩
  have k55 : n5 ≤ 1048576 := by have := ho5.len; have := hb.len; omega
  have b5 := below_then b4 hb5
  have r4 := ho4.reads.keep hb5
  have r5 := ho5.reads
  clear b3 hb4 ho4 b4 hb5 ho5
  go_wp2_with fail
  refine (HI.out A4 n4 c4 A5 n5 c5 _ r4 r5 (by omega) (by omega)).mono ?_
  rintro e w6 ⟨rfl, hb6⟩
  have b6 := below_then b5 hb6
  have r4 := r4.keep hb6
  have r5 := r5.keep hb6
  clear b5 hb6
  go_wp2_with fail
  refine (toInt64SS_any A n c xs _ (ha.keep b6) (by omega) (by omega)).mono ?_
  rintro e w7 ⟨A7, n7, c7, rfl, ho7, hb7⟩
  have k77 : n7 ≤ 1048576 := by have := ho7.len; have := ha.len; omega
  have b7 := below_then b6 hb7
  have r5 := r5.keep hb7
  have hq := eqInt64SS_any A4 A7 n4 n7 c4 c7 xs xs w7 (r4.keep hb7) ho7.reads (by omega) (by omega)
  rw [dec_selfQ] at hq
  clear b6 r4 ho7 hb7
  go_wp2_with fail
  refine hq.mono ?_
  rintro e w8 ⟨rfl, hd8⟩
  have b8 := below_then b7 hd8.below
  have r5 := r5.keep hd8.below
  clear b7 hd8 hq
  go_wp2_with fail
  refine (toInt64SS_any B m d ys _ (hb.keep b8) (by omega) (by omega)).mono ?_
  rintro e w9 ⟨A9, n9, c9, rfl, ho9, hb9⟩
  have k99 : n9 ≤ 1048576 := by have := ho9.len; have := hb.len; omega
  have b9 := below_then b8 hb9
  have hq := eqInt64SS_any A5 A9 n5 n9 c5 c9 ys ys w9 (r5.keep hb9) ho9.reads (by omega) (by omega)
  rw [dec_selfQ] at hq
  clear b8 r5 ho9 hb9
  go_wp2_with fail
  refine hq.mono ?_
  rintro e w10 ⟨rfl, hd10⟩
  go_wp2
  go_ret
  exact ⟨rfl, below_then b9 hd10.below⟩
set_option maxHeartbeats 1000000 in
theorem law_IsotopicSquares_big (A : Option Addr) (n c : Nat) (B : Option Addr) (m d : Nat) (xs ys : List (List Int)) (b : Int) (w : World) (ha : RR w A n xs) (hb : RR w B m ys) (hn : n ≤ 9223372036854775807) (hm : m ≤ 9223372036854775807) (hs : ¬ ((bulk xs : Int) ≤ 1048576 ∧ (bulk ys : Int) ≤ 1048576 - bulk xs)) :
    Calls Tryz.prog 4 #[.slice A n c, .slice B m d, .int .i64 b] w fun e w' => e = .returned (.bool true) ∧ Below w.heap.size w w' := by
  by_cases h1 : (bulk xs : Int) ≤ 1048576
  · have h2 : ¬ (bulk ys : Int) ≤ 1048576 - bulk xs := fun h => hs ⟨h1, h⟩
    have E1 := Lib.hid (szF_yes h1)
    have E2 := Lib.hid (szF_no h2)
    have hp1 : (0 : Int) ≤ 1048576 - bulk xs ∧ (1048576 - bulk xs : Int) ≤ 1048576 := by omega
    generalize hk1 : (1048576 - (bulk xs : Int)) = k1 at *
    obtain ⟨hp1, hp1'⟩ := hp1
    clear hs h1 h2 hk1
    go_enter Tryz.func4, Tryz.ntmps4
    go_wp2_with fail
    refine (szInt64SS_any A n c 1048576 xs _ ha (by omega) (by omega) (by omega)).mono ?_
    rintro e w' ⟨rfl, rfl⟩
    rw [E1.out]
    go_wp2_with fail
    refine (szInt64SS_any B m d k1 ys _ hb (by omega) (by omega) (by omega)).mono ?_
    rintro e w' ⟨rfl, rfl⟩
    rw [E2.out]
    go_wp2
    go_ret
    exact ⟨rfl, Below.refl _ _⟩
  · have E1 := Lib.hid (szF_no h1)
    clear hs h1
    go_enter Tryz.func4, Tryz.ntmps4
    go_wp2_with fail
    refine (szInt64SS_any A n c 1048576 xs _ ha (by omega) (by omega) (by omega)).mono ?_
    rintro e w' ⟨rfl, rfl⟩
    rw [E1.out]
    go_wp2
    go_ret
    exact ⟨rfl, Below.refl _ _⟩
set_option maxRecDepth 100000 in
set_option maxHeartbeats 2000000 in
theorem law_SameMainClass_ok (A : Option Addr) (n c : Nat) (B : Option Addr) (m d : Nat) (xs ys : List (List Int)) (b : Int) (w : World) (ha : RR w A n xs) (hb : RR w B m ys) (hs : (bulk xs : Int) ≤ 1048576) (hs' : (bulk ys : Int) ≤ 1048576 - bulk xs) (r : Bool) (cd : Int)
    (hspec : (∀ (A : Option Addr) (n c : Nat) (B : Option Addr) (m d : Nat) (w : World), RR w A n xs → RR w B m ys → n ≤ 1048576 → m ≤ 1048576 → Calls Tryz.prog 18 #[.slice A n c, .slice B m d, .int .i64 b] w (fun e w' => e = .returned (.tuple #[.bool r, .int .i64 cd]) ∧ Below w.heap.size w w')))
    (himpl : (∀ (A : Option Addr) (n c : Nat) (B : Option Addr) (m d : Nat) (w : World), RR w A n xs → RR w B m ys → n ≤ 1048576 → m ≤ 1048576 → Calls Tryz.prog 19 #[.slice A n c, .slice B m d, .int .i64 b] w (fun e w' => e = .returned (.tuple #[.bool r, .int .i64 cd]) ∧ Below w.heap.size w w'))) :
    Calls Tryz.prog 5 #[.slice A n c, .slice B m d, .int .i64 b] w fun e w' => e = .returned (.bool true) ∧ Below w.heap.size w w' := by
  have hbx := bulk_eq ha
  have hby := bulk_eq hb
  have E1 := Lib.hid (szF_yes hs)
  have E2 := Lib.hid (szF_yes hs')
  obtain ⟨z1, z2, z3, z4⟩ : n ≤ 1048576 ∧ m ≤ 1048576 ∧ lens xs n ≤ 1048576 ∧ lens ys m ≤ 1048576 := by omega
  have hp1 : (0 : Int) ≤ 1048576 - bulk xs ∧ (1048576 - bulk xs : Int) ≤ 1048576 := by omega
  have hp2 : (0 : Int) ≤ 1048576 - bulk xs - bulk ys := by omega
  generalize hk1 : (1048576 - (bulk xs : Int)) = k1 at *
  generalize hk2 : (k1 - (bulk ys : Int)) = k2 at *
  have HS := Lib.hid hspec
  have HI := Lib.hid himpl
  obtain ⟨hp1, hp1'⟩ := hp1
  clear hk1 hk2 hspec himpl hbx hby hs hs'
  go_enter Tryz.func5, Tryz.ntmps5
  go_wp2_with fail
  refine (szInt64SS_any A n c 1048576 xs _ ha (by omega) (by omega) (by omega)).mono ?_
  rintro e w' ⟨rfl, rfl⟩
  rw [E1.out]
  go_wp2_with fail
  refine (szInt64SS_any B m d k1 ys _ hb (by omega) (by omega) (by omega)).mono ?_
  rintro e w' ⟨rfl, rfl⟩
  rw [E2.out]
  go_wp2_with fail
  refine (toInt64SS_any A n c xs _ ha (by omega) (by omega)).mono ?_
  rintro e w1 ⟨A1, n1, c1, rfl, ho1, hb1⟩
  have k11 : n1 ≤ 1048576 := by have := ho1.len; have := ha.len; omega
  go_wp2_with fail
  refine (toInt64SS_any B m d ys _ (hb.keep hb1) (by omega) (by omega)).mono ?_
  rintro e w2 ⟨A2, n2, c2, rfl, ho2, hb2⟩
  have k22 : n2 ≤ 1048576 := by have := ho2.len; have := hb.len; omega
  go_wp2_with fail
  refine (HS.out A1 n1 c1 A2 n2 c2 _ (ho1.reads.keep hb2) ho2.reads (by omega) (by omega)).mono ?_
  rintro e w3 ⟨rfl, hb3⟩
  have b3 := below_then (below_then hb1 hb2) hb3
  clear ho1 ho2 hb1 hb2 hb3
  go_wp2_with fail
  refine (toInt64SS_any A n c xs _ (ha.keep b3) (by omega) (by omega)).mono ?_
  rintro e w4 ⟨A4, n4, c4, rfl, ho4, hb4⟩
  have k44 : n4 ≤ 1048576 := by have := ho4.len; have := ha.len; omega
  have b4 := below_then b3 hb4
  go_wp2_with fail
  refine (toInt64SS_any B m d ys _ (hb.keep b4) (by omega) (by omega)).mono ?_
  rintro e w5 ⟨A5, n5, c5, rfl, ho5, hb5⟩
  have k55 : n5 ≤ 1048576 := by have := ho5.len; have := hb.len; omega
  have b5 := below_then b4 hb5
  have r4 := ho4.reads.keep hb5
  have r5 := ho5.reads
  clear b3 hb4 ho4 b4 hb5 ho5
  go_wp2_with fail
  refine (HI.out A4 n4 c4 A5 n5 c5 _ r4 r5 (by omega) (by omega)).mono ?_
  rintro e w6 ⟨rfl, hb6⟩
  have b6 := below_then b5 hb6
  have r4 := r4.keep hb6
  have r5 := r5.keep hb6
  clear b5 hb6
  go_wp2_with fail
  refine (toInt64SS_any A n c xs _ (ha.keep b6) (by omega) (by omega)).mono ?_
  rintro e w7 ⟨A7, n7, c7, rfl, ho7, hb7⟩
  have k77 : n7 ≤ 1048576 := by have := ho7.len; have := ha.len; omega
  have b7 := below_then b6 hb7
  have r5 := r5.keep hb7
  have hq := eqInt64SS_any A4 A7 n4 n7 c4 c7 xs xs w7 (r4.keep hb7) ho7.reads (by omega) (by omega)
  rw [dec_selfQ] at hq
  clear b6 r4 ho7 hb7
  go_wp2_with fail
  refine hq.mono ?_
  rintro e w8 ⟨rfl, hd8⟩
  have b8 := below_then b7 hd8.below
  have r5 := r5.keep hd8.below
  clear b7 hd8 hq
  go_wp2_with fail
  refine (toInt64SS_any B m d ys _ (hb.keep b8) (by omega) (by omega)).mono ?_
  rintro e w9 ⟨A9, n9, c9, rfl, ho9, hb9⟩
  have k99 : n9 ≤ 1048576 := by have := ho9.len; have := hb.len; omega
  have b9 := below_then b8 hb9
  have hq := eqInt64SS_any A5 A9 n5 n9 c5 c9 ys ys w9 (r5.keep hb9) ho9.reads (by omega) (by omega)
  rw [dec_selfQ] at hq
  clear b8 r5 ho9 hb9
  go_wp2_with fail
  refine hq.mono ?_
  rintro e w10 ⟨rfl, hd10⟩
  go_wp2
  go_ret
  exact ⟨rfl, below_then b9 hd10.below⟩
set_option maxHeartbeats 1000000 in
theorem law_SameMainClass_big (A : Option Addr) (n c : Nat) (B : Option Addr) (m d : Nat) (xs ys : List (List Int)) (b : Int) (w : World) (ha : RR w A n xs) (hb : RR w B m ys) (hn : n ≤ 9223372036854775807) (hm : m ≤ 9223372036854775807) (hs : ¬ ((bulk xs : Int) ≤ 1048576 ∧ (bulk ys : Int) ≤ 1048576 - bulk xs)) :
    Calls Tryz.prog 5 #[.slice A n c, .slice B m d, .int .i64 b] w fun e w' => e = .returned (.bool true) ∧ Below w.heap.size w w' := by
  by_cases h1 : (bulk xs : Int) ≤ 1048576
  · have h2 : ¬ (bulk ys : Int) ≤ 1048576 - bulk xs := fun h => hs ⟨h1, h⟩
    have E1 := Lib.hid (szF_yes h1)
    have E2 := Lib.hid (szF_no h2)
    have hp1 : (0 : Int) ≤ 1048576 - bulk xs ∧ (1048576 - bulk xs : Int) ≤ 1048576 := by omega
    generalize hk1 : (1048576 - (bulk xs : Int)) = k1 at *
    obtain ⟨hp1, hp1'⟩ := hp1
    clear hs h1 h2 hk1
    go_enter Tryz.func5, Tryz.ntmps5
    go_wp2_with fail
    refine (szInt64SS_any A n c 1048576 xs _ ha (by omega) (by omega) (by omega)).mono ?_
    rintro e w' ⟨rfl, rfl⟩
    rw [E1.out]
    go_wp2_with fail
    refine (szInt64SS_any B m d k1 ys _ hb (by omega) (by omega) (by omega)).mono ?_
    rintro e w' ⟨rfl, rfl⟩
    rw [E2.out]
    go_wp2
    go_ret
    exact ⟨rfl, Below.refl _ _⟩
  · have E1 := Lib.hid (szF_no h1)
    clear hs h1
    go_enter Tryz.func5, Tryz.ntmps5
    go_wp2_with fail
    refine (szInt64SS_any A n c 1048576 xs _ ha (by omega) (by omega) (by omega)).mono ?_
    rintro e w' ⟨rfl, rfl⟩
    rw [E1.out]
    go_wp2
    go_ret
    exact ⟨rfl, Below.refl _ _⟩
end Go.Proofs.YtaphmapkobbfbaaGreat
/- The laws on isotopic squares and on main classes. No condition. -/
namespace Go.Proofs.YtaphmapkobbfbaaGreat
open Go.RowKit

set_option maxHeartbeats 1000000 in
theorem impl_IsotopicSquares (A : Option Addr) (n c : Nat) (B : Option Addr) (m d : Nat) (xs ys : List (List Int)) (b : Int) (w : World) (ha : RR w A n xs) (hb : RR w B m ys) (hn : n ≤ 1048576) (hm : m ≤ 1048576) (hc : cells xs ≤ 1099511627776) (hd : cells ys ≤ 1099511627776) :
    Calls Tryz.prog 16 #[.slice A n c, .slice B m d, .int .i64 b] w (fun e w' => e = .returned (.tuple #[.bool (sqR xs ys false b), .int .i64 (sqK xs ys false b)]) ∧ Below w.heap.size w w') := by
  have h := sameSquares_any A n c B m d xs ys false b w ha hb hn hm hc hd
  go_enter Tryz.func16, Tryz.ntmps16
  go_wp2_with fail
  refine h.mono ?_
  rintro e w1 ⟨rfl, hb1⟩
  go_wp2
  go_ret2
  exact ⟨rfl, hb1⟩
set_option maxHeartbeats 1000000 in
theorem spec_IsotopicSquares (A : Option Addr) (n c : Nat) (B : Option Addr) (m d : Nat) (xs ys : List (List Int)) (b : Int) (w : World) (ha : RR w A n xs) (hb : RR w B m ys) (hn : n ≤ 1048576) (hm : m ≤ 1048576) :
    Calls Tryz.prog 14 #[.slice A n c, .slice B m d, .int .i64 b] w (fun e w' => e = .returned (.tuple #[.bool (sqR xs ys false b), .int .i64 (sqK xs ys false b)]) ∧ Below w.heap.size w w') := by
  have h := l23Squares_any A n c B m d xs ys false b w ha hb hn hm
  go_enter Tryz.func14, Tryz.ntmps14
  go_wp2_with fail
  refine h.mono ?_
  rintro e w1 ⟨rfl, hb1⟩
  go_wp2
  go_ret2
  exact ⟨rfl, hb1⟩
theorem law_IsotopicSquares (A : Option Addr) (n c : Nat) (xs : List (List Int)) (B : Option Addr) (m d : Nat) (ys : List (List Int)) (b : Int) (w : World) (ha : RR w A n xs) (hn : n ≤ c) (hc : c ≤ 9223372036854775807) (hb : RR w B m ys) (hm : m ≤ d) (hd : d ≤ 9223372036854775807) (_ : I64 b) :
    Calls Tryz.prog 4 #[.slice A n c, .slice B m d, .int .i64 b] w fun e w' => e = .returned (.bool true) ∧ Below w.heap.size w w' := by
  by_cases hs : (bulk xs : Int) ≤ 1048576 ∧ (bulk ys : Int) ≤ 1048576 - bulk xs
  · have e1 := bulk_cells xs
    have e2 := bulk_cells ys
    exact law_IsotopicSquares_ok A n c B m d xs ys b w ha hb hs.1 hs.2 (sqR xs ys false b) (sqK xs ys false b)
      (fun A n c B m d w h1 h2 h3 h4 => spec_IsotopicSquares A n c B m d xs ys b w h1 h2 h3 h4)
      (fun A n c B m d w h1 h2 h3 h4 => impl_IsotopicSquares A n c B m d xs ys b w h1 h2 h3 h4 (by omega) (by omega))
  · exact law_IsotopicSquares_big A n c B m d xs ys b w ha hb (by omega) (by omega) hs
set_option maxHeartbeats 1000000 in
theorem impl_SameMainClass (A : Option Addr) (n c : Nat) (B : Option Addr) (m d : Nat) (xs ys : List (List Int)) (b : Int) (w : World) (ha : RR w A n xs) (hb : RR w B m ys) (hn : n ≤ 1048576) (hm : m ≤ 1048576) (hc : cells xs ≤ 1099511627776) (hd : cells ys ≤ 1099511627776) :
    Calls Tryz.prog 19 #[.slice A n c, .slice B m d, .int .i64 b] w (fun e w' => e = .returned (.tuple #[.bool (sqR xs ys true b), .int .i64 (sqK xs ys true b)]) ∧ Below w.heap.size w w') := by
  have h := sameSquares_any A n c B m d xs ys true b w ha hb hn hm hc hd
  go_enter Tryz.func19, Tryz.ntmps19
  go_wp2_with fail
  refine h.mono ?_
  rintro e w1 ⟨rfl, hb1⟩
  go_wp2
  go_ret2
  exact ⟨rfl, hb1⟩
set_option maxHeartbeats 1000000 in
theorem spec_SameMainClass (A : Option Addr) (n c : Nat) (B : Option Addr) (m d : Nat) (xs ys : List (List Int)) (b : Int) (w : World) (ha : RR w A n xs) (hb : RR w B m ys) (hn : n ≤ 1048576) (hm : m ≤ 1048576) :
    Calls Tryz.prog 18 #[.slice A n c, .slice B m d, .int .i64 b] w (fun e w' => e = .returned (.tuple #[.bool (sqR xs ys true b), .int .i64 (sqK xs ys true b)]) ∧ Below w.heap.size w w') := by
  have h := l23Squares_any A n c B m d xs ys true b w ha hb hn hm
  go_enter Tryz.func18, Tryz.ntmps18
  go_wp2_with fail
  refine h.mono ?_
  rintro e w1 ⟨rfl, hb1⟩
  go_wp2
  go_ret2
  exact ⟨rfl, hb1⟩
theorem law_SameMainClass (A : Option Addr) (n c : Nat) (xs : List (List Int)) (B : Option Addr) (m d : Nat) (ys : List (List Int)) (b : Int) (w : World) (ha : RR w A n xs) (hn : n ≤ c) (hc : c ≤ 9223372036854775807) (hb : RR w B m ys) (hm : m ≤ d) (hd : d ≤ 9223372036854775807) (_ : I64 b) :
    Calls Tryz.prog 5 #[.slice A n c, .slice B m d, .int .i64 b] w fun e w' => e = .returned (.bool true) ∧ Below w.heap.size w w' := by
  by_cases hs : (bulk xs : Int) ≤ 1048576 ∧ (bulk ys : Int) ≤ 1048576 - bulk xs
  · have e1 := bulk_cells xs
    have e2 := bulk_cells ys
    exact law_SameMainClass_ok A n c B m d xs ys b w ha hb hs.1 hs.2 (sqR xs ys true b) (sqK xs ys true b)
      (fun A n c B m d w h1 h2 h3 h4 => spec_SameMainClass A n c B m d xs ys b w h1 h2 h3 h4)
      (fun A n c B m d w h1 h2 h3 h4 => impl_SameMainClass A n c B m d xs ys b w h1 h2 h3 h4 (by omega) (by omega))
  · exact law_SameMainClass_big A n c B m d xs ys b w ha hb (by omega) (by omega) hs
end Go.Proofs.YtaphmapkobbfbaaGreat
