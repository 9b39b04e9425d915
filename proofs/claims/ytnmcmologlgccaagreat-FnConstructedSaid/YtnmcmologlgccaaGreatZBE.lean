/- Draws of parameters. No condition beyond those stated. -/
import Derived.Test.YtnmcmologlgccaaGreatZBD
import Derived.Test.YtnmcmologlgccaaGreatZAS
import Derived.Test.YtnmcmologlgccaaGreatProg
import Derived.Test.YtnmcmologlgccaaGreatZAD
import Derived.Test.YtnmcmologlgccaaGreatZAC
import Derived.Deep.QuietTactic
import Derived.BigQuiet
set_option linter.unusedVariables false
set_option linter.unusedSimpArgs false
namespace Go.Proofs.YtnmcmologlgccaaGreat
open Go.RowKit

theorem litN (w : World) (t : TypeId) (zs : List Int) (h : ∀ x ∈ zs, -100000 ≤ x ∧ x ≤ 100000) : RI (w.alloc (.cells (zs.map (Value.int .i64)).toArray t)) (some ⟨w.heap.size, 0, none⟩) zs.length zs :=
  RS.lit (E := EInt) (Value.int .i64) w t zs fun x hx => ⟨rfl, by have := h x hx; unfold I64; omega⟩
/-- three numbers drawn -/
def Dr3 (w : World) (g p : Nat) (e : Ending) (w' : World) : Prop := ∃ (a b c : Int) (q : Nat), e = .returned (.tuple #[.int .i64 a, .int .i64 b, .int .i64 c]) ∧ (-100000 ≤ a ∧ a ≤ 100000) ∧ (-100000 ≤ b ∧ b ≤ 100000) ∧ (-1000000000 ≤ c ∧ c ≤ 1000000000) ∧ q ≤ p + 100 ∧ Src w' g q ∧ w.grownBy w' (some g)
theorem mul_bdD {a b A B : Int} (ha : 0 ≤ a) (hA : a ≤ A) (hb : 0 ≤ b) (hB : b ≤ B) : 0 ≤ a * b ∧ a * b ≤ A * B := ⟨Int.mul_nonneg ha hb, Int.mul_le_mul hA hB hb (by omega)⟩
set_option maxRecDepth 100000 in
set_option maxHeartbeats 8000000 in
theorem l29Draw_any (g p : Nat) (w : World) (hs : Src w g p) (hp : p ≤ 1000000) :
    Calls Tryz.prog 21 #[.pointer (some ⟨g, 0, none⟩)] w (Dr3 w g p) := by
  have hgl := hs.lt
  have S0 : SrcB w w g p := ⟨hs, hgl, World.grownBy.refl _ _⟩
  clear hs
  go_enter Tryz.func21, Tryz.ntmps21
  go_wp2_with fail
  refine (pick_any g p 6 _ S0.src (by omega) (by omega) (by omega)).mono ?_
  rintro e w1 ⟨z, p1, rfl, z0, z1, hp1, hs', hg'⟩
  have S1 := S0.next hs' hg'
  clear S0 hs' hg'
  by_cases e0 : z = 0
  · have t0 : (z == 0) = true := by simp [e0]
    subst e0
    clear t0
    have R := litN w1 2 [2, 3, 4, 5, 6, 7, 8, 10, 14, 21, 22, 30] (fun x hx => by simp at hx; omega)
    have hal := below_alloc w1 (.cells #[.int .i64 2, .int .i64 3, .int .i64 4, .int .i64 5, .int .i64 6, .int .i64 7, .int .i64 8, .int .i64 10, .int .i64 14, .int .i64 21, .int .i64 22, .int .i64 30] 2)
    have T := S1.step hal
    have hgs := S1.src.lt
    have ham := among_any g p1 _ 12 12 _ _ T.src (by omega) R (fun a ha => by cases ha; show w1.heap.size ≠ g; omega) (by omega) (by omega)
    clear R hal S1
    go_wp2_with fail
    refine ham.mono ?_
    rintro e w2 ⟨n, p2, rfl, hy, hp2, hs', hg'⟩
    have S2 := T.next hs' hg'
    have nb : 2 ≤ n ∧ n ≤ 30 := by simp at hy; omega
    obtain ⟨n0, n1⟩ := nb
    clear hy ham T hs' hg' hgs
    obtain ⟨m0, m1⟩ := mul_bdD (a := n) (b := n) (A := 30) (B := 30) (by omega) n1 (by omega) n1
    go_wp2
    go_ret3
    exact ⟨n * n + n + 1, n + 1, 1, p2, rfl, ⟨by omega, by omega⟩, ⟨by omega, by omega⟩, ⟨by omega, by omega⟩, by omega, S2.src, S2.grown⟩
  have t0 : (z == 0) = false := by simp [e0]
  by_cases e1 : z = 1
  · have t1 : (z == 1) = true := by simp [e1]
    subst e1
    clear t1
    go_wp2_with fail
    refine (pick_any g p1 20 _ S1.src (by omega) (by omega) (by omega)).mono ?_
    rintro e w2 ⟨x, p2, rfl, x0, x1, hp2, hs', hg'⟩
    have S2 := S1.next hs' hg'
    clear S1 hs' hg'
    go_wp2_with fail
    refine (pick_any g p2 (x + 3 - 1) _ S2.src (by omega) (by omega) (by omega)).mono ?_
    rintro e w3 ⟨y, p3, rfl, y0, y1, hp3, hs', hg'⟩
    have S3 := S2.next hs' hg'
    clear S2 hs' hg'
    obtain ⟨m0, m1⟩ := mul_bdD (a := x + 3) (b := x + 3 - 1) (A := 30) (B := 30) (by omega) (by omega) (by omega) (by omega)
    have d0 : 0 ≤ (x + 3) * (x + 3 - 1) / (y + 1) := Int.ediv_nonneg m0 (by omega)
    have d1 : (x + 3) * (x + 3 - 1) / (y + 1) ≤ 900 := by have := Int.ediv_le_self (y + 1) m0; omega
    have hne : ¬ y + 1 = 0 := by omega
    go_wp2
    go_ret3
    exact ⟨(x + 3) * (x + 3 - 1) / (y + 1) + 1, x + 3, y + 1, p3, rfl, ⟨by omega, by omega⟩, ⟨by omega, by omega⟩, ⟨by omega, by omega⟩, by omega, S3.src, S3.grown⟩
  have t1 : (z == 1) = false := by simp [e1]
  by_cases e2 : z = 2
  · have t2 : (z == 2) = true := by simp [e2]
    subst e2
    clear t2
    have R := litN w1 2 [2, 3, 1000, 1001, 16, 25, 31, 32, 33, 6] (fun x hx => by simp at hx; omega)
    have hal := below_alloc w1 (.cells #[.int .i64 2, .int .i64 3, .int .i64 1000, .int .i64 1001, .int .i64 16, .int .i64 25, .int .i64 31, .int .i64 32, .int .i64 33, .int .i64 6] 2)
    have T := S1.step hal
    have hgs := S1.src.lt
    have ham := among_any g p1 _ 10 10 _ _ T.src (by omega) R (fun a ha => by cases ha; show w1.heap.size ≠ g; omega) (by omega) (by omega)
    clear R hal S1
    go_wp2_with fail
    refine ham.mono ?_
    rintro e w2 ⟨n, p2, rfl, hy, hp2, hs', hg'⟩
    have S2 := T.next hs' hg'
    have nb : 2 ≤ n ∧ n ≤ 1001 := by simp at hy; omega
    obtain ⟨n0, n1⟩ := nb
    clear hy ham T hs' hg' hgs
    have R := litN w2 2 [1, 2, 3, n - 1, n, 7, 6] (fun x hx => by simp at hx; omega)
    have hal := below_alloc w2 (.cells #[.int .i64 1, .int .i64 2, .int .i64 3, .int .i64 (n - 1), .int .i64 (n), .int .i64 7, .int .i64 6] 2)
    have T := S2.step hal
    have hgs := S2.src.lt
    have ham := among_any g p2 _ 7 7 _ _ T.src (by omega) R (fun a ha => by cases ha; show w2.heap.size ≠ g; omega) (by omega) (by omega)
    clear R hal S2
    go_wp2_with fail
    refine ham.mono ?_
    rintro e w3 ⟨m, p3, rfl, hy, hp3, hs', hg'⟩
    have S3 := T.next hs' hg'
    have mb : 1 ≤ m ∧ m ≤ 1001 := by simp at hy; omega
    obtain ⟨m0, m1⟩ := mb
    clear hy ham T hs' hg' hgs
    have R := litN w3 2 [0, 1, 2, 1000, 1001] (fun x hx => by simp at hx; omega)
    have hal := below_alloc w3 (.cells #[.int .i64 0, .int .i64 1, .int .i64 2, .int .i64 1000, .int .i64 1001] 2)
    have T := S3.step hal
    have hgs := S3.src.lt
    have ham := among_any g p3 _ 5 5 _ _ T.src (by omega) R (fun a ha => by cases ha; show w3.heap.size ≠ g; omega) (by omega) (by omega)
    clear R hal S3
    go_wp2_with fail
    refine ham.mono ?_
    rintro e w4 ⟨u, p4, rfl, hy, hp4, hs', hg'⟩
    have S4 := T.next hs' hg'
    have ub : 0 ≤ u ∧ u ≤ 1001 := by simp at hy; omega
    obtain ⟨u0, u1⟩ := ub
    clear hy ham T hs' hg' hgs
    go_wp2
    go_ret3
    exact ⟨n, m, u, p4, rfl, ⟨by omega, by omega⟩, ⟨by omega, by omega⟩, ⟨by omega, by omega⟩, by omega, S4.src, S4.grown⟩
  have t2 : (z == 2) = false := by simp [e2]
  by_cases e3 : z = 3
  · have t3 : (z == 3) = true := by simp [e3]
    subst e3
    clear t3
    have R := litN w1 2 [7, 9, 13, 15, 19, 21, 25, 27] (fun x hx => by simp at hx; omega)
    have hal := below_alloc w1 (.cells #[.int .i64 7, .int .i64 9, .int .i64 13, .int .i64 15, .int .i64 19, .int .i64 21, .int .i64 25, .int .i64 27] 2)
    have T := S1.step hal
    have hgs := S1.src.lt
    have ham := among_any g p1 _ 8 8 _ _ T.src (by omega) R (fun a ha => by cases ha; show w1.heap.size ≠ g; omega) (by omega) (by omega)
    clear R hal S1
    go_wp2_with fail
    refine ham.mono ?_
    rintro e w2 ⟨n, p2, rfl, hy, hp2, hs', hg'⟩
    have S2 := T.next hs' hg'
    have nb : 7 ≤ n ∧ n ≤ 27 := by simp at hy; omega
    obtain ⟨n0, n1⟩ := nb
    clear hy ham T hs' hg' hgs
    go_wp2_with fail
    refine (pick_any g p2 3 _ S2.src (by omega) (by omega) (by omega)).mono ?_
    rintro e w3 ⟨y, p3, rfl, y0, y1, hp3, hs', hg'⟩
    have S3 := S2.next hs' hg'
    clear S2 hs' hg'
    go_wp2
    go_ret3
    exact ⟨n, 3, y + 1, p3, rfl, ⟨by omega, by omega⟩, ⟨by omega, by omega⟩, ⟨by omega, by omega⟩, by omega, S3.src, S3.grown⟩
  have t3 : (z == 3) = false := by simp [e3]
  go_wp2_with fail
  refine (pick_any g p1 29 _ S1.src (by omega) (by omega) (by omega)).mono ?_
  rintro e w2 ⟨x, p2, rfl, x0, x1, hp2, hs', hg'⟩
  have S2 := S1.next hs' hg'
  clear S1 hs' hg'
  go_wp2_with fail
  refine (pick_any g p2 (x + 3 - 2) _ S2.src (by omega) (by omega) (by omega)).mono ?_
  rintro e w3 ⟨y, p3, rfl, y0, y1, hp3, hs', hg'⟩
  have S3 := S2.next hs' hg'
  clear S2 hs' hg'
  go_wp2_with fail
  refine (pick_any g p3 10 _ S3.src (by omega) (by omega) (by omega)).mono ?_
  rintro e w4 ⟨u, p4, rfl, u0, u1, hp4, hs', hg'⟩
  have S4 := S3.next hs' hg'
  clear S3 hs' hg'
  go_wp2
  go_ret3
  exact ⟨x + 3, y + 2, u + 1, p4, rfl, ⟨by omega, by omega⟩, ⟨by omega, by omega⟩, ⟨by omega, by omega⟩, by omega, S4.src, S4.grown⟩
/-- three numbers drawn from a list of bytes -/
def DrC (w : World) (e : Ending) (w' : World) : Prop := ∃ a b c : Int, e = .returned (.tuple #[.int .i64 a, .int .i64 b, .int .i64 c]) ∧ (-100000 ≤ a ∧ a ≤ 100000) ∧ (-100000 ≤ b ∧ b ≤ 100000) ∧ (-1000000000 ≤ c ∧ c ≤ 1000000000) ∧ Below w.heap.size w w'
set_option maxRecDepth 100000 in
set_option maxHeartbeats 8000000 in
theorem drawConstruct_any (A : Option Addr) (n c : Nat) (bs : List Int) (w : World) (ha : RS EByte w A n bs) (hn : n ≤ 9223372036854775807) :
    Calls Tryz.prog 6 #[.slice A n c] w (DrC w) := by
  go_enter Tryz.func6, Tryz.ntmps6
  go_wp2_with fail
  refine (l00From_any A n c bs w ha hn).mono ?_
  rintro e w0 ⟨rfl, hs, hb⟩
  have hgl := hs.lt
  obtain ⟨g, hg⟩ : ∃ g, g = w.heap.size := ⟨_, rfl⟩
  have HB : Hid (∀ w', w0.grownBy w' (some g) → Below w.heap.size w w') := Lib.hid (fun w' h => hb.grown h hb.size (fun k hk => by injection hk with hk; omega))
  rw [← hg] at hs hgl
  have S0 : SrcB w0 w0 g 0 := ⟨hs, hgl, World.grownBy.refl _ _⟩
  rw [← hg]
  clear hs hb ha hg
  go_wp2_with fail
  refine (pick_any g 0 5 _ S0.src (by omega) (by omega) (by omega)).mono ?_
  rintro e w1 ⟨z, p1, rfl, z0, z1, hp1, hs', hg'⟩
  have S1 := S0.next hs' hg'
  clear S0 hs' hg'
  by_cases e0 : z = 0
  · have t0 : (z == 0) = true := by simp [e0]
    subst e0
    clear t0
    have R := litN w1 2 [2, 3, 4, 5] (fun x hx => by simp at hx; omega)
    have hal := below_alloc w1 (.cells #[.int .i64 2, .int .i64 3, .int .i64 4, .int .i64 5] 2)
    have T := S1.step hal
    have hgs := S1.src.lt
    have ham := among_any g p1 _ 4 4 _ _ T.src (by omega) R (fun a ha => by cases ha; show w1.heap.size ≠ g; omega) (by omega) (by omega)
    clear R hal S1
    go_wp2_with fail
    refine ham.mono ?_
    rintro e w2 ⟨n, p2, rfl, hy, hp2, hs', hg'⟩
    have S2 := T.next hs' hg'
    have nb : 2 ≤ n ∧ n ≤ 5 := by simp at hy; omega
    obtain ⟨n0, n1⟩ := nb
    clear hy ham T hs' hg' hgs
    obtain ⟨m0, m1⟩ := mul_bdD (a := n) (b := n) (A := 5) (B := 5) (by omega) n1 (by omega) n1
    obtain ⟨m2, m3⟩ := mul_bdD (a := n) (b := n - 1) (A := 5) (B := 5) (by omega) n1 (by omega) (by omega)
    go_wp2_with fail
    refine (one_any g p2 2 _ S2.src (by omega) (by omega) (by omega)).mono ?_
    rintro e w3 ⟨b1, p3, rfl, hp3, hs', hg'⟩
    have S3 := S2.next hs' hg'
    clear S2 hs' hg'
    cases b1 with
    | true =>
      go_wp2_with fail
      refine (pick_any g p3 3 _ S3.src (by omega) (by omega) (by omega)).mono ?_
      rintro e w4 ⟨y, p4, rfl, y0, y1, hp4, hs', hg'⟩
      have S4 := S3.next hs' hg'
      clear S3 hs' hg'
      have Q := Lib.hid (HB.out _ S4.grown)
      go_wp2
      go_ret3
      exact ⟨n * n, n, y + 1, rfl, ⟨by omega, by omega⟩, ⟨by omega, by omega⟩, ⟨by omega, by omega⟩, Q.out⟩
    | false =>
      go_wp2_with fail
      refine (one_any g p3 2 _ S3.src (by omega) (by omega) (by omega)).mono ?_
      rintro e w4 ⟨b2, p4, rfl, hp4, hs', hg'⟩
      have S4 := S3.next hs' hg'
      clear S3 hs' hg'
      cases b2 with
      | true =>
        have Q := Lib.hid (HB.out _ S4.grown)
        go_wp2
        go_ret3
        exact ⟨n * n + n + 1, n * n, n * (n - 1), rfl, ⟨by omega, by omega⟩, ⟨by omega, by omega⟩, ⟨by omega, by omega⟩, Q.out⟩
      | false =>
        go_wp2_with fail
        refine (pick_any g p4 2 _ S4.src (by omega) (by omega) (by omega)).mono ?_
        rintro e w5 ⟨y, p5, rfl, y0, y1, hp5, hs', hg'⟩
        have S5 := S4.next hs' hg'
        clear S4 hs' hg'
        have Q := Lib.hid (HB.out _ S5.grown)
        go_wp2
        go_ret3
        exact ⟨n * n + n + 1, n + 1, y + 1, rfl, ⟨by omega, by omega⟩, ⟨by omega, by omega⟩, ⟨by omega, by omega⟩, Q.out⟩
  have t0 : (z == 0) = false := by simp [e0]
  by_cases e1 : z = 1
  · have t1 : (z == 1) = true := by simp [e1]
    subst e1
    clear t1
    have R := litN w1 2 [2, 3, 4, 5, 6, 7, 8] (fun x hx => by simp at hx; omega)
    have hal := below_alloc w1 (.cells #[.int .i64 2, .int .i64 3, .int .i64 4, .int .i64 5, .int .i64 6, .int .i64 7, .int .i64 8] 2)
    have T := S1.step hal
    have hgs := S1.src.lt
    have ham := among_any g p1 _ 7 7 _ _ T.src (by omega) R (fun a ha => by cases ha; show w1.heap.size ≠ g; omega) (by omega) (by omega)
    clear R hal S1
    go_wp2_with fail
    refine ham.mono ?_
    rintro e w2 ⟨n, p2, rfl, hy, hp2, hs', hg'⟩
    have S2 := T.next hs' hg'
    have nb : 2 ≤ n ∧ n ≤ 8 := by simp at hy; omega
    obtain ⟨n0, n1⟩ := nb
    clear hy ham T hs' hg' hgs
    go_wp2_with fail
    refine (one_any g p2 2 _ S2.src (by omega) (by omega) (by omega)).mono ?_
    rintro e w3 ⟨b1, p3, rfl, hp3, hs', hg'⟩
    have S3 := S2.next hs' hg'
    clear S2 hs' hg'
    cases b1 with
    | true =>
      have Q := Lib.hid (HB.out _ S3.grown)
      go_wp2
      go_ret3
      exact ⟨4 * n - 1, 2 * n - 1, n - 1, rfl, ⟨by omega, by omega⟩, ⟨by omega, by omega⟩, ⟨by omega, by omega⟩, Q.out⟩
    | false =>
      have Q := Lib.hid (HB.out _ S3.grown)
      go_wp2
      go_ret3
      exact ⟨4 * n - 1, 2 * n, n, rfl, ⟨by omega, by omega⟩, ⟨by omega, by omega⟩, ⟨by omega, by omega⟩, Q.out⟩
  have t1 : (z == 1) = false := by simp [e1]
  by_cases e2 : z = 2
  · have t2 : (z == 2) = true := by simp [e2]
    subst e2
    clear t2
    go_wp2_with fail
    refine (pick_any g p1 6 _ S1.src (by omega) (by omega) (by omega)).mono ?_
    rintro e w2 ⟨x, p2, rfl, x0, x1, hp2, hs', hg'⟩
    have S2 := S1.next hs' hg'
    clear S1 hs' hg'
    go_wp2_with fail
    refine (pick_any g p2 (x + 3 - 2) _ S2.src (by omega) (by omega) (by omega)).mono ?_
    rintro e w3 ⟨y, p3, rfl, y0, y1, hp3, hs', hg'⟩
    have S3 := S2.next hs' hg'
    clear S2 hs' hg'
    obtain ⟨X, rfl⟩ : ∃ X : Nat, x = (X : Int) := ⟨x.toNat, by omega⟩
    obtain ⟨Y, rfl⟩ : ∃ Y : Nat, y = (Y : Int) := ⟨y.toNat, by omega⟩
    have ex : (X : Int) + 3 - 2 = ((X + 1 : Nat) : Int) := by omega
    have ey : (Y : Int) + 2 - 2 = ((Y : Nat) : Int) := by omega
    have hch := specChoose_any (X + 1) Y w3 (by omega)
    have hcl := chP_le (n := X + 1) (k := Y) (by omega)
    generalize chP (X + 1) Y = ch at *
    generalize hX1 : X + 1 = X1 at *
    go_wp2_with fail
    refine hch.mono ?_
    rintro e w4 ⟨rfl, rfl⟩
    have Q := Lib.hid (HB.out _ S3.grown)
    go_wp2
    go_ret3
    exact ⟨(X : Int) + 3, (Y : Int) + 2, (ch : Int), rfl, ⟨by omega, by omega⟩, ⟨by omega, by omega⟩, ⟨by omega, by omega⟩, Q.out⟩
  have t2 : (z == 2) = false := by simp [e2]
  go_wp2_with fail
  refine (l29Draw_any g p1 _ S1.src (by omega)).mono ?_
  rintro e w2 ⟨a, b, c, p2, rfl, ⟨a0, a1⟩, ⟨b0, b1⟩, ⟨c0, c1⟩, hp2, hs', hg'⟩
  have S2 := S1.next hs' hg'
  clear S1 hs' hg'
  have Q := Lib.hid (HB.out _ S2.grown)
  go_wp2
  go_ret3
  exact ⟨a, b, c, rfl, ⟨by omega, by omega⟩, ⟨by omega, by omega⟩, ⟨by omega, by omega⟩, Q.out⟩
end Go.Proofs.YtnmcmologlgccaaGreat
/- The names of conditions, constructions and kinds of objects: what each function of them returns, for every number; the two sides agree. No condition. -/
namespace Go.Proofs.YtnmcmologlgccaaGreat
open Go.RowKit

def condName (c : Int) : ByteArray :=
  if c = 1 then ⟨#[112, 111, 105, 110, 116]⟩ else if c = 2 then ⟨#[98, 108, 111, 99, 107]⟩ else if c = 3 then ⟨#[102, 105, 115, 104, 101, 114]⟩
  else if c = 4 then ⟨#[115, 113, 117, 97, 114, 101]⟩ else if c = 5 then ⟨#[116, 101, 114, 110, 97, 114, 121]⟩ else ⟨#[]⟩
theorem condName_out {c : Int} (h : inB c 1 5 = false) : condName c = ⟨#[]⟩ := by
  have : ¬ (1 ≤ c ∧ c ≤ 5) := fun k => by rw [inB_mk k] at h; cases h
  unfold condName
  rw [if_neg (by omega), if_neg (by omega), if_neg (by omega), if_neg (by omega), if_neg (by omega)]

def consName (c : Int) : ByteArray :=
  if c = 1 then ⟨#[99, 111, 109, 112, 108, 101, 116, 101]⟩ else if c = 2 then ⟨#[116, 114, 105, 112, 108, 101, 115]⟩ else if c = 3 then ⟨#[97, 102, 102, 105, 110, 101]⟩
  else if c = 4 then ⟨#[112, 114, 111, 106, 101, 99, 116, 105, 118, 101]⟩ else if c = 5 then ⟨#[100, 105, 102, 102, 101, 114, 101, 110, 99, 101]⟩
  else if c = 6 then ⟨#[104, 97, 100, 97, 109, 97, 114, 100]⟩ else if c = 7 then ⟨#[99, 111, 109, 112, 108, 101, 109, 101, 110, 116]⟩
  else if c = 8 then ⟨#[109, 117, 108, 116, 105, 112, 108, 101]⟩ else ⟨#[]⟩
theorem consName_out {c : Int} (h : inB c 1 8 = false) : consName c = ⟨#[]⟩ := by
  have : ¬ (1 ≤ c ∧ c ≤ 8) := fun k => by rw [inB_mk k] at h; cases h
  unfold consName
  rw [if_neg (by omega), if_neg (by omega), if_neg (by omega), if_neg (by omega), if_neg (by omega), if_neg (by omega), if_neg (by omega), if_neg (by omega)]

set_option maxHeartbeats 1000000 in
theorem impl_ConstructionName (c : Int) (w : World) :
    Calls Tryz.prog 11 #[.int .i64 c] w fun e w' => e = .returned (.string (consName c)) ∧ Below w.heap.size w w' := by
  by_cases h : inB c 1 8 = true
  · have hc : c = 1 ∨ c = 2 ∨ c = 3 ∨ c = 4 ∨ c = 5 ∨ c = 6 ∨ c = 7 ∨ c = 8 := by have := inB_true h; omega
    rcases hc with rfl | rfl | rfl | rfl | rfl | rfl | rfl | rfl
    all_goals
      go_enter Tryz.func11, Tryz.ntmps11
      go_wp2_with (go_at_call 30; refine (within_any _ _ _ _).mono ?_; rintro e w' ⟨rfl, rfl⟩)
      go_ret
      exact ⟨rfl, below_alloc _ _⟩
  · have h' := inB_false h
    have H := Lib.hid (consName_out h'); clear h
    go_enter Tryz.func11, Tryz.ntmps11
    go_wp2_with (go_at_call 30; refine (within_any _ _ _ _).mono ?_; rintro e w' ⟨rfl, rfl⟩)
    go_ret
    exact ⟨by rw [H.out]; rfl, Below.refl _ _⟩

end Go.Proofs.YtnmcmologlgccaaGreat
/- Rising lists by putting, and lists in order by insertion: the reference's side. No condition beyond those stated. -/
namespace Go.Proofs.YtnmcmologlgccaaGreat
open Go.RowKit

/-- a list built by putting x among the first k -/
def PutTo {α : Type} (c : α → α → Int) (zs : List α) (x : α) (k : Nat) (L : List α) (d : Bool) : Prop :=
  (d = false ∧ L = zs.take k ∧ ∀ y, y ∈ zs.take k → c y x < 0) ∨ (d = true ∧ L ++ zs.drop k = putG c zs x)
section
variable {α : Type} {c : α → α → Int} {zs L : List α} {x : α} {k : Nat} {d : Bool}
theorem putTo_zero (c : α → α → Int) (zs : List α) (x : α) : PutTo c zs x 0 [] false := .inl ⟨rfl, by simp, fun y h => by simp at h⟩
theorem putTo_done {y : α} (h : PutTo c zs x k L true) (hk : zs[k]? = some y) : PutTo c zs x (k + 1) (L ++ [y]) true := by
  obtain ⟨hl, rfl⟩ := List.getElem?_eq_some_iff.1 hk
  rcases h with ⟨h, _⟩ | ⟨_, h⟩
  · cases h
  · refine .inr ⟨rfl, ?_⟩
    rw [List.append_assoc, List.singleton_append, ← List.drop_eq_getElem_cons hl]
    exact h
theorem putTo_less {y : α} (h : PutTo c zs x k L false) (hk : zs[k]? = some y) (hc : c y x < 0) : PutTo c zs x (k + 1) (L ++ [y]) false := by
  obtain ⟨hl, rfl⟩ := List.getElem?_eq_some_iff.1 hk
  rcases h with ⟨_, h1, h2⟩ | ⟨h, _⟩
  · refine .inl ⟨rfl, by rw [List.take_succ_eq_append_getElem hl, h1], fun z hz => ?_⟩
    rw [List.take_succ_eq_append_getElem hl] at hz
    rcases List.mem_append.1 hz with hz | hz
    · exact h2 z hz
    · rw [List.mem_singleton.1 hz]; exact hc
  · cases h
theorem putTo_at {y : α} (h : PutTo c zs x k L false) (hk : zs[k]? = some y) (hc : ¬ c y x < 0) : putG c zs x = L ++ ((if c y x = 0 then [] else [x]) ++ y :: zs.drop (k + 1)) := by
  obtain ⟨hl, rfl⟩ := List.getElem?_eq_some_iff.1 hk
  rcases h with ⟨_, h1, h2⟩ | ⟨h, _⟩
  · rw [putG_before (k := k) (by omega) h2, ← h1, List.drop_eq_getElem_cons hl, putG, if_neg hc]
    split <;> simp
  · cases h
theorem putTo_same {y : α} (h : PutTo c zs x k L false) (hk : zs[k]? = some y) (hc : c y x = 0) : PutTo c zs x (k + 1) (L ++ [y]) true := by
  refine .inr ⟨rfl, ?_⟩
  rw [putTo_at h hk (by omega), if_pos hc]
  simp
theorem putTo_more {y : α} (h : PutTo c zs x k L false) (hk : zs[k]? = some y) (hc : 0 < c y x) : PutTo c zs x (k + 1) (L ++ [x] ++ [y]) true := by
  refine .inr ⟨rfl, ?_⟩
  rw [putTo_at h hk (by omega), if_neg (by omega)]
  simp
theorem putTo_end1 (h : PutTo c zs x zs.length L true) : L = putG c zs x := by
  rcases h with ⟨h, _⟩ | ⟨_, h⟩
  · cases h
  · simpa using h
theorem putTo_end0 (h : PutTo c zs x zs.length L false) : L ++ [x] = putG c zs x := by
  rcases h with ⟨_, h1, h2⟩ | ⟨h, _⟩
  · rw [putG_before (k := zs.length) (Nat.le_refl _) h2, h1]
    simp [putG]
  · cases h
theorem putTo_len (h : PutTo c zs x k L d) (hk : k ≤ zs.length) : L.length ≤ k + 1 := by
  rcases h with ⟨_, h1, _⟩ | ⟨_, h⟩
  · rw [h1, List.length_take]; omega
  · have h2 := putG_len (c := c) zs x
    rw [← h] at h2
    simp at h2
    omega
end
theorem sgnI_ge {x y : Int} (h : ¬ sgnI x y < 0) : decide (x ≥ y) = true := by
  rcases sgnI_cases x y with ⟨h1, e⟩ | ⟨h1, e⟩ | ⟨h1, e⟩
  · omega
  · simp; omega
  · simp; omega
theorem nth_some' {zs : List Int} {k : Nat} (h : k < zs.length) : zs[k]? = some (nth zs k) := nth_some h
set_option maxRecDepth 100000 in
set_option maxHeartbeats 2000000 in
theorem l00Put_any (A : Option Addr) (n c : Nat) (zs : List Int) (x : Int) (w : World) (ha : RI w A n zs) (hn : n ≤ 1099511627776) (hx : I64 x) :
    Calls Tryz.prog 126 #[.slice A n c, .int .i64 x] w (RetI w 2 (putG sgnI zs x)) := by
  have hla := Lib.hid ha.len
  have ho0 := OI.lit w w.heap.size 2 [] (Nat.le_refl _) (by simp) All64.nil_
  have hw0 := below_alloc w (.cells #[] 2)
  go_enter Tryz.func126, Tryz.ntmps126
  go_wp2
  go_loopw [5, 6, 7] (fun v f i wr => ∃ (k m : Nat) (A' : Option Addr) (c' : Nat) (L : List Int) (d : Bool), k ≤ n ∧ i = .int .i64 k ∧ v = .slice A' m c' ∧ f = .bool d ∧ OI wr w.heap.size 2 A' m c' L ∧ Below w.heap.size w wr ∧ PutTo sgnI zs x k L d) (fun _ _ i _ => n - (intOf i).toNat)
  case atStart => exact ⟨0, _, _, _, [], _, Nat.zero_le _, rfl, rfl, rfl, ho0, hw0, putTo_zero _ _ _⟩
  case round =>
    obtain ⟨k, m, A', c', L, d, hk, rfl, rfl, rfl, ho, hw, hp⟩ := hrel
    have hm : m ≤ k + 1 := by have := ho.len; have := putTo_len hp (by rw [hla.out]; exact hk); omega
    clear ho0 hw0
    by_cases hlt : k < n
    · obtain ⟨a, rfl, hca, hia⟩ := (ha.keep hw).get hlt
      have hz : zs[k]? = some (nth zs k) := nth_some (by rw [hla.out]; exact hlt)
      cases d with
      | true =>
        have HP := Lib.hid (putTo_done hp hz)
        clear hp hz
        go_wp2_with (at_builtin; refine app_int _ rfl (.tmp 35) (.tmp 40) rfl w.heap.size A' m c' L rfl ho (nth zs k) _ rfl (by simp) hia (by omega) hw.size ?_; intro A2 c2 w3 ho3 hg3 hn3)
        have hw3 := below_own hw hg3 hw.size (fun b hb => (ho.os.lt hb).1)
        clear ho hg3 hn3 hca
        go_roundw
        case rel => exact ⟨k + 1, _, _, _, _, true, by omega, by go_num, rfl, rfl, ho3, hw3, HP.out⟩
        case measure => simp [intOf]; omega
      | false =>
        by_cases h1 : nth zs k < x
        · have HP := Lib.hid (putTo_less hp hz (by rcases sgnI_cases (nth zs k) x with ⟨_, e⟩ | ⟨_, e⟩ | ⟨_, e⟩ <;> omega))
          clear hp hz
          go_wp2_with (at_builtin; refine app_int _ rfl (.tmp 35) (.tmp 40) rfl w.heap.size A' m c' L rfl ho (nth zs k) _ rfl (by simp) hia (by omega) hw.size ?_; intro A2 c2 w3 ho3 hg3 hn3)
          have hw3 := below_own hw hg3 hw.size (fun b hb => (ho.os.lt hb).1)
          clear ho hg3 hn3 hca
          go_roundw
          case rel => exact ⟨k + 1, _, _, _, _, false, by omega, by go_num, rfl, rfl, ho3, hw3, HP.out⟩
          case measure => simp [intOf]; omega
        · have h1' : x ≤ nth zs k := by omega
          by_cases h2 : nth zs k = x
          · have HP := Lib.hid (putTo_same hp hz (by rw [h2]; exact sgnI_ord.self x))
            have h3 : ¬ x < nth zs k := by omega
            clear hp hz h2
            go_wp2_with (at_builtin; refine app_int _ rfl (.tmp 35) (.tmp 40) rfl w.heap.size A' m c' L rfl ho (nth zs k) _ rfl (by simp) hia (by omega) hw.size ?_; intro A2 c2 w3 ho3 hg3 hn3)
            have hw3 := below_own hw hg3 hw.size (fun b hb => (ho.os.lt hb).1)
            clear ho hg3 hn3 hca
            go_roundw
            case rel => exact ⟨k + 1, _, _, _, _, true, by omega, by go_num, rfl, rfl, ho3, hw3, HP.out⟩
            case measure => simp [intOf]; omega
          · have h3 : x < nth zs k := by omega
            have HP := Lib.hid (putTo_more hp hz (by rcases sgnI_cases (nth zs k) x with ⟨_, e⟩ | ⟨_, e⟩ | ⟨_, e⟩ <;> omega))
            have hca0 := below_cell (below_alloc wr (.cells #[.int .i64 x] 2)) hca
            clear hp hz h2 h1 h1'
            go_wp2_with (first
              | (at_builtin; refine app_int _ rfl (.tmp 31) (.tmp 33) rfl w.heap.size A' m c' L rfl ho x _ rfl (by simp) hx (by omega) hw.size ?_; intro A2 c2 w3 ho3 hg3 hn3; have hw3 := below_own hw hg3 hw.size (fun b hb => (ho.os.lt hb).1); obtain ⟨a3, e3, hc3, _⟩ := (ha.keep hw3).get hlt; injection e3 with e3; subst e3; clear hca hca0)
              | (at_builtin; refine app_int _ rfl (.tmp 35) (.tmp 40) rfl w.heap.size A2 (m + 1) c2 (L ++ [x]) rfl ho3 (nth zs k) _ rfl (by simp) hia (by omega) hw3.size ?_; intro A4 c4 w4 ho4 hg4 hn4))
            have hw4 := below_own hw3 hg4 hw3.size (fun b hb => (ho3.os.lt hb).1)
            clear ho hg3 hn3 ho3 hg4 hn4 hc3
            go_roundw
            case rel => exact ⟨k + 1, _, _, _, _, true, by omega, by go_num, rfl, rfl, ho4, hw4, HP.out⟩
            case measure => simp [intOf]; omega
    · obtain rfl : k = n := by omega
      rw [← hla.out] at hp
      cases d with
      | true =>
        have HP := Lib.hid (putTo_end1 hp)
        clear hp
        go_wp2
        go_ret
        exact ⟨_, _, _, rfl, by rw [← HP.out]; exact ho, hw⟩
      | false =>
        have HP := Lib.hid (putTo_end0 hp)
        clear hp
        go_wp2_with (at_builtin; refine app_int _ rfl (.tmp 44) (.tmp 46) rfl w.heap.size A' m c' L rfl ho x _ rfl (by simp) hx (by omega) hw.size ?_; intro A2 c2 w3 ho3 hg3 hn3)
        have hw3 := below_own hw hg3 hw.size (fun b hb => (ho.os.lt hb).1)
        go_ret
        exact ⟨_, _, _, rfl, by rw [← HP.out]; exact ho3, hw3⟩
end Go.Proofs.YtnmcmologlgccaaGreat
/- A place of a row of one's own rows: where it stands, and what it is to write it over. No condition beyond those stated. -/
namespace Go.Proofs.YtnmcmologlgccaaGreat
open Go.RowKit

section
variable {w w' : World} {B : Nat} {e2 e1 : TypeId} {A : Option Addr} {n c : Nat} {vs : List Sl} {zss : List (List Int)}
/-- the row i, its place j -/
structure At2 (w : World) (B : Nat) (e2 e1 : TypeId) (A : Option Addr) (n c : Nat) (vs : List Sl) (zss : List (List Int)) (i j g r m k : Nat) : Prop where
  ha : A = some ⟨g, 0, none⟩
  co : w.cell? ⟨g, i, none⟩ = some (.slice (some ⟨r, 0, none⟩) m k)
  fo : w.frozen? ⟨g, i, none⟩ = false
  hm : (row zss i).length = m
  mle : m ≤ k
  k1 : k ≤ 9223372036854775807
  ci : w.cell? ⟨r, j, none⟩ = some (.int .i64 (nth (row zss i) j))
  fi : w.frozen? ⟨r, j, none⟩ = false
  br : B ≤ r
  rl : r < w.heap.size
  iz : I64 (nth (row zss i) j)
  set : ∀ u, I64 u → ORv (w.setCell ⟨r, j, none⟩ (.int .i64 u)) B e2 e1 A n c vs (zss.set i ((row zss i).set j u))
theorem ORv.at2 (h : ORv w B e2 e1 A n c vs zss) {i j : Nat} (hi : i < n) (hj : j < (row zss i).length) : ∃ g r m k, At2 w B e2 e1 A n c vs zss i j g r m k := by
  obtain ⟨g, v, ha, hv, co, fo, hr⟩ := h.get hi
  obtain ⟨r, hr1, ci, fi, iz⟩ := hr.cell (k := j) (by rw [← hr.len]; exact hj)
  have hlt := hr.os.lt (k := r) (by rw [hr1]; rfl)
  refine ⟨g, r, v.2.1, v.2.2, ha, by rw [co, hr1], fo, hr.len, hr.os.cap.1, hr.os.cap.2, ci, fi, hlt.1, hlt.2, iz, fun u hu => ?_⟩
  have h2 : OI w B e1 (some ⟨r, 0, none⟩) v.2.1 v.2.2 (row zss i) := by rw [← hr1]; exact hr
  have h3 := h2.set j hu
  rw [← hr1] at h3
  refine h.wrote hv ?_ h3
  rw [hr1]
  exact ⟨rfl, rfl, rfl, by simp [World.setCell], fun k _ hk => Below.heap_setCell _ _ _ _ (fun e => hk (by rw [e]; rfl))⟩
theorem ORv.keptB {g : Nat} (h : ORv w B e2 e1 A n c vs zss) (hg : w.grownBy w' (some g)) (hb : g < B) : ORv w' B e2 e1 A n c vs zss := by
  have far : ∀ {e : TypeId} {size : Nat} {A : Option Addr} {n c : Nat} {xs : List Value}, OS w B e size A n c xs → blk A = none ∨ blk A ≠ some g := fun {e size A n c xs} ho => by
    cases A with
    | none => exact .inl rfl
    | some a => exact .inr fun e => by have := (ho.lt (k := a.block) rfl).1; simp only [blk, Option.map_some, Option.some.injEq] at e; omega
  refine h.kept hg (far h.os) fun j v hv => ?_
  have hj : j < zss.length := by rw [← h.len]; exact (List.getElem?_eq_some_iff.1 hv).1
  exact far (h.rows j v _ hv (List.getElem?_eq_getElem hj)).os
theorem OR.keptB {g : Nat} (h : OR w B e2 e1 A n c zss) (hg : w.grownBy w' (some g)) (hb : g < B) : OR w' B e2 e1 A n c zss := by
  obtain ⟨vs, h⟩ := h
  exact ⟨vs, h.keptB hg hb⟩
theorem OI.keptB {g : Nat} {zs : List Int} (h : OI w B e1 A n c zs) (hg : w.grownBy w' (some g)) (hb : g < B) : OI w' B e1 A n c zs :=
  h.kept hg (by
    cases A with
    | none => exact .inl rfl
    | some a => exact .inr fun e => by have := (h.os.lt (k := a.block) rfl).1; simp only [blk, Option.map_some, Option.some.injEq] at e; omega)
end
end Go.Proofs.YtnmcmologlgccaaGreat
