/- The law on equal objects. No condition. -/
import Derived.Test.YtonjkdalkpccpaaSame
import Derived.Deep.RegionHeld3
namespace Go.Proofs.Ytonjkdalkpccpaa
open Go.RowKit

set_option maxHeartbeats 400000 in
theorem eqObject_same (k s : Int) (A B : Option Addr) (n m c d : Nat) (xs : List (List Int)) (w : World) (ha : RR w A n xs) (hb : RR w B m xs) (hn : n ≤ 9223372036854775807) (hm : m ≤ 9223372036854775807) :
    Calls Try.prog 8 #[.agg #[.int .i64 k, .int .i64 s, .slice A n c], .agg #[.int .i64 k, .int .i64 s, .slice B m d]] w fun e w' => e = .returned (.bool true) ∧ Below w.heap.size w w' := by
  have hb2 := below_then (below_alloc w (.cells #[.int .i64 k, .int .i64 s, .slice A n c] 27)) (below_alloc (w.alloc (.cells #[.int .i64 k, .int .i64 s, .slice A n c] 27)) (.cells #[.int .i64 k, .int .i64 s, .slice B m d] 27))
  have ha' := ha.keep hb2
  have hb' := hb.keep hb2
  clear ha hb
  go_enter Try.func8, Try.ntmps8
  go_wp2_with (go_at_call 13; refine (eqInt64SS_any _ _ _ _ _ _ xs xs _ ha' hb' hn hm).mono ?_; rintro e w1 ⟨rfl, hd1⟩; rw [show decide (xs = xs) = true from by simp])
  go_ret
  exact ⟨rfl, hb2.trans (hd1.below.mono hb2.size)⟩

theorem szF_nonneg {l t : Int} (h : ¬ szF l t < 0) : t ≤ l ∧ szF l t = l - t := by
  unfold szF at *
  split
  · omega
  · rename_i h1
    rw [if_neg h1] at h
    omega

/-- a variable that holds an object, in a world behind w -/
def At (w : World) (g1 g2 : Nat) (T1 T2 : TypeId) (k1 s1 k2 s2 : Int) (A B : Option Addr) (n m c d : Nat) (w' : World) : Prop :=
  Below w.heap.size w w' ∧ Blk w' g1 T1 #[.int .i64 k1, .int .i64 s1, .slice A n c] ∧ Blk w' g2 T2 #[.int .i64 k2, .int .i64 s2, .slice B m d]
section
variable {w w' w'' : World} {g1 g2 : Nat} {T1 T2 : TypeId} {k1 s1 k2 s2 : Int} {A B : Option Addr} {n m c d : Nat}
theorem At.step (h : At w g1 g2 T1 T2 k1 s1 k2 s2 A B n m c d w') (hb : Below w'.heap.size w' w'') : At w g1 g2 T1 T2 k1 s1 k2 s2 A B n m c d w'' :=
  ⟨h.1.trans (hb.mono h.1.size), h.2.1.after hb, h.2.2.after hb⟩
theorem At.cells (h : At w g1 g2 T1 T2 k1 s1 k2 s2 A B n m c d w') :
    (w'.cell? ⟨g1, 0, none⟩ = some (.int .i64 k1) ∧ w'.cell? ⟨g1, 1, none⟩ = some (.int .i64 s1) ∧ w'.cell? ⟨g1, 2, none⟩ = some (.slice A n c)) ∧
    (w'.cell? ⟨g2, 0, none⟩ = some (.int .i64 k2) ∧ w'.cell? ⟨g2, 1, none⟩ = some (.int .i64 s2) ∧ w'.cell? ⟨g2, 2, none⟩ = some (.slice B m d)) :=
  ⟨h.2.1.cells3, h.2.2.cells3⟩
theorem At.full (h : At w g1 g2 T1 T2 k1 s1 k2 s2 A B n m c d w') : At w g1 g2 T1 T2 k1 s1 k2 s2 A B n m c d w' ∧
    w'.cell? ⟨g1, 0, none⟩ = some (.int .i64 k1) ∧ w'.cell? ⟨g1, 1, none⟩ = some (.int .i64 s1) ∧ w'.cell? ⟨g1, 2, none⟩ = some (.slice A n c) ∧
    w'.cell? ⟨g2, 0, none⟩ = some (.int .i64 k2) ∧ w'.cell? ⟨g2, 1, none⟩ = some (.int .i64 s2) ∧ w'.cell? ⟨g2, 2, none⟩ = some (.slice B m d) :=
  ⟨h, h.cells.1.1, h.cells.1.2.1, h.cells.1.2.2, h.cells.2.1, h.cells.2.2.1, h.cells.2.2.2⟩
theorem At.b {R : Prop} (h : At w g1 g2 T1 T2 k1 s1 k2 s2 A B n m c d w' ∧ R) : Below w.heap.size w w' := h.1.1
theorem At.drew (h : At w g1 g2 T1 T2 k1 s1 k2 s2 A B n m c d w') : At w g1 g2 T1 T2 k1 s1 k2 s2 A B n m c d w'.drew := h.step (below_drewn w' 1)
end
def At4 (w : World) (g1 g2 g3 g4 : Nat) (T T' : TypeId) (k1 s1 k2 s2 : Int) (A B A6 A7 : Option Addr) (n m n6 n7 c d c6 c7 : Nat) (xs ys : List (List Int)) (w' : World) : Prop :=
  At w g1 g2 T T k1 s1 k2 s2 A B n m c d w' ∧ Blk w' g3 T' #[.int .i64 k1, .int .i64 s1, .slice A6 n6 c6] ∧ Blk w' g4 T' #[.int .i64 k2, .int .i64 s2, .slice A7 n7 c7] ∧ RR w' A6 n6 xs ∧ RR w' A7 n7 ys
section
variable {w w' w'' : World} {g1 g2 g3 g4 : Nat} {T T' : TypeId} {k1 s1 k2 s2 : Int} {A B A6 A7 : Option Addr} {n m n6 n7 c d c6 c7 : Nat} {xs ys : List (List Int)}
theorem At4.step (h : At4 w g1 g2 g3 g4 T T' k1 s1 k2 s2 A B A6 A7 n m n6 n7 c d c6 c7 xs ys w') (hb : Below w'.heap.size w' w'') : At4 w g1 g2 g3 g4 T T' k1 s1 k2 s2 A B A6 A7 n m n6 n7 c d c6 c7 xs ys w'' :=
  ⟨h.1.step hb, h.2.1.after hb, h.2.2.1.after hb, h.2.2.2.1.keep hb, h.2.2.2.2.keep hb⟩
theorem At4.drew (h : At4 w g1 g2 g3 g4 T T' k1 s1 k2 s2 A B A6 A7 n m n6 n7 c d c6 c7 xs ys w') : At4 w g1 g2 g3 g4 T T' k1 s1 k2 s2 A B A6 A7 n m n6 n7 c d c6 c7 xs ys w'.drew := h.step (below_drewn w' 1)
theorem At4.b {R : Prop} (h : At4 w g1 g2 g3 g4 T T' k1 s1 k2 s2 A B A6 A7 n m n6 n7 c d c6 c7 xs ys w' ∧ R) : Below w.heap.size w w' := h.1.1.1
theorem At4.rx {R : Prop} (h : At4 w g1 g2 g3 g4 T T' k1 s1 k2 s2 A B A6 A7 n m n6 n7 c d c6 c7 xs ys w' ∧ R) : RR w' A6 n6 xs := h.1.2.2.2.1
theorem At4.ry {R : Prop} (h : At4 w g1 g2 g3 g4 T T' k1 s1 k2 s2 A B A6 A7 n m n6 n7 c d c6 c7 xs ys w' ∧ R) : RR w' A7 n7 ys := h.1.2.2.2.2
theorem At4.full1 (h : At4 w g1 g2 g3 g4 T T' k1 s1 k2 s2 A B A6 A7 n m n6 n7 c d c6 c7 xs ys w') : At4 w g1 g2 g3 g4 T T' k1 s1 k2 s2 A B A6 A7 n m n6 n7 c d c6 c7 xs ys w' ∧
    w'.cell? ⟨g1, 0, none⟩ = some (.int .i64 k1) ∧ w'.cell? ⟨g1, 1, none⟩ = some (.int .i64 s1) ∧ w'.cell? ⟨g1, 2, none⟩ = some (.slice A n c) ∧
    w'.cell? ⟨g3, 0, none⟩ = some (.int .i64 k1) ∧ w'.cell? ⟨g3, 1, none⟩ = some (.int .i64 s1) ∧ w'.cell? ⟨g3, 2, none⟩ = some (.slice A6 n6 c6) :=
  ⟨h, h.1.cells.1.1, h.1.cells.1.2.1, h.1.cells.1.2.2, h.2.1.cells3.1, h.2.1.cells3.2.1, h.2.1.cells3.2.2⟩
theorem At4.full2 (h : At4 w g1 g2 g3 g4 T T' k1 s1 k2 s2 A B A6 A7 n m n6 n7 c d c6 c7 xs ys w') : At4 w g1 g2 g3 g4 T T' k1 s1 k2 s2 A B A6 A7 n m n6 n7 c d c6 c7 xs ys w' ∧
    w'.cell? ⟨g2, 0, none⟩ = some (.int .i64 k2) ∧ w'.cell? ⟨g2, 1, none⟩ = some (.int .i64 s2) ∧ w'.cell? ⟨g2, 2, none⟩ = some (.slice B m d) ∧
    w'.cell? ⟨g4, 0, none⟩ = some (.int .i64 k2) ∧ w'.cell? ⟨g4, 1, none⟩ = some (.int .i64 s2) ∧ w'.cell? ⟨g4, 2, none⟩ = some (.slice A7 n7 c7) :=
  ⟨h, h.1.cells.2.1, h.1.cells.2.2.1, h.1.cells.2.2.2, h.2.2.1.cells3.1, h.2.2.1.cells3.2.1, h.2.2.1.cells3.2.2⟩
end

set_option maxHeartbeats 1000000 in
theorem law_SameObject (k1 s1 k2 s2 : Int) (A B : Option Addr) (n m c d : Nat) (xs ys : List (List Int)) (w : World) (ha : RR w A n xs) (hb : RR w B m ys) (hn : n ≤ 9223372036854775807) (hm : m ≤ 9223372036854775807) :
    Calls Try.prog 3 #[.agg #[.int .i64 k1, .int .i64 s1, .slice A n c], .agg #[.int .i64 k2, .int .i64 s2, .slice B m d]] w fun e w' => e = .returned (.bool true) ∧ Below w.heap.size w w' := by
  have h0 : At w w.heap.size (w.heap.size + 1) 24 24 k1 s1 k2 s2 A B n m c d ((w.alloc (.cells #[.int .i64 k1, .int .i64 s1, .slice A n c] 24)).alloc (.cells #[.int .i64 k2, .int .i64 s2, .slice B m d] 24)) :=
    ⟨below_then (below_alloc w _) (below_alloc _ _), (Blk.new w _ _).alloc _, by have := Blk.new (w.alloc (.cells #[.int .i64 k1, .int .i64 s1, .slice A n c] 24)) 24 #[.int .i64 k2, .int .i64 s2, .slice B m d]; simpa using this⟩
  by_cases h1 : (bulk xs : Int) ≤ 1048576
  · have e1 : szF 1048576 (bulk xs) = 1048576 - bulk xs := by simp [szF, h1]
    have E1 := Lib.hid e1; clear e1
    by_cases h2 : (bulk ys : Int) ≤ 1048576 - bulk xs
    · have e2 : szF (1048576 - bulk xs) (bulk ys) = 1048576 - bulk xs - bulk ys := by simp [szF, h2]
      have E2 := Lib.hid e2; clear e2
      obtain ⟨bx1, bx2⟩ : n ≤ 1099511627776 ∧ lens xs n ≤ 1099511627776 := by have := bulk_eq ha; omega
      obtain ⟨by1, by2⟩ : m ≤ 1099511627776 ∧ lens ys m ≤ 1099511627776 := by have := bulk_eq hb; omega
      go_enter Try.func3, Try.ntmps3
      go_wp2_with fail
      refine (szObject_any k1 s1 1048576 A n c xs _ (ha.keep h0.1) hn (by omega) (by omega)).mono ?_
      rintro e w1 ⟨rfl, hb1⟩
      rw [E1.out]
      have h1' := h0.step hb1
      clear h0 hb1
      obtain ⟨c1, c2⟩ := h1'.cells
      go_wp2_with fail
      refine (szObject_any k2 s2 _ B m d ys _ (hb.keep h1'.1) hm (by omega) (by omega)).mono ?_
      rintro e w2 ⟨rfl, hb2⟩
      rw [E2.out]
      have h2' := h1'.step hb2
      clear h1' hb2 c1 c2
      obtain ⟨c1, c2⟩ := h2'.cells
      go_wp2_with fail
      clear c1 c2
      go_region_held3 (fun w' => At w w.heap.size (w.heap.size + 1) 24 24 k1 s1 k2 s2 A B n m c d w' ∧
          w'.cell? ⟨w.heap.size, 0, none⟩ = some (.int .i64 k1) ∧ w'.cell? ⟨w.heap.size, 1, none⟩ = some (.int .i64 s1) ∧ w'.cell? ⟨w.heap.size, 2, none⟩ = some (.slice A n c) ∧
          w'.cell? ⟨w.heap.size + 1, 0, none⟩ = some (.int .i64 k2) ∧ w'.cell? ⟨w.heap.size + 1, 1, none⟩ = some (.int .i64 s2) ∧ w'.cell? ⟨w.heap.size + 1, 2, none⟩ = some (.slice B m d))
        (first | exact h2'.drew.full | exact (At.step (And.left (by assumption)) (by assumption)).full)
        (first
          | (go_at_call 6; (with_reducible refine (toObject_any k1 s1 A n c xs _ ?_ bx1 bx2).mono ?_); (exact ha.keep (At.b (by assumption))); rintro e w3 ⟨A3, n3, c3, rfl, ho3, hb3⟩)
          | (go_at_call 6; (with_reducible refine (toObject_any k2 s2 B m d ys _ ?_ by1 by2).mono ?_); (exact hb.keep (At.b (by assumption))); rintro e w4 ⟨A4, n4, c4, rfl, ho4, hb4⟩)
          | (go_at_call 5; (with_reducible refine (spec_SameObject k1 s1 k2 s2 A3 A4 n3 n4 c3 c4 xs ys _ ?_ ?_ ?_ ?_).mono ?_); (exact ho3.reads.keep hb4); (exact ho4.reads); (have := ho3.len; have := ha.len; omega); (have := ho4.len; have := hb.len; omega); rintro e w5 ⟨rfl, hb5⟩))
      have h5 : At w w.heap.size (w.heap.size + 1) 24 24 k1 s1 k2 s2 A B n m c d w5 := And.left (by assumption)
      have hx : n3 ≤ 9223372036854775807 ∧ n4 ≤ 9223372036854775807 := by have := ho3.len; have := ha.len; have := ho4.len; have := hb.len; omega
      clear h2' hb3 hb4 hb5 ho3 ho4
      obtain ⟨c1, c2⟩ := h5.cells
      go_wp2_with fail
      refine (toObject_any k1 s1 A n c xs _ (ha.keep h5.1) bx1 bx2).mono ?_
      rintro e w6 ⟨A6, n6, c6, rfl, ho6, hb6⟩
      have h6 := h5.step hb6
      clear h5 hb6 c1 c2
      obtain ⟨c1, c2⟩ := h6.cells
      have z1 := h6.2.1.lt
      have z2 := h6.2.2.lt
      go_wp2_with fail
      refine (toObject_any k2 s2 B m d ys _ (hb.keep (h6.step (below_alloc w6 _)).1) by1 by2).mono ?_
      rintro e w7 ⟨A7, n7, c7, rfl, ho7, hb7⟩
      have X6 := (Blk.new w6 27 #[.int .i64 k1, .int .i64 s1, .slice A6 n6 c6]).after hb7
      have r6 := (ho6.reads.keep (below_alloc w6 (.cells #[.int .i64 k1, .int .i64 s1, .slice A6 n6 c6] 27))).keep hb7
      have r7 := ho7.reads
      have h7 := (h6.step (below_alloc w6 (.cells #[.int .i64 k1, .int .i64 s1, .slice A6 n6 c6] 27))).step hb7
      have g6 : n6 ≤ 9223372036854775807 ∧ n7 ≤ 9223372036854775807 := by have := ho6.len; have := ha.len; have := ho7.len; have := hb.len; omega
      clear h6 hb7 c1 c2 z1 z2 ho6 ho7 hx
      generalize hg6 : w6.heap.size = g6' at *
      have HG := Lib.hid hg6
      clear hg6
      obtain ⟨x1, x2, x3⟩ := X6.cells3
      have z3 := X6.lt
      go_wp2_with fail
      have h8 := h7.step (below_alloc w7 (.cells #[.int .i64 k2, .int .i64 s2, .slice A7 n7 c7] 27))
      have X8 := X6.alloc (.cells #[.int .i64 k2, .int .i64 s2, .slice A7 n7 c7] 27)
      have Y8 := Blk.new w7 27 #[.int .i64 k2, .int .i64 s2, .slice A7 n7 c7]
      have r6' := r6.keep (below_alloc w7 (.cells #[.int .i64 k2, .int .i64 s2, .slice A7 n7 c7] 27))
      have r7' := r7.keep (below_alloc w7 (.cells #[.int .i64 k2, .int .i64 s2, .slice A7 n7 c7] 27))
      have h9 : At4 w w.heap.size (w.heap.size + 1) g6' w7.heap.size 24 27 k1 s1 k2 s2 A B A6 A7 n m n6 n7 c d c6 c7 xs ys (w7.alloc (.cells #[.int .i64 k2, .int .i64 s2, .slice A7 n7 c7] 27)) := ⟨h8, X8, Y8, r6', r7'⟩
      clear h7 h8 X6 X8 Y8 r6 r7 x1 x2 x3 z3
      refine (impl_SameObject k1 s1 k2 s2 A6 A7 n6 n7 c6 c7 xs ys _ r6' r7' g6.1 g6.2).mono ?_
      rintro e w9 ⟨rfl, hb9⟩
      have h10 := h9.step hb9
      clear h9 hb9 r6' r7' HG
      generalize w7.heap.size = g7' at *
      go_wp2_with fail
      go_region_held3 (fun w' => At4 w w.heap.size (w.heap.size + 1) g6' g7' 24 27 k1 s1 k2 s2 A B A6 A7 n m n6 n7 c d c6 c7 xs ys w' ∧
          w'.cell? ⟨w.heap.size, 0, none⟩ = some (.int .i64 k1) ∧ w'.cell? ⟨w.heap.size, 1, none⟩ = some (.int .i64 s1) ∧ w'.cell? ⟨w.heap.size, 2, none⟩ = some (.slice A n c) ∧
          w'.cell? ⟨g6', 0, none⟩ = some (.int .i64 k1) ∧ w'.cell? ⟨g6', 1, none⟩ = some (.int .i64 s1) ∧ w'.cell? ⟨g6', 2, none⟩ = some (.slice A6 n6 c6))
        (first | exact h10.drew.full1 | exact (At4.step (And.left (by assumption)) (by assumption)).full1)
        (first
          | (go_at_call 6; (with_reducible refine (toObject_any k1 s1 A n c xs _ ?_ bx1 bx2).mono ?_); (exact ha.keep (At4.b (by assumption))); rintro e w11 ⟨A11, n11, c11, rfl, ho11, hb11⟩)
          | (go_at_call 8; (with_reducible refine (eqObject_same k1 s1 A6 A11 n6 n11 c6 c11 xs _ ?_ ?_ ?_ ?_).mono ?_); (exact At4.rx (by assumption)); (exact ho11.reads); (exact g6.1); (have := ho11.len; have := ha.len; omega); rintro e w12 ⟨rfl, hb12⟩))
      have h12 : At4 w w.heap.size (w.heap.size + 1) g6' g7' 24 27 k1 s1 k2 s2 A B A6 A7 n m n6 n7 c d c6 c7 xs ys w12 := And.left (by assumption)
      clear h10 hb11 hb12 ho11
      go_wp2_with fail
      go_region_held3 (fun w' => At4 w w.heap.size (w.heap.size + 1) g6' g7' 24 27 k1 s1 k2 s2 A B A6 A7 n m n6 n7 c d c6 c7 xs ys w' ∧
          w'.cell? ⟨w.heap.size + 1, 0, none⟩ = some (.int .i64 k2) ∧ w'.cell? ⟨w.heap.size + 1, 1, none⟩ = some (.int .i64 s2) ∧ w'.cell? ⟨w.heap.size + 1, 2, none⟩ = some (.slice B m d) ∧
          w'.cell? ⟨g7', 0, none⟩ = some (.int .i64 k2) ∧ w'.cell? ⟨g7', 1, none⟩ = some (.int .i64 s2) ∧ w'.cell? ⟨g7', 2, none⟩ = some (.slice A7 n7 c7))
        (first | exact h12.drew.full2 | exact (At4.step (And.left (by assumption)) (by assumption)).full2)
        (first
          | (go_at_call 6; (with_reducible refine (toObject_any k2 s2 B m d ys _ ?_ by1 by2).mono ?_); (exact hb.keep (At4.b (by assumption))); rintro e w13 ⟨A13, n13, c13, rfl, ho13, hb13⟩)
          | (go_at_call 8; (with_reducible refine (eqObject_same k2 s2 A7 A13 n7 n13 c7 c13 ys _ ?_ ?_ ?_ ?_).mono ?_); (exact At4.ry (by assumption)); (exact ho13.reads); (exact g6.2); (have := ho13.len; have := hb.len; omega); rintro e w14 ⟨rfl, hb14⟩))
      have h14 : At4 w w.heap.size (w.heap.size + 1) g6' g7' 24 27 k1 s1 k2 s2 A B A6 A7 n m n6 n7 c d c6 c7 xs ys w14 := And.left (by assumption)
      go_wp2_with fail
      go_ret
      exact ⟨rfl, h14.1.1⟩
    · have e2 : szF (1048576 - bulk xs) (bulk ys) = -1 := by simp [szF, h2]
      have E2 := Lib.hid e2; clear e2 h2
      go_enter Try.func3, Try.ntmps3
      go_wp2_with fail
      refine (szObject_any k1 s1 1048576 A n c xs _ (ha.keep h0.1) hn (by omega) (by omega)).mono ?_
      rintro e w1 ⟨rfl, hb1⟩
      rw [E1.out]
      have h1' := h0.step hb1
      clear h0 hb1
      obtain ⟨c1, c2⟩ := h1'.cells
      go_wp2_with fail
      refine (szObject_any k2 s2 _ B m d ys _ (hb.keep h1'.1) hm (by omega) (by omega)).mono ?_
      rintro e w2 ⟨rfl, hb2⟩
      rw [E2.out]
      have h2' := h1'.step hb2
      go_wp2_with fail
      go_ret
      exact ⟨rfl, h2'.1⟩
  · have e1 : szF 1048576 (bulk xs) = -1 := by simp [szF, h1]
    have E1 := Lib.hid e1; clear e1 h1
    go_enter Try.func3, Try.ntmps3
    go_wp2_with fail
    refine (szObject_any k1 s1 1048576 A n c xs _ (ha.keep h0.1) hn (by omega) (by omega)).mono ?_
    rintro e w1 ⟨rfl, hb1⟩
    rw [E1.out]
    have h1' := h0.step hb1
    go_wp2_with fail
    go_ret
    exact ⟨rfl, h1'.1⟩
end Go.Proofs.Ytonjkdalkpccpaa
