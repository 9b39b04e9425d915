/- The law on ArrayObject. No condition. -/
import Derived.Test.YtemdjochphehjaaGreatQGC
import Derived.Test.YtemdjochphehjaaGreatQKA
import Derived.Deep.RegionHeld3
set_option linter.unusedVariables false
set_option linter.unusedSimpArgs false
namespace Go.Proofs.YtemdjochphehjaaGreat
open Go.RowKit

set_option maxHeartbeats 400000 in
theorem eqArray_same (lv co : Int) (A B : Option Addr) (n m c d : Nat) (xs : List (List Int)) (w : World) (ha : RR w A n xs) (hb : RR w B m xs) (hn : n ≤ 9223372036854775807) (hm : m ≤ 9223372036854775807) :
    Calls Tryz.prog 35 #[.agg #[.int .i64 lv, .int .i64 co, .slice A n c], .agg #[.int .i64 lv, .int .i64 co, .slice B m d]] w fun e w' => e = .returned (.bool true) ∧ Below w.heap.size w w' := by
  have hb2 := below_then (below_alloc w (.cells #[.int .i64 lv, .int .i64 co, .slice A n c] 60)) (below_alloc (w.alloc (.cells #[.int .i64 lv, .int .i64 co, .slice A n c] 60)) (.cells #[.int .i64 lv, .int .i64 co, .slice B m d] 60))
  have ha' := ha.keep hb2
  have hb' := hb.keep hb2
  clear ha hb
  go_enter Tryz.func35, Tryz.ntmps35
  go_wp2_with (go_at_call 57; refine (eqInt64SS_any _ _ _ _ _ _ xs xs _ ha' hb' hn hm).mono ?_; rintro e w1 ⟨rfl, hd1⟩; rw [show decide (xs = xs) = true from by simp])
  go_ret
  exact ⟨rfl, hb2.trans (hd1.below.mono hb2.size)⟩
set_option maxHeartbeats 400000 in
theorem markArray_any (lv co : Int) (B D : Nat) (A : Option Addr) (n c k : Nat) (zss : List (List Int)) (w : World) (ha : ORd w B D 22 2 A n c zss) (hc : n ≤ 1099511627776) (hn : k + cells zss ≤ 4611686018427387904) :
    Calls Tryz.prog 36 #[.agg #[.int .i64 lv, .int .i64 co, .slice A n c], .int .i64 k] w fun en w' => en = .returned (.int .i64 ((k + cells zss : Nat) : Int)) ∧ ORd w' B D 22 2 A n c (marksR k zss) ∧ Mid w w' B D := by
  have hb := below_alloc w (.cells #[.int .i64 lv, .int .i64 co, .slice A n c] 60)
  go_enter Tryz.func36, Tryz.ntmps36
  go_wp2_with fail
  refine (markInt64SS_any B D _ _ A n c k zss _ (ha.below hb) hc hn).mono ?_
  rintro e w1 ⟨rfl, ho, hm⟩
  go_wp2
  go_ret
  exact ⟨rfl, ho, (Mid.of_below hb (Nat.le_refl _) B D).trans hm⟩

theorem keep2 {W w' : World} {p q : Addr} {u x : Value} (hb : Below W.heap.size W w') (h1 : W.cell? p = some u) (h2 : W.cell? q = some x) : Below W.heap.size W w' ∧ w'.cell? p = some u ∧ w'.cell? q = some x := ⟨hb, below_cell hb h1, below_cell hb h2⟩
set_option maxHeartbeats 2000000 in
theorem l30Array_any (g : Nat) (K s : Int) (A : Option Addr) (n c : Nat) (rs : List (List Int)) (w : World) (hB : Blk w g 30 #[.int .i64 K, .int .i64 s, .slice A n c]) (ha : RR w A n rs) (h0 : 0 < n) (hn : n ≤ c) (hc : c ≤ 9223372036854775807) :
    Calls Tryz.prog 77 #[.pointer (some ⟨g, 0, none⟩)] w fun e w' => e = .returned (.agg #[.int .i64 s, .int .i64 (row rs 0).length, .slice A n c]) ∧ Below w.heap.size w w' := by
  obtain ⟨k1, k2, k3⟩ := hB.cells3
  obtain ⟨a, A1, n1, c1, rfl, hca, hn1, hc1, ha1⟩ := ha.get h0
  have hl1 := Lib.hid ha1.len
  go_enter Tryz.func77, Tryz.ntmps77
  go_wp2
  go_region_held3 (fun w' => Below w.heap.size w w' ∧ w'.cell? ⟨g, 1, none⟩ = some (.int .i64 s) ∧ w'.cell? ⟨g, 2, none⟩ = some (.slice (some a) n c))
    (first | exact keep2 ((below_alloc w _).trans (below_drewn' _ _ 1)) k2 k3 | exact keep2 (((below_alloc w _).alloc (by simp) _).trans (below_drewn' _ _ 1)) k2 k3)
    (fail)
  generalize hw1 : World.drew _ = w1
  have hb1 : Below w.heap.size w w1 := by rw [← hw1]; exact ((below_alloc w _).alloc (by simp) _).trans (below_drewn' _ _ 1)
  have Y1 : Blk w1 w.heap.size 60 #[.int .i64 0, .int .i64 0, .slice none 0 0] := by rw [← hw1]; exact (Blk.new w _ _).alloc _
  have X1 : Blk w1 (w.heap.size + 1) 60 #[.int .i64 s, .int .i64 0, .slice (some a) n c] := by
    rw [← hw1]
    have := Blk.new (w.alloc (.cells #[.int .i64 0, .int .i64 0, .slice none 0 0] 60)) 60 #[.int .i64 s, .int .i64 0, .slice (some a) n c]
    simp at this
    exact this
  clear hw1 k1 k2 k3
  have hca1 := below_cell hb1 hca
  have hca2 : w1.cell? a = some (.slice A1 n1 c1) := by simpa [Addr.add] using hca1
  obtain ⟨k1, k2, k3⟩ := (hB.after hb1).cells3
  obtain ⟨x0, x1, x2⟩ := X1.cells3
  obtain ⟨y0, y1, y2⟩ := Y1.cells3
  have f1 := X1.frozen 1
  have g0 := Y1.frozen 0
  have g1 := Y1.frozen 1
  have g2 := Y1.frozen 2
  have X2 : Blk (w1.setCell ⟨w.heap.size + 1, 1, none⟩ (.int .i64 n1)) (w.heap.size + 1) 60 #[.int .i64 s, .int .i64 n1, .slice (some a) n c] := X1.set_ 1 _
  obtain ⟨v0, v1, v2⟩ := X2.cells3
  go_wp2
  refine bodyPost_ret (v := .agg #[.int .i64 s, .int .i64 n1, .slice (some a) n c]) (by simp [results, Tryz.results77, go_sem, y0, y1, y2]) rfl ⟨by rw [hl1.out], ?_⟩
  repeat (refine Below.setCell ?_ (by simp <;> omega) _)
  exact hb1



end Go.Proofs.YtemdjochphehjaaGreat
/- The laws' helpers for objects as arguments. No condition beyond those stated. -/
namespace Go.Proofs.YtemdjochphehjaaGreat
open Go.RowKit

set_option maxHeartbeats 400000 in
theorem szObject_any (k s l : Int) (A : Option Addr) (n c : Nat) (xs : List (List Int)) (w : World) (ha : RR w A n xs) (hn : n ≤ 9223372036854775807) (h0 : 0 ≤ l) (hl : l ≤ 1048576) :
    Calls Tryz.prog 19 #[.agg #[.int .i64 k, .int .i64 s, .slice A n c], .int .i64 l] w fun e w' => e = .returned (.int .i64 (szF l (bulk xs))) ∧ Below w.heap.size w w' := by
  have hb1 := below_alloc w (.cells #[.int .i64 k, .int .i64 s, .slice A n c] 42)
  have ha' := ha.keep hb1
  clear ha
  by_cases h : (bulk xs : Int) ≤ l
  · have H := Lib.hid (show szF l (bulk xs) = l - bulk xs by simp [szF, h])
    go_enter Tryz.func19, Tryz.ntmps19
    go_wp2_with (go_at_call 44; refine (szInt64SS_any _ _ _ _ xs _ ha' hn h0 hl).mono ?_; rintro e w1 ⟨rfl, rfl⟩; rw [H.out])
    go_ret
    exact ⟨by rw [H.out]; rfl, hb1⟩
  · have H := Lib.hid (show szF l (bulk xs) = -1 by simp [szF, h])
    clear h
    go_enter Tryz.func19, Tryz.ntmps19
    go_wp2_with (go_at_call 44; refine (szInt64SS_any _ _ _ _ xs _ ha' hn h0 hl).mono ?_; rintro e w1 ⟨rfl, rfl⟩; rw [H.out])
    go_ret
    exact ⟨by rw [H.out]; rfl, hb1⟩

/-- an object in memory of its own -/
def RetObj (w : World) (k s : Int) (zss : List (List Int)) (en : Ending) (w' : World) : Prop :=
  ∃ A n c, en = .returned (.agg #[.int .i64 k, .int .i64 s, .slice A n c]) ∧ OR w' w.heap.size 22 2 A n c zss ∧ Below w.heap.size w w'

set_option maxHeartbeats 400000 in
theorem toObject_any (k s : Int) (A : Option Addr) (n c : Nat) (xs : List (List Int)) (w : World) (ha : RR w A n xs) (hn : n ≤ 1099511627776) (hr : lens xs n ≤ 1099511627776) :
    Calls Tryz.prog 21 #[.agg #[.int .i64 k, .int .i64 s, .slice A n c]] w (RetObj w k s xs) := by
  have hb1 := below_alloc w (.cells #[.int .i64 k, .int .i64 s, .slice A n c] 42)
  go_enter Tryz.func21, Tryz.ntmps21
  go_wp2_with fail
  refine (toInt64SS_any A n c xs _ (ha.keep ((hb1.alloc (by simp) _).alloc (by simp; omega) _)) hn hr).mono ?_
  rintro e w1 ⟨A2, n2, c2, rfl, ho, hb⟩
  obtain ⟨hc, hf⟩ := bcell hb
  have hz : w.heap.size + 1 + 1 < w1.heap.size := by have := hb.size; simp at this; omega
  go_wp2
  refine bodyPost_ret (v := .agg #[.int .i64 k, .int .i64 s, .slice A2 n2 c2]) (by simp [results, Tryz.results21, go_sem, hc]) rfl ⟨A2, n2, c2, rfl, ?_, ?_⟩
  · have ho' : OR w1 (w.heap.size + 1 + 1 + 1) 22 2 A2 n2 c2 xs := by simpa using ho
    refine OR.more (B := w.heap.size + 1 + 1 + 1) ?_ (by omega)
    repeat (refine OR.setLow ?_ (by simp) _)
    exact ho'
  · repeat (refine Below.setCell ?_ (by simp; try omega) _)
    exact ((hb1.alloc (by simp) _).alloc (by simp; omega) _).trans (hb.mono (by simp; omega))
end Go.Proofs.YtemdjochphehjaaGreat
