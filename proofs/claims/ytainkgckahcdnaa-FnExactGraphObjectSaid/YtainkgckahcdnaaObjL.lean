/- The laws on functions that return an object: words for what stands in memory between their calls. No condition beyond those stated. -/
import Derived.Test.YtainkgckahcdnaaObj
namespace Go.Proofs.Ytainkgckahcdnaa
open Go.RowKit

theorem szF_nonneg {l t : Int} (h : ¬ szF l t < 0) : t ≤ l ∧ szF l t = l - t := by
  unfold szF at *
  split
  · omega
  · rename_i h1
    rw [if_neg h1] at h
    omega

set_option maxHeartbeats 400000 in
theorem eqObject_same (k s : Int) (A B : Option Addr) (n m c d : Nat) (xs : List (List Int)) (w : World) (ha : RR w A n xs) (hb : RR w B m xs) (hn : n ≤ 9223372036854775807) (hm : m ≤ 9223372036854775807) :
    Calls Try.prog 12 #[.agg #[.int .i64 k, .int .i64 s, .slice A n c], .agg #[.int .i64 k, .int .i64 s, .slice B m d]] w fun e w' => e = .returned (.bool true) ∧ Below w.heap.size w w' := by
  have hb2 := below_then (below_alloc w (.cells #[.int .i64 k, .int .i64 s, .slice A n c] 25)) (below_alloc (w.alloc (.cells #[.int .i64 k, .int .i64 s, .slice A n c] 25)) (.cells #[.int .i64 k, .int .i64 s, .slice B m d] 25))
  have ha' := ha.keep hb2
  have hb' := hb.keep hb2
  clear ha hb
  go_enter Try.func12, Try.ntmps12
  go_wp2_with (go_at_call 13; refine (eqInt64SS_any _ _ _ _ _ _ xs xs _ ha' hb' hn hm).mono ?_; rintro e w1 ⟨rfl, hd1⟩; rw [show decide (xs = xs) = true from by simp])
  go_ret
  exact ⟨rfl, hb2.trans (hd1.below.mono hb2.size)⟩
set_option maxHeartbeats 400000 in
theorem markObject_any (k s : Int) (B D : Nat) (A : Option Addr) (n c m : Nat) (zss : List (List Int)) (w : World) (ha : ORd w B D 51 2 A n c zss) (hc : n ≤ 1099511627776) (hn : m + cells zss ≤ 4611686018427387904) :
    Calls Try.prog 15 #[.agg #[.int .i64 k, .int .i64 s, .slice A n c], .int .i64 m] w fun en w' => en = .returned (.int .i64 ((m + cells zss : Nat) : Int)) ∧ ORd w' B D 51 2 A n c (marksR m zss) ∧ Mid w w' B D := by
  have hb := below_alloc w (.cells #[.int .i64 k, .int .i64 s, .slice A n c] 25)
  go_enter Try.func15, Try.ntmps15
  go_wp2_with fail
  refine (markInt64SS_any B D _ _ A n c m zss _ (ha.below hb) hc hn).mono ?_
  rintro e w1 ⟨rfl, ho, hm⟩
  go_wp2
  go_ret
  exact ⟨rfl, ho, (Mid.of_below hb (Nat.le_refl _) B D).trans hm⟩
set_option maxHeartbeats 400000 in
theorem heldObject_any (k s : Int) (A : Option Addr) (n c m : Nat) (zss : List (List Int)) (w : World) (ha : RR w A n (marksR m zss)) (hc : n ≤ 1099511627776) (hn : m + cells zss ≤ 4611686018427387904) :
    Calls Try.prog 16 #[.agg #[.int .i64 k, .int .i64 s, .slice A n c], .int .i64 m] w fun en w' => en = .returned (.int .i64 ((m + cells zss : Nat) : Int)) ∧ Below w.heap.size w w' := by
  have hb := below_alloc w (.cells #[.int .i64 k, .int .i64 s, .slice A n c] 25)
  go_enter Try.func16, Try.ntmps16
  go_wp2_with fail
  refine (heldInt64SS_any A n c m zss _ (ha.keep hb) hc hn).mono ?_
  rintro e w' ⟨rfl, rfl⟩
  go_wp2
  go_ret
  exact ⟨rfl, hb⟩

/-- between the calls of a law: the reference's object (its variable in block g4, its rows read since w2), the program's one (its variable in block g7, its rows from B on and below D), which holds Y -/
structure LSt (w w2 w' : World) (T : TypeId) (K S : Int) (Z Y : List (List Int)) (g4 g7 B D : Nat) (A2 A4 : Option Addr) (n2 c2 n4 c4 : Nat) : Prop where
  bw : Below w.heap.size w w2
  b2 : Below w2.heap.size w2 w'
  r2 : RR w2 A2 n2 Z
  x4 : Blk w' g4 T #[.int .i64 K, .int .i64 S, .slice A2 n2 c2]
  x7 : Blk w' g7 T #[.int .i64 K, .int .i64 S, .slice A4 n4 c4]
  o4 : ORd w' B D 51 2 A4 n4 c4 Y
  hB : w2.heap.size ≤ B
section
variable {w w2 w' w'' : World} {T : TypeId} {K S : Int} {Z Y Y' : List (List Int)} {g4 g7 B D : Nat} {A2 A4 : Option Addr} {n2 c2 n4 c4 : Nat}
theorem LSt.below (h : LSt w w2 w' T K S Z Y g4 g7 B D A2 A4 n2 c2 n4 c4) : Below w.heap.size w w' := h.bw.trans (h.b2.mono h.bw.size)
theorem LSt.step (h : LSt w w2 w' T K S Z Y g4 g7 B D A2 A4 n2 c2 n4 c4) (hb : Below w'.heap.size w' w'') : LSt w w2 w'' T K S Z Y g4 g7 B D A2 A4 n2 c2 n4 c4 :=
  ⟨h.bw, h.b2.trans (hb.mono h.b2.size), h.r2, h.x4.after hb, h.x7.after hb, h.o4.below hb, h.hB⟩
theorem LSt.mid {B' D' : Nat} (h : LSt w w2 w' T K S Z Y g4 g7 B D A2 A4 n2 c2 n4 c4) (hm : Mid w' w'' B' D') (h1 : w2.heap.size ≤ B') (h4 : g4 < B' ∨ D' ≤ g4) (h7 : g7 < B' ∨ D' ≤ g7) (ho : D' ≤ B ∨ D ≤ B') : LSt w w2 w'' T K S Z Y g4 g7 B D A2 A4 n2 c2 n4 c4 :=
  ⟨h.bw, h.b2.trans ((Mid.below (B := w2.heap.size) (D := D') ⟨hm.os, hm.tape, hm.output, hm.size, fun k hk hb => hm.blk k hk (hb.elim (fun h => .inl (by omega)) .inr)⟩ h.b2.size)), h.r2, h.x4.mid hm h4, h.x7.mid hm h7, h.o4.mid hm ho, h.hB⟩
theorem LSt.marked (h : LSt w w2 w' T K S Z Y g4 g7 B D A2 A4 n2 c2 n4 c4) (hm : Mid w' w'' B D) (ho : ORd w'' B D 51 2 A4 n4 c4 Y') (h4 : g4 < B ∨ D ≤ g4) (h7 : g7 < B ∨ D ≤ g7) : LSt w w2 w'' T K S Z Y' g4 g7 B D A2 A4 n2 c2 n4 c4 :=
  ⟨h.bw, h.b2.trans ((Mid.below (B := w2.heap.size) (D := D) ⟨hm.os, hm.tape, hm.output, hm.size, fun k hk hb => hm.blk k hk (hb.elim (fun h' => .inl (by have := h.hB; omega)) .inr)⟩ h.b2.size)), h.r2, h.x4.mid hm h4, h.x7.mid hm h7, ho, h.hB⟩
theorem LSt.cells (h : LSt w w2 w' T K S Z Y g4 g7 B D A2 A4 n2 c2 n4 c4) :
    (w'.cell? ⟨g4, 0, none⟩ = some (.int .i64 K) ∧ w'.cell? ⟨g4, 1, none⟩ = some (.int .i64 S) ∧ w'.cell? ⟨g4, 2, none⟩ = some (.slice A2 n2 c2)) ∧
    (w'.cell? ⟨g7, 0, none⟩ = some (.int .i64 K) ∧ w'.cell? ⟨g7, 1, none⟩ = some (.int .i64 S) ∧ w'.cell? ⟨g7, 2, none⟩ = some (.slice A4 n4 c4)) := ⟨h.x4.cells3, h.x7.cells3⟩
theorem LSt.rd (h : LSt w w2 w' T K S Z Y g4 g7 B D A2 A4 n2 c2 n4 c4) : RR w' A2 n2 Z := h.r2.keep h.b2
end
end Go.Proofs.Ytainkgckahcdnaa
