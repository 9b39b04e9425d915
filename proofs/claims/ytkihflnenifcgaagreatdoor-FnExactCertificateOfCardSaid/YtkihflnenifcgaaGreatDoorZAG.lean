/- Calls of a library function that asks a function value of each element: whether one is found, for slices of numbers and slices of such slices. No condition beyond those stated. -/
import Derived.Test.YtkihflnenifcgaaGreatDoorProg
import Derived.Test.YtkihflnenifcgaaGreatDoorZAB
import Derived.Test.YtkihflnenifcgaaGreatDoorZAC
import Derived.Test.YtkihflnenifcgaaGreatDoorZAF
import Derived.Shelf.GgClosure.Gives
import Derived.Test.YtkihflnenifcgaaGreatDoorZAE
set_option linter.unusedVariables false
set_option linter.unusedSimpArgs false
namespace Go.Proofs.YtkihflnenifcgaaGreatDoor
open Go.RowKit

/-- a place that was found, or -1 -/
def SomeIdx (w : World) (b : Bool) (e : Ending) (w' : World) : Prop := ∃ r : Int, e = .returned (.int .i64 r) ∧ -1 ≤ r ∧ r ≤ 9223372036854775807 ∧ decide (0 ≤ r) = b ∧ Below w.heap.size w w'
/-- a bool, and new blocks at most -/
def RetB (w : World) (b : Bool) (e : Ending) (w' : World) : Prop := e = .returned (.bool b) ∧ Below w.heap.size w w'
theorem RetB.of_quiet {w w' : World} {b : Bool} {e : Ending} (h : Quiet w (.bool b) e w') : RetB w b e w' := ⟨h.1, h.2.below⟩
theorem RetB.of_same {w w' : World} {b : Bool} {e : Ending} (h : e = .returned (.bool b) ∧ w = w') : RetB w b e w' := ⟨h.1, h.2 ▸ Below.refl _ _⟩
/-- a function value that tells of each number whether p holds -/
def AskI (g : Nat) (lb : Array Value) (p : Int → Bool) (w : World) : Prop :=
  ∀ (x : Int) (W : World), Below w.heap.size w W → I64 x → Calls Tryz.prog g (#[.int .i64 x] ++ lb) W (RetB W (p x))
/-- a function value that tells of each list whether p holds -/
def AskR (g : Nat) (lb : Array Value) (p : List Int → Bool) (w : World) : Prop :=
  ∀ (A : Option Addr) (n c : Nat) (z : List Int) (W : World), Below w.heap.size w W → RI W A n z → n ≤ c → c ≤ 9223372036854775807 → Calls Tryz.prog g (#[.slice A n c] ++ lb) W (RetB W (p z))
/-- a function value that tells of each number whether p holds, and leaves the world as it is -/
def AskIq (g : Nat) (lb : Array Value) (p : Int → Bool) (w : World) : Prop :=
  ∀ (x : Int), I64 x → Calls Tryz.prog g (#[.int .i64 x] ++ lb) w fun e w' => e = .returned (.bool (p x)) ∧ w = w'
/-- the same for lists of at most L numbers -/
def AskRb (g : Nat) (lb : Array Value) (p : List Int → Bool) (w : World) (L : Nat) : Prop :=
  ∀ (A : Option Addr) (n c : Nat) (z : List Int) (W : World), Below w.heap.size w W → RI W A n z → n ≤ c → c ≤ 9223372036854775807 → n ≤ L → Calls Tryz.prog g (#[.slice A n c] ++ lb) W (RetB W (p z))
def smallRows (zs : List (List Int)) (L : Nat) : Prop := ∀ i, i < zs.length → (row zs i).length ≤ L
theorem rows_small {w : World} {A : Option Addr} {n L : Nat} {zs : List (List Int)} (_ : RR w A n zs) (h : cells zs ≤ L) : smallRows zs L := fun i hi => by
  have h1 := cells_take zs hi
  have h2 := cells_le zs (i + 1)
  omega
def noneTo {α : Type} (p : α → Bool) (xs : List α) (k : Nat) : Prop := ∀ j x, j < k → xs[j]? = some x → p x = false
theorem noneTo_step {α : Type} {p : α → Bool} {xs : List α} {k : Nat} {x : α} (h : noneTo p xs k) (hx : xs[k]? = some x) (hp : p x = false) : noneTo p xs (k + 1) := fun j y hj hy => by
  rcases Nat.lt_succ_iff_lt_or_eq.1 hj with h' | h'
  · exact h j y h' hy
  · subst h'; rw [hx] at hy; injection hy with hy; rw [← hy]; exact hp
theorem noneTo_all {α : Type} {p : α → Bool} {xs : List α} (h : noneTo p xs xs.length) : xs.any p = false := by
  rw [List.any_eq_false]
  intro x hx
  obtain ⟨j, hj, rfl⟩ := List.mem_iff_getElem.1 hx
  simpa using h j _ hj (List.getElem?_eq_getElem hj)
theorem any_hit {α : Type} {p : α → Bool} {xs : List α} {k : Nat} {x : α} (hx : xs[k]? = some x) (hp : p x = true) : xs.any p = true :=
  List.any_eq_true.2 ⟨x, List.mem_of_getElem? hx, hp⟩

set_option maxHeartbeats 1000000 in
theorem indexFuncI (g : Nat) (lb : Array Value) (eg : ∀ args w, (callFunc g args).run Tryz.prog w = .ok (.enter g args) w) (p : Int → Bool) (A : Option Addr) (n c : Nat) (zs : List Int) (w : World) (ha : RI w A n zs) (hn : n ≤ 9223372036854775807) (hp : AskI g lb p w) :
    Calls Tryz.prog 85 #[.slice A n c, .func (.func g) #[] lb] w (SomeIdx w (zs.any p)) := by
  have hla := Lib.hid ha.len
  go_enter Tryz.func85, Tryz.ntmps85
  go_wp2
  go_loopw [5, 8] (fun _ i wr => ∃ k : Nat, k ≤ n ∧ i = .int .i64 k ∧ Below w.heap.size w wr ∧ noneTo p zs k) (fun _ i _ => n - (intOf i).toNat)
  case atStart => exact ⟨0, Nat.zero_le _, rfl, Below.refl _ _, fun j _ h => absurd h (by omega)⟩
  case round =>
    obtain ⟨k, hk, rfl, hb, hnone⟩ := hrel
    by_cases hlt : k < n
    · obtain ⟨a, rfl, hca, hia⟩ := (ha.keep hb).get hlt
      have hz : zs[k]? = some (nth zs k) := nth_some (by rw [hla.out]; exact hlt)
      have hcall := hp (nth zs k)
      cases hq : p (nth zs k) with
      | true =>
        rw [hq] at hcall
        have H := Lib.hid (any_hit hz hq)
        clear hnone hz hq
        go_wp2_with (go_at_fn g; refine (hcall _ hb hia).mono ?_; rintro e w1 ⟨rfl, hb1⟩)
        go_ret
        exact ⟨k, rfl, by omega, by omega, by rw [H.out]; simp, hb.trans (hb1.mono hb.size)⟩
      | false =>
        rw [hq] at hcall
        have H := Lib.hid (noneTo_step hnone hz hq)
        clear hnone hz hq
        go_wp2_with (go_at_fn g; refine (hcall _ hb hia).mono ?_; rintro e w1 ⟨rfl, hb1⟩)
        go_roundw
        case rel => exact ⟨k + 1, by omega, by go_num, hb.trans (hb1.mono hb.size), H.out⟩
        case measure => simp [intOf]; omega
    · have H := Lib.hid (show zs.any p = false from noneTo_all (by rw [hla.out]; rwa [show k = n by omega] at hnone))
      clear hnone
      go_wp2
      go_ret
      exact ⟨-1, rfl, by omega, by omega, by rw [H.out]; simp, hb⟩
set_option maxHeartbeats 400000 in
theorem containsFuncI (g : Nat) (lb : Array Value) (eg : ∀ args w, (callFunc g args).run Tryz.prog w = .ok (.enter g args) w) (p : Int → Bool) (A : Option Addr) (n c : Nat) (zs : List Int) (w : World) (ha : RI w A n zs) (hn : n ≤ 9223372036854775807) (hp : AskI g lb p w) :
    Calls Tryz.prog 55 #[.slice A n c, .func (.func g) #[] lb] w (RetB w (zs.any p)) := by
  go_enter Tryz.func55, Tryz.ntmps55
  go_wp2_with fail
  refine (indexFuncI g lb eg p A n c zs _ ha hn hp).mono ?_
  rintro e w1 ⟨r, rfl, h1, h2, h3, hb⟩
  have H := Lib.hid h3
  clear h3
  go_wp2
  go_ret
  exact ⟨by rw [← H.out]; rfl, hb⟩
set_option maxHeartbeats 1000000 in
theorem indexFuncIq (g : Nat) (lb : Array Value) (eg : ∀ args w, (callFunc g args).run Tryz.prog w = .ok (.enter g args) w) (p : Int → Bool) (A : Option Addr) (n c : Nat) (zs : List Int) (w : World) (ha : RI w A n zs) (hn : n ≤ 9223372036854775807) (hp : AskIq g lb p w) :
    Calls Tryz.prog 85 #[.slice A n c, .func (.func g) #[] lb] w fun e w' => ∃ r : Int, e = .returned (.int .i64 r) ∧ -1 ≤ r ∧ r ≤ 9223372036854775807 ∧ Hid (decide (0 ≤ r) = zs.any p) ∧ w = w' := by
  have hla := Lib.hid ha.len
  go_enter Tryz.func85, Tryz.ntmps85
  go_wp2
  go_loop [5, 8] (fun _ i => ∃ k : Nat, k ≤ n ∧ i = .int .i64 k ∧ noneTo p zs k) (fun _ i => n - (intOf i).toNat)
  case atStart => exact ⟨0, Nat.zero_le _, rfl, fun j _ h => absurd h (by omega)⟩
  case round =>
    obtain ⟨k, hk, rfl, hnone⟩ := hrel
    by_cases hlt : k < n
    · obtain ⟨a, rfl, hca, hia⟩ := ha.get hlt
      have hz : zs[k]? = some (nth zs k) := nth_some (by rw [hla.out]; exact hlt)
      have hcall := hp (nth zs k) hia
      cases hq : p (nth zs k) with
      | true =>
        rw [hq] at hcall
        have H := Lib.hid (any_hit hz hq)
        clear hnone hz hq
        go_wp2_with (go_at_fn g; refine hcall.mono ?_; rintro e w1 ⟨rfl, rfl⟩)
        go_ret
        exact ⟨k, rfl, by omega, by omega, Lib.hid (by rw [H.out]; simp), rfl⟩
      | false =>
        rw [hq] at hcall
        have H := Lib.hid (noneTo_step hnone hz hq)
        clear hnone hz hq
        go_wp2_with (go_at_fn g; refine hcall.mono ?_; rintro e w1 ⟨rfl, rfl⟩)
        go_round
        case rel => exact ⟨k + 1, by omega, by go_num, H.out⟩
        case measure => simp [intOf]; omega
    · have H := Lib.hid (show zs.any p = false from noneTo_all (by rw [hla.out]; rwa [show k = n by omega] at hnone))
      clear hnone
      go_wp2
      go_ret
      exact ⟨-1, rfl, by omega, by omega, Lib.hid (by rw [H.out]; simp), rfl⟩
set_option maxHeartbeats 400000 in
theorem containsFuncIq (g : Nat) (lb : Array Value) (eg : ∀ args w, (callFunc g args).run Tryz.prog w = .ok (.enter g args) w) (p : Int → Bool) (A : Option Addr) (n c : Nat) (zs : List Int) (w : World) (ha : RI w A n zs) (hn : n ≤ 9223372036854775807) (hp : AskIq g lb p w) :
    Calls Tryz.prog 55 #[.slice A n c, .func (.func g) #[] lb] w fun e w' => e = .returned (.bool (zs.any p)) ∧ w = w' := by
  go_enter Tryz.func55, Tryz.ntmps55
  go_wp2_with fail
  refine (indexFuncIq g lb eg p A n c zs _ ha hn hp).mono ?_
  rintro e w1 ⟨r, rfl, h1, h2, H, rfl⟩
  go_wp2
  go_ret
  exact ⟨by rw [← H.out]; rfl, rfl⟩
end Go.Proofs.YtkihflnenifcgaaGreatDoor
/- Objects: made, copied, marked, held and compared. No condition beyond those stated. -/
namespace Go.Proofs.YtkihflnenifcgaaGreatDoor
open Go.RowKit

theorem bcell {W w1 : World} (hb : Below W.heap.size W w1) : (∀ b o, b < W.heap.size → w1.cell? ⟨b, o, none⟩ = W.cell? ⟨b, o, none⟩) ∧ (∀ b o, b < W.heap.size → w1.frozen? ⟨b, o, none⟩ = W.frozen? ⟨b, o, none⟩) :=
  ⟨fun b o h => hb.cell (p := ⟨b, o, none⟩) h, fun b o h => hb.frozen (p := ⟨b, o, none⟩) h⟩
/-- an object whose rows lie in memory of the call's own -/
def RetO (w : World) (k s : Int) (zss : List (List Int)) (en : Ending) (w' : World) : Prop :=
  ∃ A n c, en = .returned (.agg #[.int .i64 k, .int .i64 s, .slice A n c]) ∧ OR w' w.heap.size 24 2 A n c zss ∧ Below w.heap.size w w'
/-- the same, and a code -/
def RetOC (w : World) (k s : Int) (zss : List (List Int)) (code : Int) (en : Ending) (w' : World) : Prop :=
  ∃ A n c, en = .returned (.tuple #[.agg #[.int .i64 k, .int .i64 s, .slice A n c], .int .i64 code]) ∧ OR w' w.heap.size 24 2 A n c zss ∧ Below w.heap.size w w'

end Go.Proofs.YtkihflnenifcgaaGreatDoor
/- The laws on functions that return an object: words for what stands in memory between their calls. No condition beyond those stated. -/
namespace Go.Proofs.YtkihflnenifcgaaGreatDoor
open Go.RowKit

theorem szF_nonneg {l t : Int} (h : ¬ szF l t < 0) : t ≤ l ∧ szF l t = l - t := by
  unfold szF at *
  split
  · omega
  · rename_i h1
    rw [if_neg h1] at h
    omega


/-- between the calls of a law: the reference's object (its variable in block g4, its rows read since w2), the program's one (its variable in block g7, its rows from B on and below D), which holds Y -/
structure LSt (w w2 w' : World) (T : TypeId) (K S : Int) (Z Y : List (List Int)) (g4 g7 B D : Nat) (A2 A4 : Option Addr) (n2 c2 n4 c4 : Nat) : Prop where
  bw : Below w.heap.size w w2
  b2 : Below w2.heap.size w2 w'
  r2 : RR w2 A2 n2 Z
  x4 : Blk w' g4 T #[.int .i64 K, .int .i64 S, .slice A2 n2 c2]
  x7 : Blk w' g7 T #[.int .i64 K, .int .i64 S, .slice A4 n4 c4]
  o4 : ORd w' B D 24 2 A4 n4 c4 Y
  hB : w2.heap.size ≤ B
section
variable {w w2 w' w'' : World} {T : TypeId} {K S : Int} {Z Y Y' : List (List Int)} {g4 g7 B D : Nat} {A2 A4 : Option Addr} {n2 c2 n4 c4 : Nat}
theorem LSt.below (h : LSt w w2 w' T K S Z Y g4 g7 B D A2 A4 n2 c2 n4 c4) : Below w.heap.size w w' := h.bw.trans (h.b2.mono h.bw.size)
theorem LSt.step (h : LSt w w2 w' T K S Z Y g4 g7 B D A2 A4 n2 c2 n4 c4) (hb : Below w'.heap.size w' w'') : LSt w w2 w'' T K S Z Y g4 g7 B D A2 A4 n2 c2 n4 c4 :=
  ⟨h.bw, h.b2.trans (hb.mono h.b2.size), h.r2, h.x4.after hb, h.x7.after hb, h.o4.below hb, h.hB⟩
theorem LSt.mid {B' D' : Nat} (h : LSt w w2 w' T K S Z Y g4 g7 B D A2 A4 n2 c2 n4 c4) (hm : Mid w' w'' B' D') (h1 : w2.heap.size ≤ B') (h4 : g4 < B' ∨ D' ≤ g4) (h7 : g7 < B' ∨ D' ≤ g7) (ho : D' ≤ B ∨ D ≤ B') : LSt w w2 w'' T K S Z Y g4 g7 B D A2 A4 n2 c2 n4 c4 :=
  ⟨h.bw, h.b2.trans ((Mid.below (B := w2.heap.size) (D := D') ⟨hm.os, hm.tape, hm.output, hm.size, fun k hk hb => hm.blk k hk (hb.elim (fun h => .inl (by omega)) .inr)⟩ h.b2.size)), h.r2, h.x4.mid hm h4, h.x7.mid hm h7, h.o4.mid hm ho, h.hB⟩
theorem LSt.marked (h : LSt w w2 w' T K S Z Y g4 g7 B D A2 A4 n2 c2 n4 c4) (hm : Mid w' w'' B D) (ho : ORd w'' B D 24 2 A4 n4 c4 Y') (h4 : g4 < B ∨ D ≤ g4) (h7 : g7 < B ∨ D ≤ g7) : LSt w w2 w'' T K S Z Y' g4 g7 B D A2 A4 n2 c2 n4 c4 :=
  ⟨h.bw, h.b2.trans ((Mid.below (B := w2.heap.size) (D := D) ⟨hm.os, hm.tape, hm.output, hm.size, fun k hk hb => hm.blk k hk (hb.elim (fun h' => .inl (by have := h.hB; omega)) .inr)⟩ h.b2.size)), h.r2, h.x4.mid hm h4, h.x7.mid hm h7, ho, h.hB⟩
theorem LSt.cells (h : LSt w w2 w' T K S Z Y g4 g7 B D A2 A4 n2 c2 n4 c4) :
    (w'.cell? ⟨g4, 0, none⟩ = some (.int .i64 K) ∧ w'.cell? ⟨g4, 1, none⟩ = some (.int .i64 S) ∧ w'.cell? ⟨g4, 2, none⟩ = some (.slice A2 n2 c2)) ∧
    (w'.cell? ⟨g7, 0, none⟩ = some (.int .i64 K) ∧ w'.cell? ⟨g7, 1, none⟩ = some (.int .i64 S) ∧ w'.cell? ⟨g7, 2, none⟩ = some (.slice A4 n4 c4)) := ⟨h.x4.cells3, h.x7.cells3⟩
theorem LSt.rd (h : LSt w w2 w' T K S Z Y g4 g7 B D A2 A4 n2 c2 n4 c4) : RR w' A2 n2 Z := h.r2.keep h.b2
end
end Go.Proofs.YtkihflnenifcgaaGreatDoor
