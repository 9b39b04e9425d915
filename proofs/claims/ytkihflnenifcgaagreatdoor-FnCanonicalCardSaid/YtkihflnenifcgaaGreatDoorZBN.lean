/- The source of choices that a law draws its input from: what a call returns lies in its range, and nothing else is touched. No condition beyond those stated. -/
import Derived.Test.YtkihflnenifcgaaGreatDoorProg
import Derived.Test.YtkihflnenifcgaaGreatDoorZAB
import Derived.Test.YtkihflnenifcgaaGreatDoorZAD
import Derived.Deep.QuietTactic
import Derived.BigQuiet
import Derived.StillTailTactics
import Derived.Laws.Bits64b
import Derived.Laws.Closers25b
import Derived.Test.YtkihflnenifcgaaGreatDoorZBM
set_option linter.unusedVariables false
set_option linter.unusedSimpArgs false
namespace Go.Proofs.YtkihflnenifcgaaGreatDoor
open Go.RowKit

/-- some draws on -/
def Drawn' (w w' : World) : Prop := ∃ q, w' = w.drewN q
theorem Drawn'.below {a b : World} (h : Drawn' a b) : Below a.heap.size a b := by
  obtain ⟨p, rfl⟩ := h
  exact below_drewn _ _
/-- block g is a source of choices, p of them made -/
def Src (w : World) (g p : Nat) : Prop := ∃ (A : Option Addr) (n c : Nat) (bs : List Int) (sd : Int),
  Blk w g 81 #[.slice A n c, .int .i64 p, .int .u64 sd] ∧ RS EByte w A n bs ∧ (0 < n → ∀ a, A = some a → a.block < g) ∧ n ≤ 9223372036854775807 ∧ 0 ≤ sd ∧ sd ≤ 18446744073709551615
theorem Src.lt {w : World} {g p : Nat} (h : Src w g p) : g < w.heap.size := by
  obtain ⟨A, n, c, bs, sd, hB, _⟩ := h
  exact hB.lt
theorem Src.kept {w w' : World} {g p : Nat} {r : Option Nat} (h : Src w g p) (hg : w.grownBy w' r) (hr : ∀ b, r = some b → g < b) : Src w' g p := by
  obtain ⟨A, n, c, bs, sd, hB, hR, hA, rest⟩ := h
  refine ⟨A, n, c, bs, sd, hB.grown hg (fun e => by have := hr g e.symm; omega), ⟨hR.len, fun j x hx => ?_⟩, hA, rest⟩
  obtain ⟨ad, u, ha, hc, he⟩ := hR.at_ j x hx
  have hlt := hA (by have := hR.len; have := (List.getElem?_eq_some_iff.1 hx).1; omega) ad ha
  exact ⟨ad, u, ha, hg.cell hc (fun e => by rw [add_block] at e; have := hr _ e.symm; omega), he⟩
theorem Src.below {w w' : World} {g p : Nat} (h : Src w g p) (hb : Below w.heap.size w w') : Src w' g p := h.kept (grownBy_of_below hb none) (fun _ e => by cases e)

/-- what a call of a source leaves: a number from lo to hi, the source some choices on -/
def Drew (w : World) (g p k : Nat) (lo hi : Int) (e : Ending) (w' : World) : Prop :=
  ∃ (x : Int) (q : Nat), e = .returned (.int .i64 x) ∧ lo ≤ x ∧ x ≤ hi ∧ q ≤ p + k ∧ Src w' g q ∧ w.grownBy w' (some g)

theorem u64_bd (n : Int) : 0 ≤ IntKind.u64.wrap n ∧ IntKind.u64.wrap n ≤ 18446744073709551615 := by
  rw [IntKind.wrap_u64]
  omega
theorem grown_putS {w : World} {g p : Nat} {u : Value} : w.grownBy (w.setCell ⟨g, p, none⟩ u) (some g) :=
  ⟨rfl, rfl, rfl, by simp [World.setCell], fun k _ hk => Below.heap_setCell _ _ _ _ (fun e => hk (by rw [e]))⟩
theorem grown_drewN (w : World) (n : Nat) (r : Option Nat) : w.grownBy (w.drewN n) r := grownBy_of_below (below_drewn w n) r

theorem EBytes.keep {w w' : World} {A : Option Addr} {n : Nat} {bs : List Int} (h : RS EByte w A n bs) (hb : Below w.heap.size w w') : RS EByte w' A n bs := RS.keep keeps_EByte h hb
theorem EBytes.grown {w w' : World} {g : Nat} {A : Option Addr} {n : Nat} {bs : List Int} (h : RS EByte w A n bs) (hg : w.grownBy w' (some g)) (hA : 0 < n → ∀ a, A = some a → a.block < g) : RS EByte w' A n bs :=
  ⟨h.len, fun j x hx => let ⟨ad, u, ha, hc, he⟩ := h.at_ j x hx; ⟨ad, u, ha, hg.cell hc (fun e => by rw [add_block] at e; injection e with e; have := hA (by have := h.len; have := (List.getElem?_eq_some_iff.1 hx).1; omega) ad ha; omega), he⟩⟩
theorem Src.set {w w' : World} {g p q : Nat} {A : Option Addr} {n c : Nat} {bs : List Int} {sd : Int} (hg : w.grownBy w' (some g)) (hB : Blk w' g 81 #[.slice A n c, .int .i64 q, .int .u64 sd]) (hR : RS EByte w A n bs) (hA : 0 < n → ∀ a, A = some a → a.block < g) (hn : n ≤ 9223372036854775807) (h1 : 0 ≤ sd) (h2 : sd ≤ 18446744073709551615) : Src w' g q :=
  ⟨A, n, c, bs, sd, hB, EBytes.grown hR hg hA, hA, hn, h1, h2⟩
theorem bits_and255 (x : Int) (h : 0 ≤ x) (h2 : x ≤ 18446744073709551615) : 0 ≤ bits BinOp.and IntKind.u64 x 255 ∧ bits BinOp.and IntKind.u64 x 255 ≤ 255 := by
  have e := bits_and_u64_nat x.toNat 255 (by omega) (by omega)
  rw [Int.toNat_of_nonneg h] at e
  have e2 : bits BinOp.and IntKind.u64 x 255 = ((x.toNat &&& 255 : Nat) : Int) := e
  have := Nat.and_le_right (n := x.toNat) (m := 255)
  omega
theorem next_tail (x : Int) (h : 0 ≤ x) (h2 : x ≤ 18446744073709551615) : 0 ≤ wrap64 (bits BinOp.and IntKind.u64 (x / 1099511627776) 255) ∧ wrap64 (bits BinOp.and IntKind.u64 (x / 1099511627776) 255) ≤ 255 := by
  have h := bits_and255 (x / 1099511627776) (by omega) (by omega)
  have e : wrap64 (bits BinOp.and IntKind.u64 (x / 1099511627776) 255) = bits BinOp.and IntKind.u64 (x / 1099511627776) 255 := IntWalk.wrap64_in _ (by omega)
  rw [e]
  exact h
theorem nth_in {zs : List Int} {k : Nat} (h : k < zs.length) : nth zs k ∈ zs := by rw [nth_get h]; exact List.getElem_mem h

set_option maxHeartbeats 1000000 in
theorem next_any (g p : Nat) (w : World) (hs : Src w g p) (hp : p ≤ 1125899906842624) :
    Calls Tryz.prog 68 #[.pointer (some ⟨g, 0, none⟩)] w (Drew w g p 1 0 255) := by
  obtain ⟨A, n, c, bs, sd, hB, hR, hA, hn, hs1, hs2⟩ := hs
  obtain ⟨k1, k2, k3⟩ := hB.cells3
  by_cases hlt : p < n
  · obtain ⟨ad, u, x, rfl, hx, hc, rfl, x0, x1⟩ := hR.get hlt
    have HRd := Lib.hid hR
    clear hR hx
    go_enter Tryz.func68, Tryz.ntmps68
    go_wp2
    go_quiet (fail)
    go_wp2
    go_quiet (fail)
    generalize hwa : w.drewN _ = wa
    have hd : Drawn w wa := ⟨_, hwa.symm⟩
    have hB2 := hB.after hd.below
    clear hwa k1 k2 k3 hc
    obtain ⟨k1, k2, k3⟩ := hB2.cells3
    have f1 := hB2.frozen 1
    have f2 := hB2.frozen 2
    go_wp2
    obtain ⟨sd2, hsd⟩ : ∃ sd2, IntKind.u64.wrap (IntKind.u64.wrap (IntKind.u64.wrap (sd * 6364136223846793005) + x) + 1442695040888963407) = sd2 := ⟨_, rfl⟩
    rw [hsd]
    have hsb := u64_bd (IntKind.u64.wrap (IntKind.u64.wrap (sd * 6364136223846793005) + x) + 1442695040888963407)
    rw [hsd] at hsb
    have hB3 : Blk (((wa.drewN nq).setCell ⟨g, 1, none⟩ (.int .i64 ((p : Int) + 1))).setCell ⟨g, 2, none⟩ (.int .u64 sd2)) g 81 #[.slice (some ad) n c, .int .i64 ((p : Int) + 1), .int .u64 sd2] :=
      ((hB2.after (below_drewn wa nq)).set_ 1 (.int .i64 ((p : Int) + 1))).set_ 2 (.int .u64 sd2)
    have hgr : w.grownBy (((wa.drewN nq).setCell ⟨g, 1, none⟩ (.int .i64 ((p : Int) + 1))).setCell ⟨g, 2, none⟩ (.int .u64 sd2)) (some g) :=
      (((grownBy_of_below hd.below (some g)).trans (grown_drewN wa nq (some g))).trans grown_putS).trans grown_putS
    clear hsd k1 k2 k3 f1 f2 hB2 hd
    generalize ((wa.drewN nq).setCell ⟨g, 1, none⟩ (.int .i64 ((p : Int) + 1))).setCell ⟨g, 2, none⟩ (.int .u64 sd2) = wb at *
    obtain ⟨k1, k2, k3⟩ := hB3.cells3
    have hlt2 : p + 1 ≤ n := hlt
    go_quiet (fail)
    go_wp2
    go_ret
    refine ⟨x, p + 1, rfl, x0, x1, Nat.le_refl _, Src.set (w := w) (p := p) (hgr.trans (grown_drewN wb nq (some g))) (hB3.after (below_drewn wb nq)) HRd.out hA hn hsb.1 hsb.2, hgr.trans (grown_drewN wb nq (some g))⟩
  · have hlt' : n ≤ p := by omega
    have HRd := Lib.hid hR
    clear hR
    go_enter Tryz.func68, Tryz.ntmps68
    go_wp2
    go_quiet (fail)
    generalize hwa : w.drewN _ = wa
    have hd : Drawn w wa := ⟨_, hwa.symm⟩
    have hB2 := hB.after hd.below
    clear hwa k1 k2 k3
    obtain ⟨k1, k2, k3⟩ := hB2.cells3
    have f1 := hB2.frozen 1
    have f2 := hB2.frozen 2
    go_wp2
    obtain ⟨sd2, hsd⟩ : ∃ sd2, IntKind.u64.wrap (IntKind.u64.wrap (IntKind.u64.wrap (sd * 6364136223846793005)) + 1442695040888963407) = sd2 := ⟨_, rfl⟩
    rw [hsd]
    have hsb := u64_bd (IntKind.u64.wrap (IntKind.u64.wrap (sd * 6364136223846793005)) + 1442695040888963407)
    rw [hsd] at hsb
    have hB3 : Blk ((wa.setCell ⟨g, 1, none⟩ (.int .i64 ((p : Int) + 1))).setCell ⟨g, 2, none⟩ (.int .u64 sd2)) g 81 #[.slice A n c, .int .i64 ((p : Int) + 1), .int .u64 sd2] :=
      (hB2.set_ 1 (.int .i64 ((p : Int) + 1))).set_ 2 (.int .u64 sd2)
    have hgr : w.grownBy ((wa.setCell ⟨g, 1, none⟩ (.int .i64 ((p : Int) + 1))).setCell ⟨g, 2, none⟩ (.int .u64 sd2)) (some g) :=
      ((grownBy_of_below hd.below (some g)).trans grown_putS).trans grown_putS
    have HSB := Lib.hid hsb
    have HT := Lib.hid (next_tail sd2 hsb.1 hsb.2)
    clear hsd k1 k2 k3 f1 f2 hB2 hd hsb
    generalize (wa.setCell ⟨g, 1, none⟩ (.int .i64 ((p : Int) + 1))).setCell ⟨g, 2, none⟩ (.int .u64 sd2) = wb at *
    obtain ⟨k1, k2, k3⟩ := hB3.cells3
    have hlt2 : ¬ p + 1 ≤ n := by omega
    have hdc : decide ((p : Int) + 1 ≤ (n : Int)) = false := by simp; omega
    go_quiet (fail)
    clear hdc
    have hB4 := hB3.after (below_drewn wb nq)
    have hg4 := hgr.trans (grown_drewN wb nq (some g))
    generalize wb.drewN nq = wc at *
    clear k1 k2 k3
    obtain ⟨k1, k2, k3⟩ := hB4.cells3
    go_wp2
    go_ret
    exact ⟨_, p + 1, rfl, HT.out.1, HT.out.2, Nat.le_refl _, Src.set (w := w) (p := p) hg4 hB4 HRd.out hA hn HSB.out.1 HSB.out.2, hg4⟩
/-- 'pick(n)': a number from 0 to n - 1; 0 where n is 1 or less -/
theorem pick_low (g : Nat) (n : Int) (w : World) (hn : n ≤ 1) : Calls Tryz.prog 39 #[.pointer (some ⟨g, 0, none⟩), .int .i64 n] w fun e w' => e = .returned (.int .i64 0) ∧ w = w' := by
  go_enter Tryz.func39, Tryz.ntmps39
  go_wp2
  go_ret
  exact ⟨rfl, rfl⟩
theorem Drew.mk {w w' : World} {g p k q : Nat} {lo hi x : Int} (h1 : lo ≤ x) (h2 : x ≤ hi) (hq : q ≤ p + k) (hs : Src w' g q) (hg : w.grownBy w' (some g)) : Drew w g p k lo hi (.returned (.int .i64 x)) w' := ⟨x, q, rfl, h1, h2, hq, hs, hg⟩
set_option maxHeartbeats 1000000 in
theorem pick_any (g p : Nat) (n : Int) (w : World) (hs : Src w g p) (hp : p ≤ 1125899906842623) (h1 : 1 ≤ n) (h2 : n ≤ 60000) :
    Calls Tryz.prog 39 #[.pointer (some ⟨g, 0, none⟩), .int .i64 n] w (Drew w g p 2 0 (n - 1)) := by
  by_cases h0 : n ≤ 1
  · refine (pick_low g n w h0).mono ?_
    rintro e w' ⟨rfl, rfl⟩
    exact Drew.mk (Int.le_refl _) (by omega) (Nat.le_add_right _ _) hs (World.grownBy.refl w _)
  · have h1' : 1 < n := by omega
    by_cases h3 : n ≤ 200
    · go_enter Tryz.func39, Tryz.ntmps39
      go_wp2_with fail
      refine (next_any g p w hs (by omega)).mono ?_
      rintro e w1 ⟨x, q, rfl, x0, x1, hq, hs1, hg1⟩
      have HM := Lib.hid (show 0 ≤ x % n ∧ x % n < n from ⟨Int.emod_nonneg _ (by omega), Int.emod_lt_of_pos _ (by omega)⟩)
      go_wp2
      go_ret
      exact Drew.mk (q := q) HM.out.1 (by have := HM.out.2; omega) (by omega) hs1 hg1
    · have h3' : 200 < n := by omega
      go_enter Tryz.func39, Tryz.ntmps39
      go_wp2_with fail
      refine (next_any g p w hs (by omega)).mono ?_
      rintro e w1 ⟨x, q, rfl, x0, x1, hq, hs1, hg1⟩
      go_wp2_with fail
      refine (next_any g q w1 hs1 (by omega)).mono ?_
      rintro e w2 ⟨y, r, rfl, y0, y1, hr, hs2, hg2⟩
      have HM := Lib.hid (show 0 ≤ (x * 256 + y) % n ∧ (x * 256 + y) % n < n from ⟨Int.emod_nonneg _ (by omega), Int.emod_lt_of_pos _ (by omega)⟩)
      go_wp2
      go_ret
      exact Drew.mk (q := r) HM.out.1 (by have := HM.out.2; omega) (by omega) hs2 (hg1.trans hg2)
/-- what 'one' leaves -/
def DrewB (w : World) (g p : Nat) (e : Ending) (w' : World) : Prop := ∃ (b : Bool) (q : Nat), e = .returned (.bool b) ∧ q ≤ p + 2 ∧ Src w' g q ∧ w.grownBy w' (some g)
set_option maxHeartbeats 1000000 in
theorem one_any (g p : Nat) (n : Int) (w : World) (hs : Src w g p) (hp : p ≤ 1125899906842623) (h1 : 1 ≤ n) (h2 : n ≤ 60000) :
    Calls Tryz.prog 41 #[.pointer (some ⟨g, 0, none⟩), .int .i64 n] w (DrewB w g p) := by
  go_enter Tryz.func41, Tryz.ntmps41
  go_wp2_with fail
  refine (pick_any g p n w hs hp h1 h2).mono ?_
  rintro e w1 ⟨x, q, rfl, x0, x1, hq, hs1, hg1⟩
  go_wp2
  go_ret
  exact ⟨_, q, rfl, hq, hs1, hg1⟩
/-- what 'among' leaves: one of the numbers -/
def DrewA (w : World) (g p : Nat) (zs : List Int) (e : Ending) (w' : World) : Prop := ∃ (x : Int) (q : Nat), e = .returned (.int .i64 x) ∧ x ∈ zs ∧ q ≤ p + 2 ∧ Src w' g q ∧ w.grownBy w' (some g)
set_option maxHeartbeats 1000000 in
theorem among_any (g p : Nat) (A : Option Addr) (n c : Nat) (zs : List Int) (w : World) (hs : Src w g p) (hp : p ≤ 1125899906842623) (ha : RI w A n zs) (hA : ∀ a, A = some a → a.block ≠ g) (h1 : 1 ≤ n) (h2 : n ≤ 60000) :
    Calls Tryz.prog 43 #[.pointer (some ⟨g, 0, none⟩), .slice A n c] w (DrewA w g p zs) := by
  have hla := Lib.hid ha.len
  go_enter Tryz.func43, Tryz.ntmps43
  go_wp2_with fail
  refine (pick_any g p n w hs hp (by omega) (by omega)).mono ?_
  rintro e w1 ⟨x, q, rfl, x0, x1, hq, hs1, hg1⟩
  obtain ⟨y, rfl⟩ := Int.eq_ofNat_of_zero_le x0
  obtain ⟨ad, rfl, hc, hi⟩ := ha.get (k := y) (by omega)
  have hc1 := hg1.cell hc (fun e => by rw [add_block] at e; injection e with e; exact hA ad rfl e)
  have HM := Lib.hid (nth_in (zs := zs) (k := y) (by rw [hla.out]; omega))
  generalize nth zs y = z at *
  clear hc hi
  go_wp2
  go_ret
  exact ⟨z, q, rfl, HM.out, hq, hs1, hg1⟩
set_option maxHeartbeats 1000000 in
theorem l00From_any (A : Option Addr) (n c : Nat) (bs : List Int) (w : World) (ha : RS EByte w A n bs) (hn : n ≤ 9223372036854775807) :
    Calls Tryz.prog 17 #[.slice A n c] w fun e w' => e = .returned (.pointer (some ⟨w.heap.size, 0, none⟩)) ∧ Src w' w.heap.size 0 ∧ Below w.heap.size w w' := by
  go_enter Tryz.func17, Tryz.ntmps17
  go_wp2
  go_ret
  refine ⟨rfl, ⟨A, n, c, bs, 0, Blk.new _ _ _, EBytes.keep ha (below_alloc _ _), fun h0 a hA => ?_, hn, by omega, by omega⟩, below_alloc _ _⟩
  subst hA
  obtain ⟨ad, u, x, e, -, hc, -⟩ := ha.get h0
  cases e
  have := block_lt hc
  rwa [add_block] at this
end Go.Proofs.YtkihflnenifcgaaGreatDoor
/- The source of choices among other memory: a state behind more calls; permutations that are drawn. No condition beyond those stated. -/
namespace Go.Proofs.YtkihflnenifcgaaGreatDoor
open Go.RowKit

/-- a source's state, behind more calls: but for the source what was before is as it was -/
structure SrW (w w' : World) (g p : Nat) : Prop where
  src : Src w' g p
  gl : g < w.heap.size
  grown : w.grownBy w' (some g)
section
variable {w w' w'' : World} {g p q : Nat}
theorem SrW.start (h : Src w g p) : SrW w w g p := ⟨h, h.lt, World.grownBy.refl w _⟩
theorem SrW.size (h : SrW w w' g p) : w.heap.size ≤ w'.heap.size := h.grown.size
theorem SrW.next (h : SrW w w' g p) (hs : Src w'' g q) (hg : w'.grownBy w'' (some g)) : SrW w w'' g q := ⟨hs, h.gl, h.grown.trans hg⟩
theorem SrW.then_ (h : SrW w w' g p) (k : SrW w' w'' g q) : SrW w w'' g q := ⟨k.src, h.gl, h.grown.trans k.grown⟩
theorem SrW.step (h : SrW w w' g p) (hb : Below w'.heap.size w' w'') : SrW w w'' g p := ⟨h.src.below hb, h.gl, h.grown.trans (grownBy_of_below hb (some g))⟩
/-- memory is written that a call made itself -/
theorem SrW.far {r : Option Nat} (h : SrW w w' g p) (hg : w'.grownBy w'' r) (hr : ∀ b, r = some b → w.heap.size ≤ b) : SrW w w'' g p :=
  ⟨h.src.kept hg (fun b e => by have := hr b e; have := h.gl; omega), h.gl, ⟨hg.os.trans h.grown.os, hg.tape.trans h.grown.tape, hg.output.trans h.grown.output, Nat.le_trans h.grown.size hg.size, fun k hk hne => by
    rw [hg.block k (Nat.lt_of_lt_of_le hk h.grown.size) (fun e => by have := hr k e.symm; omega)]
    exact h.grown.block k hk hne⟩⟩
theorem OI.src {e : TypeId} {A : Option Addr} {n c : Nat} {zs : List Int} (h : OI w' w.heap.size e A n c zs) (hs : SrW w w' g p) (hg : w'.grownBy w'' (some g)) : OI w'' w.heap.size e A n c zs :=
  h.kept hg (by
    cases A with
    | none => exact .inl rfl
    | some a => exact .inr fun e => by have := (h.os.lt (k := a.block) rfl).1; have := hs.gl; simp only [blk, Option.map_some, Option.some.injEq] at e; omega)
end
/-- a call that draws a permutation -/
def RetDP (w : World) (g p n : Nat) (e : Ending) (w' : World) : Prop := ∃ A c zs q, e = .returned (.slice A n c) ∧ OI w' w.heap.size 2 A n c zs ∧ zs.length = n ∧ Perm zs ∧ SrW w w' g q ∧ q ≤ p + 2 * n
theorem perm_swap {n : Nat} {zs : List Int} (hl : zs.length = n) (hp : Perm zs) {i k : Nat} (hi : i < n) (hk : k < n) : ((zs.set i (nth zs k)).set k (nth zs i)).length = n ∧ Perm ((zs.set i (nth zs k)).set k (nth zs i)) := by
  have hlen : ((zs.set i (nth zs k)).set k (nth zs i)).length = n := by simp [hl]
  have hn : ∀ v, v < n → nth ((zs.set i (nth zs k)).set k (nth zs i)) v = nth zs (if v = k then i else if v = i then k else v) := fun v hv => by
    rw [nth_set (by simp [hl, hv]), nth_set (by rw [hl]; exact hv)]
    by_cases e1 : v = k
    · rw [if_pos e1, if_pos e1.symm]
    · rw [if_neg e1, if_neg (fun e => e1 e.symm)]
      by_cases e2 : v = i
      · rw [if_pos e2, if_pos e2.symm]
      · rw [if_neg e2, if_neg (fun e => e2 e.symm)]
  have hlt : ∀ v, v < n → (if v = k then i else if v = i then k else v) < n := fun v hv => by split; exact hi; split; exact hk; exact hv
  refine ⟨hlen, perm_of hlen (fun v hv => ?_) (fun u v hu hv e => ?_)⟩
  · rw [hn v hv]
    have := hp.bd _ (by rw [hl]; exact hlt v hv)
    rw [hl] at this
    exact this
  · rw [hn u hu, hn v hv] at e
    have := perm_inj hp (by rw [hl]; exact hlt u hu) (by rw [hl]; exact hlt v hv) e
    revert this
    split <;> split <;> (try split) <;> (try split) <;> omega
end Go.Proofs.YtkihflnenifcgaaGreatDoor
