/- The source of choices that a law draws its input from: what a call returns lies in its range, and nothing else is touched. No condition beyond those stated. -/
import Derived.Test.YtncknfhfkmmhbaaGreatProg
import Derived.Test.YtncknfhfkmmhbaaGreatZAA
import Derived.Test.YtncknfhfkmmhbaaGreatZAC
import Derived.Deep.QuietTactic
import Derived.BigQuiet
import Derived.StillTailTactics
import Derived.Laws.Bits64b
import Derived.Laws.Closers25b
set_option linter.unusedVariables false
set_option linter.unusedSimpArgs false
namespace Go.Proofs.YtncknfhfkmmhbaaGreat
open Go.RowKit

/-- some draws on -/
def Drawn' (w w' : World) : Prop := ∃ q, w' = w.drewN q
theorem Drawn'.below {a b : World} (h : Drawn' a b) : Below a.heap.size a b := by
  obtain ⟨p, rfl⟩ := h
  exact below_drewn _ _
/-- block g is a source of choices, p of them made -/
def Src (w : World) (g p : Nat) : Prop := ∃ (A : Option Addr) (n c : Nat) (bs : List Int) (sd : Int),
  Blk w g 60 #[.slice A n c, .int .i64 p, .int .u64 sd] ∧ RS EByte w A n bs ∧ (0 < n → ∀ a, A = some a → a.block < g) ∧ n ≤ 9223372036854775807 ∧ 0 ≤ sd ∧ sd ≤ 18446744073709551615
theorem Src.lt {w : World} {g p : Nat} (h : Src w g p) : g < w.heap.size := by
  obtain ⟨A, n, c, bs, sd, hB, _⟩ := h
  exact hB.lt
theorem Src.kept {w w' : World} {g p : Nat} {r : Option Nat} (h : Src w g p) (hg : w.grownBy w' r) (hr : ∀ b, r = some b → g < b) : Src w' g p := by
  obtain ⟨A, n, c, bs, sd, hB, hR, hA, rest⟩ := h
  refine ⟨A, n, c, bs, sd, hB.grown hg (fun e => by have := hr g e.symm; omega), ⟨hR.len, fun j x hx => ?_⟩, hA, rest⟩
  obtain ⟨ad, u, ha, hc, he⟩ := hR.at_ j x hx
  have hlt := hA (by have := hR.len; have := (List.getElem?_eq_some_iff.1 hx).1; omega) ad ha
  exact ⟨ad, u, ha, hg.cell hc (fun e => by rw [add_block] at e; have := hr _ e.symm; omega), he⟩
theorem Src.below {w w' : World} {g p : Nat} (h : Src w g p) (hb : Below w.heap.size w w') : Src w' g p := h.kept (grownBy_of_below hb none) (fun _ e => by cases e)

/-- what a call of a source leaves: a number from lo to hi, the source some choices on -/
def Drew (w : World) (g p k : Nat) (lo hi : Int) (e : Ending) (w' : World) : Prop :=
  ∃ (x : Int) (q : Nat), e = .returned (.int .i64 x) ∧ lo ≤ x ∧ x ≤ hi ∧ q ≤ p + k ∧ Src w' g q ∧ w.grownBy w' (some g)

theorem u64_bd (n : Int) : 0 ≤ IntKind.u64.wrap n ∧ IntKind.u64.wrap n ≤ 18446744073709551615 := by
  rw [IntKind.wrap_u64]
  omega
theorem grown_putS {w : World} {g p : Nat} {u : Value} : w.grownBy (w.setCell ⟨g, p, none⟩ u) (some g) :=
  ⟨rfl, rfl, rfl, by simp [World.setCell], fun k _ hk => Below.heap_setCell _ _ _ _ (fun e => hk (by rw [e]))⟩
theorem grown_drewN (w : World) (n : Nat) (r : Option Nat) : w.grownBy (w.drewN n) r := grownBy_of_below (below_drewn w n) r

theorem EBytes.keep {w w' : World} {A : Option Addr} {n : Nat} {bs : List Int} (h : RS EByte w A n bs) (hb : Below w.heap.size w w') : RS EByte w' A n bs := RS.keep keeps_EByte h hb
theorem EBytes.grown {w w' : World} {g : Nat} {A : Option Addr} {n : Nat} {bs : List Int} (h : RS EByte w A n bs) (hg : w.grownBy w' (some g)) (hA : 0 < n → ∀ a, A = some a → a.block < g) : RS EByte w' A n bs :=
  ⟨h.len, fun j x hx => let ⟨ad, u, ha, hc, he⟩ := h.at_ j x hx; ⟨ad, u, ha, hg.cell hc (fun e => by rw [add_block] at e; injection e with e; have := hA (by have := h.len; have := (List.getElem?_eq_some_iff.1 hx).1; omega) ad ha; omega), he⟩⟩
theorem Src.set {w w' : World} {g p q : Nat} {A : Option Addr} {n c : Nat} {bs : List Int} {sd : Int} (hg : w.grownBy w' (some g)) (hB : Blk w' g 60 #[.slice A n c, .int .i64 q, .int .u64 sd]) (hR : RS EByte w A n bs) (hA : 0 < n → ∀ a, A = some a → a.block < g) (hn : n ≤ 9223372036854775807) (h1 : 0 ≤ sd) (h2 : sd ≤ 18446744073709551615) : Src w' g q :=
  ⟨A, n, c, bs, sd, hB, EBytes.grown hR hg hA, hA, hn, h1, h2⟩
theorem bits_and255 (x : Int) (h : 0 ≤ x) (h2 : x ≤ 18446744073709551615) : 0 ≤ bits BinOp.and IntKind.u64 x 255 ∧ bits BinOp.and IntKind.u64 x 255 ≤ 255 := by
  have e := bits_and_u64_nat x.toNat 255 (by omega) (by omega)
  rw [Int.toNat_of_nonneg h] at e
  have e2 : bits BinOp.and IntKind.u64 x 255 = ((x.toNat &&& 255 : Nat) : Int) := e
  have := Nat.and_le_right (n := x.toNat) (m := 255)
  omega
theorem next_tail (x : Int) (h : 0 ≤ x) (h2 : x ≤ 18446744073709551615) : 0 ≤ wrap64 (bits BinOp.and IntKind.u64 (x / 1099511627776) 255) ∧ wrap64 (bits BinOp.and IntKind.u64 (x / 1099511627776) 255) ≤ 255 := by
  have h := bits_and255 (x / 1099511627776) (by omega) (by omega)
  have e : wrap64 (bits BinOp.and IntKind.u64 (x / 1099511627776) 255) = bits BinOp.and IntKind.u64 (x / 1099511627776) 255 := IntWalk.wrap64_in _ (by omega)
  rw [e]
  exact h
theorem nth_in {zs : List Int} {k : Nat} (h : k < zs.length) : nth zs k ∈ zs := by rw [nth_get h]; exact List.getElem_mem h

set_option maxHeartbeats 1000000 in
theorem next_any (g p : Nat) (w : World) (hs : Src w g p) (hp : p ≤ 1125899906842624) :
    Calls Tryz.prog 21 #[.pointer (some ⟨g, 0, none⟩)] w (Drew w g p 1 0 255) := by
  obtain ⟨A, n, c, bs, sd, hB, hR, hA, hn, hs1, hs2⟩ := hs
  obtain ⟨k1, k2, k3⟩ := hB.cells3
  by_cases hlt : p < n
  · obtain ⟨ad, u, x, rfl, hx, hc, rfl, x0, x1⟩ := hR.get hlt
    have HRd := Lib.hid hR
    clear hR hx
    go_enter Tryz.func21, Tryz.ntmps21
    go_wp2
    go_quiet (fail)
    go_wp2
    go_quiet (fail)
    generalize hwa : w.drewN _ = wa
    have hd : Drawn w wa := ⟨_, hwa.symm⟩
    have hB2 := hB.after hd.below
    clear hwa k1 k2 k3 hc
    obtain ⟨k1, k2, k3⟩ := hB2.cells3
    have f1 := hB2.frozen 1
    have f2 := hB2.frozen 2
    go_wp2
    obtain ⟨sd2, hsd⟩ : ∃ sd2, IntKind.u64.wrap (IntKind.u64.wrap (IntKind.u64.wrap (sd * 6364136223846793005) + x) + 1442695040888963407) = sd2 := ⟨_, rfl⟩
    rw [hsd]
    have hsb := u64_bd (IntKind.u64.wrap (IntKind.u64.wrap (sd * 6364136223846793005) + x) + 1442695040888963407)
    rw [hsd] at hsb
    have hB3 : Blk (((wa.drewN nq).setCell ⟨g, 1, none⟩ (.int .i64 ((p : Int) + 1))).setCell ⟨g, 2, none⟩ (.int .u64 sd2)) g 60 #[.slice (some ad) n c, .int .i64 ((p : Int) + 1), .int .u64 sd2] :=
      ((hB2.after (below_drewn wa nq)).set_ 1 (.int .i64 ((p : Int) + 1))).set_ 2 (.int .u64 sd2)
    have hgr : w.grownBy (((wa.drewN nq).setCell ⟨g, 1, none⟩ (.int .i64 ((p : Int) + 1))).setCell ⟨g, 2, none⟩ (.int .u64 sd2)) (some g) :=
      (((grownBy_of_below hd.below (some g)).trans (grown_drewN wa nq (some g))).trans grown_putS).trans grown_putS
    clear hsd k1 k2 k3 f1 f2 hB2 hd
    generalize ((wa.drewN nq).setCell ⟨g, 1, none⟩ (.int .i64 ((p : Int) + 1))).setCell ⟨g, 2, none⟩ (.int .u64 sd2) = wb at *
    obtain ⟨k1, k2, k3⟩ := hB3.cells3
    have hlt2 : p + 1 ≤ n := hlt
    go_quiet (fail)
    go_wp2
    go_ret
    refine ⟨x, p + 1, rfl, x0, x1, Nat.le_refl _, Src.set (w := w) (p := p) (hgr.trans (grown_drewN wb nq (some g))) (hB3.after (below_drewn wb nq)) HRd.out hA hn hsb.1 hsb.2, hgr.trans (grown_drewN wb nq (some g))⟩
  · have hlt' : n ≤ p := by omega
    have HRd := Lib.hid hR
    clear hR
    go_enter Tryz.func21, Tryz.ntmps21
    go_wp2
    go_quiet (fail)
    generalize hwa : w.drewN _ = wa
    have hd : Drawn w wa := ⟨_, hwa.symm⟩
    have hB2 := hB.after hd.below
    clear hwa k1 k2 k3
    obtain ⟨k1, k2, k3⟩ := hB2.cells3
    have f1 := hB2.frozen 1
    have f2 := hB2.frozen 2
    go_wp2
    obtain ⟨sd2, hsd⟩ : ∃ sd2, IntKind.u64.wrap (IntKind.u64.wrap (IntKind.u64.wrap (sd * 6364136223846793005)) + 1442695040888963407) = sd2 := ⟨_, rfl⟩
    rw [hsd]
    have hsb := u64_bd (IntKind.u64.wrap (IntKind.u64.wrap (sd * 6364136223846793005)) + 1442695040888963407)
    rw [hsd] at hsb
    have hB3 : Blk ((wa.setCell ⟨g, 1, none⟩ (.int .i64 ((p : Int) + 1))).setCell ⟨g, 2, none⟩ (.int .u64 sd2)) g 60 #[.slice A n c, .int .i64 ((p : Int) + 1), .int .u64 sd2] :=
      (hB2.set_ 1 (.int .i64 ((p : Int) + 1))).set_ 2 (.int .u64 sd2)
    have hgr : w.grownBy ((wa.setCell ⟨g, 1, none⟩ (.int .i64 ((p : Int) + 1))).setCell ⟨g, 2, none⟩ (.int .u64 sd2)) (some g) :=
      ((grownBy_of_below hd.below (some g)).trans grown_putS).trans grown_putS
    have HSB := Lib.hid hsb
    have HT := Lib.hid (next_tail sd2 hsb.1 hsb.2)
    clear hsd k1 k2 k3 f1 f2 hB2 hd hsb
    generalize (wa.setCell ⟨g, 1, none⟩ (.int .i64 ((p : Int) + 1))).setCell ⟨g, 2, none⟩ (.int .u64 sd2) = wb at *
    obtain ⟨k1, k2, k3⟩ := hB3.cells3
    have hlt2 : ¬ p + 1 ≤ n := by omega
    have hdc : decide ((p : Int) + 1 ≤ (n : Int)) = false := by simp; omega
    go_quiet (fail)
    clear hdc
    have hB4 := hB3.after (below_drewn wb nq)
    have hg4 := hgr.trans (grown_drewN wb nq (some g))
    generalize wb.drewN nq = wc at *
    clear k1 k2 k3
    obtain ⟨k1, k2, k3⟩ := hB4.cells3
    go_wp2
    go_ret
    exact ⟨_, p + 1, rfl, HT.out.1, HT.out.2, Nat.le_refl _, Src.set (w := w) (p := p) hg4 hB4 HRd.out hA hn HSB.out.1 HSB.out.2, hg4⟩
/-- 'pick(n)': a number from 0 to n - 1; 0 where n is 1 or less -/
theorem pick_low (g : Nat) (n : Int) (w : World) (hn : n ≤ 1) : Calls Tryz.prog 13 #[.pointer (some ⟨g, 0, none⟩), .int .i64 n] w fun e w' => e = .returned (.int .i64 0) ∧ w = w' := by
  go_enter Tryz.func13, Tryz.ntmps13
  go_wp2
  go_ret
  exact ⟨rfl, rfl⟩
theorem Drew.mk {w w' : World} {g p k q : Nat} {lo hi x : Int} (h1 : lo ≤ x) (h2 : x ≤ hi) (hq : q ≤ p + k) (hs : Src w' g q) (hg : w.grownBy w' (some g)) : Drew w g p k lo hi (.returned (.int .i64 x)) w' := ⟨x, q, rfl, h1, h2, hq, hs, hg⟩
set_option maxHeartbeats 1000000 in
theorem pick_any (g p : Nat) (n : Int) (w : World) (hs : Src w g p) (hp : p ≤ 1125899906842623) (h1 : 1 ≤ n) (h2 : n ≤ 60000) :
    Calls Tryz.prog 13 #[.pointer (some ⟨g, 0, none⟩), .int .i64 n] w (Drew w g p 2 0 (n - 1)) := by
  by_cases h0 : n ≤ 1
  · refine (pick_low g n w h0).mono ?_
    rintro e w' ⟨rfl, rfl⟩
    exact Drew.mk (Int.le_refl _) (by omega) (Nat.le_add_right _ _) hs (World.grownBy.refl w _)
  · have h1' : 1 < n := by omega
    by_cases h3 : n ≤ 200
    · go_enter Tryz.func13, Tryz.ntmps13
      go_wp2_with fail
      refine (next_any g p w hs (by omega)).mono ?_
      rintro e w1 ⟨x, q, rfl, x0, x1, hq, hs1, hg1⟩
      have HM := Lib.hid (show 0 ≤ x % n ∧ x % n < n from ⟨Int.emod_nonneg _ (by omega), Int.emod_lt_of_pos _ (by omega)⟩)
      go_wp2
      go_ret
      exact Drew.mk (q := q) HM.out.1 (by have := HM.out.2; omega) (by omega) hs1 hg1
    · have h3' : 200 < n := by omega
      go_enter Tryz.func13, Tryz.ntmps13
      go_wp2_with fail
      refine (next_any g p w hs (by omega)).mono ?_
      rintro e w1 ⟨x, q, rfl, x0, x1, hq, hs1, hg1⟩
      go_wp2_with fail
      refine (next_any g q w1 hs1 (by omega)).mono ?_
      rintro e w2 ⟨y, r, rfl, y0, y1, hr, hs2, hg2⟩
      have HM := Lib.hid (show 0 ≤ (x * 256 + y) % n ∧ (x * 256 + y) % n < n from ⟨Int.emod_nonneg _ (by omega), Int.emod_lt_of_pos _ (by omega)⟩)
      go_wp2
      go_ret
      exact Drew.mk (q := r) HM.out.1 (by have := HM.out.2; omega) (by omega) hs2 (hg1.trans hg2)
/-- what 'one' leaves -/
def DrewB (w : World) (g p : Nat) (e : Ending) (w' : World) : Prop := ∃ (b : Bool) (q : Nat), e = .returned (.bool b) ∧ q ≤ p + 2 ∧ Src w' g q ∧ w.grownBy w' (some g)
set_option maxHeartbeats 1000000 in
theorem one_any (g p : Nat) (n : Int) (w : World) (hs : Src w g p) (hp : p ≤ 1125899906842623) (h1 : 1 ≤ n) (h2 : n ≤ 60000) :
    Calls Tryz.prog 11 #[.pointer (some ⟨g, 0, none⟩), .int .i64 n] w (DrewB w g p) := by
  go_enter Tryz.func11, Tryz.ntmps11
  go_wp2_with fail
  refine (pick_any g p n w hs hp h1 h2).mono ?_
  rintro e w1 ⟨x, q, rfl, x0, x1, hq, hs1, hg1⟩
  go_wp2
  go_ret
  exact ⟨_, q, rfl, hq, hs1, hg1⟩
/-- what 'among' leaves: one of the numbers -/
def DrewA (w : World) (g p : Nat) (zs : List Int) (e : Ending) (w' : World) : Prop := ∃ (x : Int) (q : Nat), e = .returned (.int .i64 x) ∧ x ∈ zs ∧ q ≤ p + 2 ∧ Src w' g q ∧ w.grownBy w' (some g)
set_option maxHeartbeats 1000000 in
theorem among_any (g p : Nat) (A : Option Addr) (n c : Nat) (zs : List Int) (w : World) (hs : Src w g p) (hp : p ≤ 1125899906842623) (ha : RI w A n zs) (hA : ∀ a, A = some a → a.block ≠ g) (h1 : 1 ≤ n) (h2 : n ≤ 60000) :
    Calls Tryz.prog 12 #[.pointer (some ⟨g, 0, none⟩), .slice A n c] w (DrewA w g p zs) := by
  have hla := Lib.hid ha.len
  go_enter Tryz.func12, Tryz.ntmps12
  go_wp2_with fail
  refine (pick_any g p n w hs hp (by omega) (by omega)).mono ?_
  rintro e w1 ⟨x, q, rfl, x0, x1, hq, hs1, hg1⟩
  obtain ⟨y, rfl⟩ := Int.eq_ofNat_of_zero_le x0
  obtain ⟨ad, rfl, hc, hi⟩ := ha.get (k := y) (by omega)
  have hc1 := hg1.cell hc (fun e => by rw [add_block] at e; injection e with e; exact hA ad rfl e)
  have HM := Lib.hid (nth_in (zs := zs) (k := y) (by rw [hla.out]; omega))
  generalize nth zs y = z at *
  clear hc hi
  go_wp2
  go_ret
  exact ⟨z, q, rfl, HM.out, hq, hs1, hg1⟩
set_option maxHeartbeats 1000000 in
theorem l00From_any (A : Option Addr) (n c : Nat) (bs : List Int) (w : World) (ha : RS EByte w A n bs) (hn : n ≤ 9223372036854775807) :
    Calls Tryz.prog 10 #[.slice A n c] w fun e w' => e = .returned (.pointer (some ⟨w.heap.size, 0, none⟩)) ∧ Src w' w.heap.size 0 ∧ Below w.heap.size w w' := by
  go_enter Tryz.func10, Tryz.ntmps10
  go_wp2
  go_ret
  refine ⟨rfl, ⟨A, n, c, bs, 0, Blk.new _ _ _, EBytes.keep ha (below_alloc _ _), fun h0 a hA => ?_, hn, by omega, by omega⟩, below_alloc _ _⟩
  subst hA
  obtain ⟨ad, u, x, e, -, hc, -⟩ := ha.get h0
  cases e
  have := block_lt hc
  rwa [add_block] at this
end Go.Proofs.YtncknfhfkmmhbaaGreat
/- What the drawn laws share: lengths of inputs, numbers chosen by bytes, numbers looked for in a list. No condition beyond those stated. -/
namespace Go.Proofs.YtncknfhfkmmhbaaGreat
open Go.RowKit

set_option maxHeartbeats 400000 in
theorem b10Long_yes (A : Option Addr) (n c : Nat) (w : World) (hn : 1048576 < n) : Calls Tryz.prog 4 #[.slice A n c] w fun e w' => e = .returned (.bool true) ∧ w = w' := by
  have h : (n : Int) > 1048576 := by omega
  go_enter Tryz.func4, Tryz.ntmps4
  go_wp2
  go_ret
  exact ⟨by simp, rfl⟩
set_option maxHeartbeats 400000 in
theorem b10Long_no (A : Option Addr) (n c : Nat) (w : World) (hn : n ≤ 1048576) : Calls Tryz.prog 4 #[.slice A n c] w fun e w' => e = .returned (.bool false) ∧ w = w' := by
  have h : ¬ (n : Int) > 1048576 := by omega
  go_enter Tryz.func4, Tryz.ntmps4
  go_wp2
  go_ret
  exact ⟨by simp, rfl⟩
/-- the number that a byte chooses, or its index behind the end -/
def atP (zs : List Int) (i k : Int) : Int := if k ≤ 1 then 0 else if i < zs.length then nth zs i.toNat % k else (i * 37 + 11) % k
theorem atP_bd {zs : List Int} {i k : Int} (h : 1 ≤ k) : 0 ≤ atP zs i k ∧ atP zs i k < k := by
  unfold atP
  split
  · omega
  · split
    · exact ⟨Int.emod_nonneg _ (by omega), Int.emod_lt_of_pos _ (by omega)⟩
    · exact ⟨Int.emod_nonneg _ (by omega), Int.emod_lt_of_pos _ (by omega)⟩
set_option maxHeartbeats 1000000 in
theorem b10At_any (A : Option Addr) (n c : Nat) (zs : List Int) (i : Nat) (k : Int) (w : World) (ha : RS EByte w A n zs) (hi2 : i ≤ 1000000) (hk2 : k ≤ 1000000) (hn : n ≤ 9223372036854775807) :
    Calls Tryz.prog 8 #[.slice A n c, .int .i64 i, .int .i64 k] w fun e w' => e = .returned (.int .i64 (atP zs i k)) ∧ w = w' := by
  have hla := Lib.hid ha.len
  by_cases h0 : k ≤ 1
  · have HA := Lib.hid (show atP zs i k = 0 by rw [atP, if_pos h0])
    go_enter Tryz.func8, Tryz.ntmps8
    go_wp2
    go_ret
    exact ⟨by rw [HA.out]; rfl, rfl⟩
  · by_cases hlt : i < n
    · have HA := Lib.hid (show atP zs i k = nth zs i % k by rw [atP, if_neg h0, if_pos (by rw [hla.out]; omega), Int.toNat_natCast])
      obtain ⟨ad, u, x, rfl, hx, hc, rfl, x0, x1⟩ := ha.get hlt
      have HX := Lib.hid (nth_eq hx)
      have h0' : 1 < k := by omega
      clear hx h0
      go_enter Tryz.func8, Tryz.ntmps8
      go_wp2
      go_ret
      exact ⟨by rw [HA.out, HX.out]; rfl, rfl⟩
    · have HA := Lib.hid (show atP zs i k = ((i : Int) * 37 + 11) % k by rw [atP, if_neg h0, if_neg (by rw [hla.out]; omega)])
      have h0' : 1 < k := by omega
      have hge : n ≤ i := by omega
      clear h0
      go_enter Tryz.func8, Tryz.ntmps8
      go_wp2
      go_ret
      exact ⟨by rw [HA.out]; rfl, rfl⟩
end Go.Proofs.YtncknfhfkmmhbaaGreat
/- A region that draws its order, only reads, and calls functions that may make memory: walked once, in the order of the text. No condition beyond those stated. -/
namespace Go.Proofs.YtncknfhfkmmhbaaGreat
open Go.RowKit

/-- a world behind W: what W held is as it was -/
structure Bel (W : World) where
  w : World
  h : Below W.heap.size W w
instance (W : World) : Inhabited (Bel W) := ⟨⟨W, Below.refl _ _⟩⟩
section
variable {P : Program} {W : World}
theorem wp_region_bel {id : Nat} {Q : Exit → Act → World → Prop} {a : Act} {l : List Oper} (hm : P.follows .mixedOrders = true) (hB : Region.lexB .any l.toArray = true)
    (h : wpQuiet P l.toArray (fun w' => ∃ p : Bel W, w' = p.w) (fun a' => ∀ w', (∃ p : Bel W, w' = p.w) → Q .normal a' w') l a) : (Code.region id l.toArray true).wp P Q a W :=
  wp_region_quiet (C := fun w' => ∃ p : Bel W, w' = p.w) hm hB ⟨⟨W.drewN 1, below_drewn _ 1⟩, rfl⟩ (by simpa using h)
theorem cell_bel {a : Addr} {v : Value} (h : W.cell? a = some v) (p : Bel W) : p.w.cell? a = some v := below_cell p.h h
theorem Calls.bel {f : FuncId} {args : Array Value} {p : Bel W} {v : Value} (h : Calls P f args p.w fun e w' => e = .returned v ∧ Below p.w.heap.size p.w w') :
    Calls P f args p.w fun e w'' => e = .returned v ∧ ∃ q : Bel W, w'' = q.w :=
  h.mono fun _ w' ⟨he, hb⟩ => ⟨he, ⟨w', below_then p.h hb⟩, rfl⟩
end
end Go.Proofs.YtncknfhfkmmhbaaGreat
/- How many vertices: the draw. No condition beyond those stated. -/
namespace Go.Proofs.YtncknfhfkmmhbaaGreat
open Go.RowKit

/-- a source's state, behind more calls: what was before is as it was -/
structure SrcG (w w' : World) (g p : Nat) : Prop where
  src : Src w' g p
  gl : w.heap.size ≤ g
  below : Below w.heap.size w w'
theorem SrcG.next {w w' w'' : World} {g p q : Nat} (h : SrcG w w' g p) (hs : Src w'' g q) (hg : w'.grownBy w'' (some g)) : SrcG w w'' g q :=
  ⟨hs, h.gl, h.below.grown hg h.below.size (fun b hb => by injection hb with hb; rw [← hb]; exact h.gl)⟩
theorem SrcG.step {w w' w'' : World} {g p : Nat} (h : SrcG w w' g p) (hb : Below w'.heap.size w' w'') : SrcG w w'' g p := ⟨h.src.below hb, h.gl, h.below.trans (hb.mono h.below.size)⟩
theorem lit3G (w : World) (t : TypeId) (a b c : Int) (ha : I64 a) (hb : I64 b) (hc : I64 c) : RI (w.alloc (.cells #[.int .i64 a, .int .i64 b, .int .i64 c] t)) (some ⟨w.heap.size, 0, none⟩) 3 [a, b, c] :=
  RS.lit (E := EInt) (Value.int .i64) w t [a, b, c] fun x hx => ⟨rfl, by simp at hx; rcases hx with rfl | rfl | rfl <;> assumption⟩
/-- a number from 0 to 6 -/
def RetGn (w : World) (e : Ending) (w' : World) : Prop := ∃ n : Nat, e = .returned (.int .i64 n) ∧ n ≤ 6 ∧ Below w.heap.size w w'
set_option maxRecDepth 100000 in
set_option maxHeartbeats 2000000 in
theorem drawGenerate_any (A : Option Addr) (n c : Nat) (bs : List Int) (w : World) (ha : RS EByte w A n bs) (hn : n ≤ 9223372036854775807) :
    Calls Tryz.prog 5 #[.slice A n c] w (RetGn w) := by
  go_enter Tryz.func5, Tryz.ntmps5
  go_wp2_with fail
  refine (l00From_any A n c bs w ha hn).mono ?_
  rintro e w1 ⟨rfl, hs, hb⟩
  have S1 : SrcG w w1 w.heap.size 0 := ⟨hs, Nat.le_refl _, hb⟩
  clear hs hb
  generalize w.heap.size = g at *
  go_wp2_with fail
  refine (one_any g 0 8 _ S1.src (by omega) (by omega) (by omega)).mono ?_
  rintro e w2 ⟨b, p2, rfl, hp2, hs2, hg2⟩
  have S2 := S1.next hs2 hg2
  clear S1 hs2 hg2
  cases b with
  | true =>
    have R := lit3G w2 2 5 6 0 ⟨by omega, by omega⟩ ⟨by omega, by omega⟩ ⟨by omega, by omega⟩
    have T2 := S2.step (below_alloc w2 (.cells #[.int .i64 5, .int .i64 6, .int .i64 0] 2))
    have hgs := S2.src.lt
    have ham := among_any g p2 _ 3 3 _ _ T2.src (by omega) R (fun a ha => by cases ha; show w2.heap.size ≠ g; omega) (by omega) (by omega)
    go_wp2_with fail
    refine ham.mono ?_
    rintro e w3 ⟨y, p3, rfl, hy, hp3, hs3, hg3⟩
    have S3 := T2.next hs3 hg3
    have HY := Lib.hid (show ∃ m : Nat, y = (m : Int) ∧ m ≤ 6 by
      simp at hy
      rcases hy with rfl | rfl | rfl
      · exact ⟨5, rfl, by omega⟩
      · exact ⟨6, rfl, by omega⟩
      · exact ⟨0, rfl, by omega⟩)
    clear hy ham
    go_wp2
    go_ret
    obtain ⟨m, rfl, hm⟩ := HY.out
    exact ⟨m, rfl, hm, S3.below⟩
  | false =>
    go_wp2_with fail
    refine (pick_any g p2 4 _ S2.src (by omega) (by omega) (by omega)).mono ?_
    rintro e w3 ⟨y, p3, rfl, y0, y1, hp3, hs3, hg3⟩
    have S3 := S2.next hs3 hg3
    obtain ⟨m, rfl⟩ := Int.eq_ofNat_of_zero_le y0
    go_wp2
    go_ret
    exact ⟨m + 1, rfl, by omega, S3.below⟩
end Go.Proofs.YtncknfhfkmmhbaaGreat
