/- Which objects are valid: the reference. No condition beyond those stated. -/
import Derived.Test.YtemdjochphehjaaGreatQHF
import Derived.Test.YtemdjochphehjaaGreatQHL
import Derived.Test.YtemdjochphehjaaGreatQKA
import Derived.Test.YtemdjochphehjaaGreatQKB
import Derived.Test.YtemdjochphehjaaGreatQJF
import Derived.Test.YtemdjochphehjaaGreatQKC
import Derived.Test.YtemdjochphehjaaGreatQIH
import Derived.Deep.RegionHeld3
import Derived.Test.YtemdjochphehjaaGreatQGB
import Derived.Test.YtemdjochphehjaaGreatQJH
import Derived.Test.YtemdjochphehjaaGreatQGF
import Derived.Deep.RegionHeldLaw
import Derived.Deep.DeepCutAuto
set_option linter.unusedVariables false
set_option linter.unusedSimpArgs false
namespace Go.Proofs.YtemdjochphehjaaGreat
open Go.RowKit

theorem keep2V {W w' : World} {p q : Addr} {u x : Value} (hb : Below W.heap.size W w') (h1 : W.cell? p = some u) (h2 : W.cell? q = some x) : Below W.heap.size W w' ∧ w'.cell? p = some u ∧ w'.cell? q = some x := ⟨hb, below_cell hb h1, below_cell hb h2⟩
set_option maxHeartbeats 1000000 in
theorem l30Array_none (g : Nat) (k s : Int) (A : Option Addr) (c : Nat) (w : World) (hB : Blk w g 30 #[.int .i64 k, .int .i64 s, .slice A 0 c]) :
    Calls Tryz.prog 77 #[.pointer (some ⟨g, 0, none⟩)] w fun e w' => e = .returned (.agg #[.int .i64 s, .int .i64 0, .slice A 0 c]) ∧ Below w.heap.size w w' := by
  obtain ⟨k1, k2, k3⟩ := hB.cells3
  go_enter Tryz.func77, Tryz.ntmps77
  go_wp2
  go_region_held3 (fun w' => Below w.heap.size w w' ∧ w'.cell? ⟨g, 1, none⟩ = some (.int .i64 s) ∧ w'.cell? ⟨g, 2, none⟩ = some (.slice A 0 c))
    (first | exact keep2V ((below_alloc w _).trans (below_drewn' _ _ 1)) k2 k3 | exact keep2V (((below_alloc w _).alloc (by simp) _).trans (below_drewn' _ _ 1)) k2 k3)
    (fail)
  generalize hw1 : World.drew _ = w1
  have hb1 : Below w.heap.size w w1 := by rw [← hw1]; exact ((below_alloc w _).alloc (by simp) _).trans (below_drewn' _ _ 1)
  have Y1 : Blk w1 w.heap.size 60 #[.int .i64 0, .int .i64 0, .slice none 0 0] := by rw [← hw1]; exact (Blk.new w _ _).alloc _
  have X1 : Blk w1 (w.heap.size + 1) 60 #[.int .i64 s, .int .i64 0, .slice A 0 c] := by
    rw [← hw1]
    have := Blk.new (w.alloc (.cells #[.int .i64 0, .int .i64 0, .slice none 0 0] 60)) 60 #[.int .i64 s, .int .i64 0, .slice A 0 c]
    simp at this
    exact this
  clear hw1 k1 k2 k3
  obtain ⟨k1, k2, k3⟩ := (hB.after hb1).cells3
  obtain ⟨x0, x1, x2⟩ := X1.cells3
  obtain ⟨y0, y1, y2⟩ := Y1.cells3
  have g0 := Y1.frozen 0
  have g1 := Y1.frozen 1
  have g2 := Y1.frozen 2
  go_wp2
  refine bodyPost_ret (v := .agg #[.int .i64 s, .int .i64 0, .slice A 0 c]) (by simp [results, Tryz.results77, go_sem, y0, y1, y2]) rfl ⟨rfl, ?_⟩
  repeat (refine Below.setCell ?_ (by simp <;> omega) _)
  exact hb1
set_option maxHeartbeats 2000000 in
theorem judgeAny1 (s : Int) (zss : List (List Int)) (w : World) : Judge 1 s zss (tB ((zss.length : Int) = s ∧ Square zss)) w := by
  intro g A n c W _ hB ha hn hc
  obtain ⟨k1, k2, k3⟩ := hB.cells3
  have hl : (zss.length : Int) = n := by rw [ha.len]
  have e : tB ((zss.length : Int) = s ∧ Square zss) = (tB (Square zss) && decide ((n : Int) = s)) := by
    rw [hl]
    by_cases h1 : Square zss <;> by_cases h2 : (n : Int) = s
    · rw [tB_yes ⟨h2, h1⟩, tB_yes h1, decide_eq_true h2]; rfl
    · rw [tB_no fun h => h2 h.1, decide_eq_false h2, Bool.and_false]
    · rw [tB_no fun h => h1 h.2, tB_no h1]; rfl
    · rw [tB_no fun h => h1 h.2, tB_no h1]; rfl
  rw [e]
  clear e hl hB
  cases hh : tB (Square zss) with
  | true =>
    have hcall : ∀ p : Bel W, Calls Tryz.prog 109 #[.slice A n c] p.w (RetB p.w true) := fun p => by
      rw [← hh]; exact l06Ok_any A n c zss _ (ha.keep p.h) (by omega)
    clear hh
    by_cases hs : (n : Int) = s
    · have hq : ((n : Int) == s) = true := by simp [hs]
      rw [show decide ((n : Int) = s) = true from by simp [hs]]
      clear hs
      go_enter Tryz.func62, Tryz.ntmps62
      go_wp2
      have q2 := cell_bel k2
      have q3 := cell_bel k3
      refine wp_region_bel (by kernel_rfl) (by kernel_rfl) ?_
      repeat (first | go_big_quiet_step ((go_at_call 109; exact Calls.bel (hcall _))) | quiet_step ((go_at_call 109; exact Calls.bel (hcall _))))
      refine wpQuiet_nil ?_
      rintro _ ⟨⟨w2, hb2⟩, rfl⟩
      clear q2 q3
      go_wp2
      go_ret
      exact ⟨rfl, hb2⟩
    · have hq : ((n : Int) == s) = false := by simp [hs]
      rw [show decide ((n : Int) = s) = false from by simp [hs]]
      clear hs
      go_enter Tryz.func62, Tryz.ntmps62
      go_wp2
      have q2 := cell_bel k2
      have q3 := cell_bel k3
      refine wp_region_bel (by kernel_rfl) (by kernel_rfl) ?_
      repeat (first | go_big_quiet_step ((go_at_call 109; exact Calls.bel (hcall _))) | quiet_step ((go_at_call 109; exact Calls.bel (hcall _))))
      refine wpQuiet_nil ?_
      rintro _ ⟨⟨w2, hb2⟩, rfl⟩
      clear q2 q3
      go_wp2
      go_ret
      exact ⟨rfl, hb2⟩
  | false =>
    have hcall : ∀ p : Bel W, Calls Tryz.prog 109 #[.slice A n c] p.w (RetB p.w false) := fun p => by
      rw [← hh]; exact l06Ok_any A n c zss _ (ha.keep p.h) (by omega)
    clear hh
    by_cases hs : (n : Int) = s
    · have hq : ((n : Int) == s) = true := by simp [hs]
      rw [show decide ((n : Int) = s) = true from by simp [hs]]
      clear hs
      go_enter Tryz.func62, Tryz.ntmps62
      go_wp2
      have q2 := cell_bel k2
      have q3 := cell_bel k3
      refine wp_region_bel (by kernel_rfl) (by kernel_rfl) ?_
      repeat (first | go_big_quiet_step ((go_at_call 109; exact Calls.bel (hcall _))) | quiet_step ((go_at_call 109; exact Calls.bel (hcall _))))
      refine wpQuiet_nil ?_
      rintro _ ⟨⟨w2, hb2⟩, rfl⟩
      clear q2 q3
      go_wp2
      go_ret
      exact ⟨rfl, hb2⟩
    · have hq : ((n : Int) == s) = false := by simp [hs]
      rw [show decide ((n : Int) = s) = false from by simp [hs]]
      clear hs
      go_enter Tryz.func62, Tryz.ntmps62
      go_wp2
      have q2 := cell_bel k2
      have q3 := cell_bel k3
      refine wp_region_bel (by kernel_rfl) (by kernel_rfl) ?_
      repeat (first | go_big_quiet_step ((go_at_call 109; exact Calls.bel (hcall _))) | quiet_step ((go_at_call 109; exact Calls.bel (hcall _))))
      refine wpQuiet_nil ?_
      rintro _ ⟨⟨w2, hb2⟩, rfl⟩
      clear q2 q3
      go_wp2
      go_ret
      exact ⟨rfl, hb2⟩
set_option maxHeartbeats 2000000 in
theorem judgeAny3 (s : Int) (zss : List (List Int)) (w : World) : Judge 3 s zss (tB ((zss.length : Int) = s ∧ Had zss)) w := by
  intro g A n c W _ hB ha hn hc
  obtain ⟨k1, k2, k3⟩ := hB.cells3
  have hl : (zss.length : Int) = n := by rw [ha.len]
  have e : tB ((zss.length : Int) = s ∧ Had zss) = (tB (Had zss) && decide ((n : Int) = s)) := by
    rw [hl]
    by_cases h1 : Had zss <;> by_cases h2 : (n : Int) = s
    · rw [tB_yes ⟨h2, h1⟩, tB_yes h1, decide_eq_true h2]; rfl
    · rw [tB_no fun h => h2 h.1, decide_eq_false h2, Bool.and_false]
    · rw [tB_no fun h => h1 h.2, tB_no h1]; rfl
    · rw [tB_no fun h => h1 h.2, tB_no h1]; rfl
  rw [e]
  clear e hl hB
  cases hh : tB (Had zss) with
  | true =>
    have hcall : ∀ q, Calls Tryz.prog 111 #[.slice A n c] (W.drewN q) (Quiet (W.drewN q) (.bool true)) := fun q => by
      rw [← hh]; exact l15Ok_any A n c zss _ (ha.drewN q) (by omega)
    clear hh
    by_cases hs : (n : Int) = s
    · have hq : ((n : Int) == s) = true := by simp [hs]
      rw [show decide ((n : Int) = s) = true from by simp [hs]]
      clear hs
      go_enter Tryz.func62, Tryz.ntmps62
      go_wp2
      go_quiet ((go_at_call 111; exact Quiet.call (hcall _)))
      go_wp2
      go_ret
      exact ⟨rfl, below_drewn _ _⟩
    · have hq : ((n : Int) == s) = false := by simp [hs]
      rw [show decide ((n : Int) = s) = false from by simp [hs]]
      clear hs
      go_enter Tryz.func62, Tryz.ntmps62
      go_wp2
      go_quiet ((go_at_call 111; exact Quiet.call (hcall _)))
      go_wp2
      go_ret
      exact ⟨rfl, below_drewn _ _⟩
  | false =>
    have hcall : ∀ q, Calls Tryz.prog 111 #[.slice A n c] (W.drewN q) (Quiet (W.drewN q) (.bool false)) := fun q => by
      rw [← hh]; exact l15Ok_any A n c zss _ (ha.drewN q) (by omega)
    clear hh
    by_cases hs : (n : Int) = s
    · have hq : ((n : Int) == s) = true := by simp [hs]
      rw [show decide ((n : Int) = s) = true from by simp [hs]]
      clear hs
      go_enter Tryz.func62, Tryz.ntmps62
      go_wp2
      go_quiet ((go_at_call 111; exact Quiet.call (hcall _)))
      go_wp2
      go_ret
      exact ⟨rfl, below_drewn _ _⟩
    · have hq : ((n : Int) == s) = false := by simp [hs]
      rw [show decide ((n : Int) = s) = false from by simp [hs]]
      clear hs
      go_enter Tryz.func62, Tryz.ntmps62
      go_wp2
      go_quiet ((go_at_call 111; exact Quiet.call (hcall _)))
      go_wp2
      go_ret
      exact ⟨rfl, below_drewn _ _⟩
set_option maxHeartbeats 2000000 in
theorem judgeAny2 (s : Int) (zss : List (List Int)) (w : World) : Judge 2 s zss (tB (Design s zss)) w := by
  intro g A n c W _ hB ha hn hc
  obtain ⟨k1, k2, k3⟩ := hB.cells3
  cases hh : tB (Design s zss) with
  | true =>
    have hcall : ∀ (g' : Nat) (W' : World), Blk W' g' 48 #[.int .i64 s, .slice A n c] → Below W.heap.size W W' → Calls Tryz.prog 110 #[.pointer (some ⟨g', 0, none⟩)] W' (Quiet W' (.bool true)) := fun g' W' hb hw => by
      rw [← hh]; exact l10Ok_any g' s A n c zss W' hb (ha.keep hw) (by omega)
    clear hh
    go_enter Tryz.func62, Tryz.ntmps62
    go_wp2
    go_region_held3 (fun w' => Below W.heap.size W w' ∧ w'.cell? ⟨g, 1, none⟩ = some (.int .i64 s) ∧ w'.cell? ⟨g, 2, none⟩ = some (.slice A n c))
      (first | exact keep2V (below_drewn _ 1) k2 k3 | exact keep2V ((below_alloc W _).trans (below_drewn' _ _ 1)) k2 k3 | exact keep2V (below_then (And.left (by assumption)) (by assumption)) k2 k3 | exact keep2V (below_then (And.left (by assumption)) (Drawn.below (by assumption))) k2 k3)
      (first | (go_at_call 110; (with_reducible refine (hcall _ _ ?_ ?_).mono ?_); (exact Blk.new _ _ _); (exact (below_alloc W _).trans (below_drewn' _ _ 1)); rintro e w2 ⟨rfl, hd2⟩))
    have hw : Below W.heap.size W w2 := And.left (by assumption)
    go_wp2
    go_ret
    exact ⟨rfl, hw⟩
  | false =>
    have hcall : ∀ (g' : Nat) (W' : World), Blk W' g' 48 #[.int .i64 s, .slice A n c] → Below W.heap.size W W' → Calls Tryz.prog 110 #[.pointer (some ⟨g', 0, none⟩)] W' (Quiet W' (.bool false)) := fun g' W' hb hw => by
      rw [← hh]; exact l10Ok_any g' s A n c zss W' hb (ha.keep hw) (by omega)
    clear hh
    go_enter Tryz.func62, Tryz.ntmps62
    go_wp2
    go_region_held3 (fun w' => Below W.heap.size W w' ∧ w'.cell? ⟨g, 1, none⟩ = some (.int .i64 s) ∧ w'.cell? ⟨g, 2, none⟩ = some (.slice A n c))
      (first | exact keep2V (below_drewn _ 1) k2 k3 | exact keep2V ((below_alloc W _).trans (below_drewn' _ _ 1)) k2 k3 | exact keep2V (below_then (And.left (by assumption)) (by assumption)) k2 k3 | exact keep2V (below_then (And.left (by assumption)) (Drawn.below (by assumption))) k2 k3)
      (first | (go_at_call 110; (with_reducible refine (hcall _ _ ?_ ?_).mono ?_); (exact Blk.new _ _ _); (exact (below_alloc W _).trans (below_drewn' _ _ 1)); rintro e w2 ⟨rfl, hd2⟩))
    have hw : Below W.heap.size W w2 := And.left (by assumption)
    go_wp2
    go_ret
    exact ⟨rfl, hw⟩
set_option maxHeartbeats 2000000 in
theorem judgeAny7 (s : Int) (zss : List (List Int)) (w : World) : Judge 7 s zss (tB (GroupOk s zss)) w := by
  intro g A n c W _ hB ha hn hc
  obtain ⟨k1, k2, k3⟩ := hB.cells3
  cases hh : tB (GroupOk s zss) with
  | true =>
    have hcall : ∀ (g' : Nat) (W' : World), Blk W' g' 54 #[.int .i64 s, .slice A n c] → Below W.heap.size W W' → Calls Tryz.prog 114 #[.pointer (some ⟨g', 0, none⟩)] W' (RetB W' true) := fun g' W' hb hw => by
      rw [← hh]; exact l05Ok_any g' s A n c zss W' hb (ha.keep hw) (by omega)
    clear hh
    go_enter Tryz.func62, Tryz.ntmps62
    go_wp2
    go_region_held3 (fun w' => Below W.heap.size W w' ∧ w'.cell? ⟨g, 1, none⟩ = some (.int .i64 s) ∧ w'.cell? ⟨g, 2, none⟩ = some (.slice A n c))
      (first | exact keep2V (below_drewn _ 1) k2 k3 | exact keep2V ((below_alloc W _).trans (below_drewn' _ _ 1)) k2 k3 | exact keep2V (below_then (And.left (by assumption)) (by assumption)) k2 k3 | exact keep2V (below_then (And.left (by assumption)) (Drawn.below (by assumption))) k2 k3)
      (first | (go_at_call 114; (with_reducible refine (hcall _ _ ?_ ?_).mono ?_); (exact Blk.new _ _ _); (exact (below_alloc W _).trans (below_drewn' _ _ 1)); rintro e w2 ⟨rfl, hd2⟩))
    have hw : Below W.heap.size W w2 := And.left (by assumption)
    go_wp2
    go_ret
    exact ⟨rfl, hw⟩
  | false =>
    have hcall : ∀ (g' : Nat) (W' : World), Blk W' g' 54 #[.int .i64 s, .slice A n c] → Below W.heap.size W W' → Calls Tryz.prog 114 #[.pointer (some ⟨g', 0, none⟩)] W' (RetB W' false) := fun g' W' hb hw => by
      rw [← hh]; exact l05Ok_any g' s A n c zss W' hb (ha.keep hw) (by omega)
    clear hh
    go_enter Tryz.func62, Tryz.ntmps62
    go_wp2
    go_region_held3 (fun w' => Below W.heap.size W w' ∧ w'.cell? ⟨g, 1, none⟩ = some (.int .i64 s) ∧ w'.cell? ⟨g, 2, none⟩ = some (.slice A n c))
      (first | exact keep2V (below_drewn _ 1) k2 k3 | exact keep2V ((below_alloc W _).trans (below_drewn' _ _ 1)) k2 k3 | exact keep2V (below_then (And.left (by assumption)) (by assumption)) k2 k3 | exact keep2V (below_then (And.left (by assumption)) (Drawn.below (by assumption))) k2 k3)
      (first | (go_at_call 114; (with_reducible refine (hcall _ _ ?_ ?_).mono ?_); (exact Blk.new _ _ _); (exact (below_alloc W _).trans (below_drewn' _ _ 1)); rintro e w2 ⟨rfl, hd2⟩))
    have hw : Below W.heap.size W w2 := And.left (by assumption)
    go_wp2
    go_ret
    exact ⟨rfl, hw⟩
set_option maxHeartbeats 2000000 in
theorem judgeAny4 (s : Int) (zss : List (List Int)) (w : World) : Judge 4 s zss (tB (0 < zss.length ∧ Array' s (row zss 0).length zss)) w := by
  intro g A n c W _ hB ha hn hc
  obtain ⟨k1, k2, k3⟩ := hB.cells3
  have hl := ha.len
  by_cases h0 : 0 < n
  · have e : tB (0 < zss.length ∧ Array' s (row zss 0).length zss) = tB (Array' s (row zss 0).length zss) := by
      by_cases hA : Array' s (row zss 0).length zss
      · rw [tB_yes hA, tB_yes ⟨by omega, hA⟩]
      · rw [tB_no hA, tB_no fun h => hA h.2]
    rw [e]
    have hn0 : (0 : Int) < n := by omega
    clear e
    go_enter Tryz.func62, Tryz.ntmps62
    go_wp2_with fail
    refine (l30Array_any g 4 s A n c zss _ hB ha h0 hn hc).mono ?_
    rintro e w1 ⟨rfl, hb1⟩
    have X := Blk.new w1 60 #[.int .i64 s, .int .i64 (row zss 0).length, .slice A n c]
    have hb2 := below_then hb1 (below_alloc w1 (.cells #[.int .i64 s, .int .i64 (row zss 0).length, .slice A n c] 60))
    have hcall := l16Ok_any w1.heap.size s (row zss 0).length A n c zss _ X (ha.keep hb2) (by omega)
    clear k1 k2 k3
    obtain ⟨k1, k2, k3⟩ := (hB.after hb2).cells3
    generalize tB (Array' s (row zss 0).length zss) = b at *
    go_wp2_with fail
    refine hcall.mono ?_
    rintro e w2 ⟨rfl, hd2⟩
    go_wp2
    go_ret
    exact ⟨rfl, hb2.trans (hd2.below.mono hb2.size)⟩
  · obtain rfl : n = 0 := by omega
    rw [tB_no fun h => h0 (by have := h.1; omega)]
    go_enter Tryz.func62, Tryz.ntmps62
    go_wp2_with fail
    refine (l30Array_none g 4 s A c _ hB).mono ?_
    rintro e w1 ⟨rfl, hb1⟩
    have hb2 := below_then hb1 (below_alloc w1 (.cells #[.int .i64 s, .int .i64 0, .slice A 0 c] 60))
    clear k1 k2 k3
    obtain ⟨k1, k2, k3⟩ := (hB.after hb2).cells3
    go_wp2
    go_ret
    exact ⟨rfl, hb2⟩
set_option maxHeartbeats 2000000 in
theorem judgeElse (k s : Int) (zss : List (List Int)) (w : World) (hk : k ≠ 1 ∧ k ≠ 2 ∧ k ≠ 3 ∧ k ≠ 4 ∧ k ≠ 5 ∧ k ≠ 6 ∧ k ≠ 7) : Judge k s zss false w := by
  intro g A n c W _ hB ha hn hc
  obtain ⟨k1, k2, k3⟩ := hB.cells3
  obtain ⟨h1, h2, h3, h4, h5, h6, h7⟩ := hk
  have e1 : (k == 1) = false := by simpa using h1
  have e2 : (k == 2) = false := by simpa using h2
  have e3 : (k == 3) = false := by simpa using h3
  have e4 : (k == 4) = false := by simpa using h4
  have e5 : (k == 5) = false := by simpa using h5
  have e6 : (k == 6) = false := by simpa using h6
  have e7 : (k == 7) = false := by simpa using h7
  clear h1 h2 h3 h4 h5 h6 h7
  go_enter Tryz.func62, Tryz.ntmps62
  go_wp2
  go_ret
  exact ⟨rfl, Below.refl _ _⟩
/-- a valid object: its kind, its size and its rows -/
def VObj (k s : Int) (zss : List (List Int)) : Prop :=
  (k = 1 ∧ (zss.length : Int) = s ∧ Square zss) ∨ (k = 2 ∧ Design s zss) ∨ (k = 3 ∧ (zss.length : Int) = s ∧ Had zss) ∨ (k = 4 ∧ 0 < zss.length ∧ Array' s (row zss 0).length zss) ∨ (k = 5 ∧ CObj s zss) ∨ (k = 6 ∧ GObj s zss) ∨ (k = 7 ∧ GroupOk s zss)
theorem vobj1 (s : Int) (zss : List (List Int)) : VObj 1 s zss ↔ ((zss.length : Int) = s ∧ Square zss) := by unfold VObj; simp
theorem vobj2 (s : Int) (zss : List (List Int)) : VObj 2 s zss ↔ Design s zss := by unfold VObj; simp
theorem vobj3 (s : Int) (zss : List (List Int)) : VObj 3 s zss ↔ ((zss.length : Int) = s ∧ Had zss) := by unfold VObj; simp
theorem vobj4 (s : Int) (zss : List (List Int)) : VObj 4 s zss ↔ (0 < zss.length ∧ Array' s (row zss 0).length zss) := by unfold VObj; simp
theorem vobj5 (s : Int) (zss : List (List Int)) : VObj 5 s zss ↔ CObj s zss := by unfold VObj; simp
theorem vobj6 (s : Int) (zss : List (List Int)) : VObj 6 s zss ↔ GObj s zss := by unfold VObj; simp
theorem vobj7 (s : Int) (zss : List (List Int)) : VObj 7 s zss ↔ GroupOk s zss := by unfold VObj; simp
theorem vobj_no {k s : Int} {zss : List (List Int)} (hk : k ≠ 1 ∧ k ≠ 2 ∧ k ≠ 3 ∧ k ≠ 4 ∧ k ≠ 5 ∧ k ≠ 6 ∧ k ≠ 7) : ¬ VObj k s zss := by
  obtain ⟨h1, h2, h3, h4, h5, h6, h7⟩ := hk
  rintro (⟨h, _⟩ | ⟨h, _⟩ | ⟨h, _⟩ | ⟨h, _⟩ | ⟨h, _⟩ | ⟨h, _⟩ | ⟨h, _⟩) <;> contradiction
theorem judgeAny (k s : Int) (zss : List (List Int)) (w : World) (hz : zss.length ≤ 1099511627776) : Judge k s zss (tB (VObj k s zss)) w := by
  by_cases h1 : k = 1
  · subst h1; rw [tB_congr (vobj1 s zss)]; exact judgeAny1 s zss w
  by_cases h2 : k = 2
  · subst h2; rw [tB_congr (vobj2 s zss)]; exact judgeAny2 s zss w
  by_cases h3 : k = 3
  · subst h3; rw [tB_congr (vobj3 s zss)]; exact judgeAny3 s zss w
  by_cases h4 : k = 4
  · subst h4; rw [tB_congr (vobj4 s zss)]; exact judgeAny4 s zss w
  by_cases h5 : k = 5
  · subst h5; rw [tB_congr (vobj5 s zss)]; exact judgeCode s zss w
  by_cases h6 : k = 6
  · subst h6; rw [tB_congr (vobj6 s zss)]; exact judgeGraphR s zss w hz
  by_cases h7 : k = 7
  · subst h7; rw [tB_congr (vobj7 s zss)]; exact judgeAny7 s zss w
  rw [tB_no (vobj_no ⟨h1, h2, h3, h4, h5, h6, h7⟩)]
  exact judgeElse k s zss w ⟨h1, h2, h3, h4, h5, h6, h7⟩
end Go.Proofs.YtemdjochphehjaaGreat
/- What an object stands for: the program's functions. No condition beyond those stated. -/
namespace Go.Proofs.YtemdjochphehjaaGreat
open Go.RowKit

/-- a struct of a number and rows of the call's own -/
def RetS2 (w : World) (s : Int) (zss : List (List Int)) (e : Ending) (w' : World) : Prop := ∃ A n c, e = .returned (.agg #[.int .i64 s, .slice A n c]) ∧ OR w' w.heap.size 22 2 A n c zss ∧ Below w.heap.size w w'
theorem obj12 {w : World} {g : Nat} {T : TypeId} {x y z : Value} (h : Blk w g T #[x, y, z]) : w.cell? ⟨g, 1, none⟩ = some y ∧ w.cell? ⟨g, 2, none⟩ = some z := ⟨h.cell 1, h.cell 2⟩
set_option maxHeartbeats 800000 in
theorem designOf_any (k s : Int) (A : Option Addr) (n c : Nat) (zss : List (List Int)) (w : World) (ha : RR w A n zss) (hn : n ≤ 1099511627776) (hr : cells zss ≤ 1099511627776) :
    Calls Tryz.prog 66 #[.agg #[.int .i64 k, .int .i64 s, .slice A n c]] w (RetS2 w s zss) := by
  have hb1 := (below_alloc w (.cells #[.int .i64 k, .int .i64 s, .slice A n c] 30)).alloc (by simp) (.cells #[.int .i64 0, .slice none 0 0] 48)
  have X0 := (Blk.new w 30 #[.int .i64 k, .int .i64 s, .slice A n c]).alloc (.cells #[.int .i64 0, .slice none 0 0] 48)
  have R0 : Blk ((w.alloc (.cells #[.int .i64 k, .int .i64 s, .slice A n c] 30)).alloc (.cells #[.int .i64 0, .slice none 0 0] 48)) (w.heap.size + 1) 48 #[.int .i64 0, .slice none 0 0] := by
    have := Blk.new (w.alloc (.cells #[.int .i64 k, .int .i64 s, .slice A n c] 30)) 48 #[.int .i64 0, .slice none 0 0]
    simpa using this
  have hz : ((w.alloc (.cells #[.int .i64 k, .int .i64 s, .slice A n c] 30)).alloc (.cells #[.int .i64 0, .slice none 0 0] 48)).heap.size = w.heap.size + 2 := by simp
  go_enter Tryz.func66, Tryz.ntmps66
  go_wp2
  generalize (w.alloc (.cells #[.int .i64 k, .int .i64 s, .slice A n c] 30)).alloc (.cells #[.int .i64 0, .slice none 0 0] 48) = W at *
  have bd : Below W.heap.size W W.drew := by have := below_drewn W 1; simpa [← World.drew_is_drewN] using this
  have Xd := X0.after bd
  have hcp := copyLists_any A n c zss W.drew ((ha.keep hb1).keep bd) hn hr
  have hzd : W.heap.size ≤ W.drew.heap.size := bd.size
  have ne : w.heap.size ≠ w.heap.size + 1 := by omega
  go_region_held_law (fun w' => w'.cell? ⟨w.heap.size, 1, none⟩ = some (.int .i64 s) ∧ w'.cell? ⟨w.heap.size, 2, none⟩ = some (.slice A n c))
    (first | with_reducible exact obj12 Xd | with_reducible exact obj12 X3 | with_reducible exact obj12 ((X3.far (p := ⟨w.heap.size + 1, 0, none⟩) ne _).far (p := ⟨w.heap.size + 1, 1, none⟩) ne _))
    ((go_at_call 105; (with_reducible refine hcp.mono ?_); rintro e w3 ⟨A2, n2, c2, rfl, ho, hb⟩; have hb3 := bd.trans (hb.mono hzd); have X3 := X0.after hb3; have R3 := R0.after hb3; obtain ⟨r0, r1⟩ := R3.cells2; have f0 := R3.frozen 0; have f1 := (R3.set_ 0 (.int .i64 s)).frozen 1; have r2 := (R3.set_ 0 (.int .i64 s)).cell 1))
  have R4 : Blk ((w3.setCell ⟨w.heap.size + 1, 0, none⟩ (.int .i64 s)).setCell ⟨w.heap.size + 1, 1, none⟩ (.slice A2 n2 c2)) (w.heap.size + 1) 48 #[.int .i64 s, .slice A2 n2 c2] := by
    have := (R3.set_ 0 (.int .i64 s)).set_ 1 (.slice A2 n2 c2)
    simpa using this
  have hz3 := hb.size
  have hw3 := hb1.trans (hb3.mono hb1.size)
  clear r0 r1 r2 f0 f1
  go_wp2
  refine bodyPost_ret (results_cell_row (P := Tryz.prog) rfl _ _ (w.heap.size + 1) 48 _ (0, 0) _ rfl R4 Tryz.underlying48 rfl (by kernel_rfl)) rfl ?_
  refine ⟨A2, n2, c2, rfl, ?_, ?_⟩
  · refine OR.more (B := W.drew.heap.size) ?_ (by omega)
    repeat (refine OR.setLow ?_ (by simp <;> omega) _)
    exact ho
  · repeat (refine Below.setCell ?_ (by simp <;> omega) _)
    exact hw3
set_option maxHeartbeats 800000 in
theorem groupOf_any (k s : Int) (A : Option Addr) (n c : Nat) (zss : List (List Int)) (w : World) (ha : RR w A n zss) (hn : n ≤ 1099511627776) (hr : cells zss ≤ 1099511627776) :
    Calls Tryz.prog 73 #[.agg #[.int .i64 k, .int .i64 s, .slice A n c]] w (RetS2 w s zss) := by
  have hb1 := (below_alloc w (.cells #[.int .i64 k, .int .i64 s, .slice A n c] 30)).alloc (by simp) (.cells #[.int .i64 0, .slice none 0 0] 54)
  have X0 := (Blk.new w 30 #[.int .i64 k, .int .i64 s, .slice A n c]).alloc (.cells #[.int .i64 0, .slice none 0 0] 54)
  have R0 : Blk ((w.alloc (.cells #[.int .i64 k, .int .i64 s, .slice A n c] 30)).alloc (.cells #[.int .i64 0, .slice none 0 0] 54)) (w.heap.size + 1) 54 #[.int .i64 0, .slice none 0 0] := by
    have := Blk.new (w.alloc (.cells #[.int .i64 k, .int .i64 s, .slice A n c] 30)) 54 #[.int .i64 0, .slice none 0 0]
    simpa using this
  have hz : ((w.alloc (.cells #[.int .i64 k, .int .i64 s, .slice A n c] 30)).alloc (.cells #[.int .i64 0, .slice none 0 0] 54)).heap.size = w.heap.size + 2 := by simp
  go_enter Tryz.func73, Tryz.ntmps73
  go_wp2
  generalize (w.alloc (.cells #[.int .i64 k, .int .i64 s, .slice A n c] 30)).alloc (.cells #[.int .i64 0, .slice none 0 0] 54) = W at *
  have bd : Below W.heap.size W W.drew := by have := below_drewn W 1; simpa [← World.drew_is_drewN] using this
  have Xd := X0.after bd
  have hcp := copyLists_any A n c zss W.drew ((ha.keep hb1).keep bd) hn hr
  have hzd : W.heap.size ≤ W.drew.heap.size := bd.size
  have ne : w.heap.size ≠ w.heap.size + 1 := by omega
  go_region_held_law (fun w' => w'.cell? ⟨w.heap.size, 1, none⟩ = some (.int .i64 s) ∧ w'.cell? ⟨w.heap.size, 2, none⟩ = some (.slice A n c))
    (first | with_reducible exact obj12 Xd | with_reducible exact obj12 X3 | with_reducible exact obj12 ((X3.far (p := ⟨w.heap.size + 1, 0, none⟩) ne _).far (p := ⟨w.heap.size + 1, 1, none⟩) ne _))
    ((go_at_call 105; (with_reducible refine hcp.mono ?_); rintro e w3 ⟨A2, n2, c2, rfl, ho, hb⟩; have hb3 := bd.trans (hb.mono hzd); have X3 := X0.after hb3; have R3 := R0.after hb3; obtain ⟨r0, r1⟩ := R3.cells2; have f0 := R3.frozen 0; have f1 := (R3.set_ 0 (.int .i64 s)).frozen 1; have r2 := (R3.set_ 0 (.int .i64 s)).cell 1))
  have R4 : Blk ((w3.setCell ⟨w.heap.size + 1, 0, none⟩ (.int .i64 s)).setCell ⟨w.heap.size + 1, 1, none⟩ (.slice A2 n2 c2)) (w.heap.size + 1) 54 #[.int .i64 s, .slice A2 n2 c2] := by
    have := (R3.set_ 0 (.int .i64 s)).set_ 1 (.slice A2 n2 c2)
    simpa using this
  have hz3 := hb.size
  have hw3 := hb1.trans (hb3.mono hb1.size)
  clear r0 r1 r2 f0 f1
  go_wp2
  refine bodyPost_ret (results_cell_row (P := Tryz.prog) rfl _ _ (w.heap.size + 1) 54 _ (0, 0) _ rfl R4 Tryz.underlying54 rfl (by kernel_rfl)) rfl ?_
  refine ⟨A2, n2, c2, rfl, ?_, ?_⟩
  · refine OR.more (B := W.drew.heap.size) ?_ (by omega)
    repeat (refine OR.setLow ?_ (by simp <;> omega) _)
    exact ho
  · repeat (refine Below.setCell ?_ (by simp <;> omega) _)
    exact hw3
/-- an array made of an object -/
def RetS3 (w : World) (s : Int) (zss : List (List Int)) (e : Ending) (w' : World) : Prop := ∃ A n c, e = .returned (.agg #[.int .i64 s, .int .i64 (row zss 0).length, .slice A n c]) ∧ OR w' w.heap.size 22 2 A n c zss ∧ Below w.heap.size w w'
def CutA (w wx : World) (k s : Int) (A : Option Addr) (n c : Nat) (zss : List (List Int)) (s3 : Value) : Prop := ∃ g A2 n2 c2, s3 = .pointer (some ⟨g, 0, none⟩) ∧ w.heap.size + 2 ≤ g ∧ Blk wx w.heap.size 30 #[.int .i64 k, .int .i64 s, .slice A n c] ∧ Blk wx (w.heap.size + 1) 60 #[.int .i64 0, .int .i64 0, .slice none 0 0] ∧ Blk wx g 60 #[.int .i64 s, .int .i64 0, .slice A2 n2 c2] ∧ OR wx (w.heap.size + 2) 22 2 A2 n2 c2 zss ∧ Below w.heap.size w wx
theorem cutA_done {w wx : World} {k s : Int} {A : Option Addr} {n c : Nat} {zss : List (List Int)} {g : Nat} {A2 : Option Addr} {n2 c2 : Nat} (X : Blk wx w.heap.size 30 #[.int .i64 k, .int .i64 s, .slice A n c]) (R : Blk wx (w.heap.size + 1) 60 #[.int .i64 0, .int .i64 0, .slice none 0 0])
    (Y : Blk wx g 60 #[.int .i64 0, .int .i64 0, .slice none 0 0]) (ho : OR wx (w.heap.size + 2) 22 2 A2 n2 c2 zss) (hw : Below w.heap.size w wx) (hg : w.heap.size + 2 ≤ g) :
    CutA w (((wx.setCell ⟨g, 0, none⟩ (.int .i64 s)).setCell ⟨g, 1, none⟩ (.int .i64 0)).setCell ⟨g, 2, none⟩ (.slice A2 n2 c2)) k s A n c zss (.pointer (some ⟨g, 0, none⟩)) := by
  have hgr : wx.grownBy (((wx.setCell ⟨g, 0, none⟩ (.int .i64 s)).setCell ⟨g, 1, none⟩ (.int .i64 0)).setCell ⟨g, 2, none⟩ (.slice A2 n2 c2)) (some g) := (grown_set.trans grown_set).trans grown_set
  refine ⟨g, A2, n2, c2, rfl, hg, X.grown hgr (fun e => by injection e with e; omega), R.grown hgr (fun e => by injection e with e; omega), ?_, ?_, hw.grown hgr hw.size (fun b hb => by injection hb with hb; omega)⟩
  · have := ((Y.set_ 0 (.int .i64 s)).set_ 1 (.int .i64 0)).set_ 2 (.slice A2 n2 c2)
    simpa using this
  · obtain ⟨vs, h⟩ := ho
    exact ⟨vs, h.off Y (by decide) (by decide) hgr⟩
theorem OR.blkFar {w : World} {B g : Nat} {T : TypeId} {cs : Array Value} {A : Option Addr} {n c : Nat} {zss : List (List Int)} (h : OR w B 22 2 A n c zss) (hb : Blk w g T cs) (h2 : T ≠ 22) (h1 : T ≠ 2) (i : Nat) (u : Value) : OR (w.setCell ⟨g, i, none⟩ u) B 22 2 A n c zss := by
  obtain ⟨vs, h⟩ := h
  exact ⟨vs, h.off hb h2 h1 grown_set⟩
set_option maxHeartbeats 2000000 in
theorem arrayOf_any (k s : Int) (A : Option Addr) (n c : Nat) (zss : List (List Int)) (w : World) (ha : RR w A n zss) (hn : n ≤ 1099511627776) (hr : cells zss ≤ 1099511627776) :
    Calls Tryz.prog 69 #[.agg #[.int .i64 k, .int .i64 s, .slice A n c]] w (RetS3 w s zss) := by
  have hb1 := (below_alloc w (.cells #[.int .i64 k, .int .i64 s, .slice A n c] 30)).alloc (by simp) (.cells #[.int .i64 0, .int .i64 0, .slice none 0 0] 60)
  have X0 := (Blk.new w 30 #[.int .i64 k, .int .i64 s, .slice A n c]).alloc (.cells #[.int .i64 0, .int .i64 0, .slice none 0 0] 60)
  have R0 : Blk ((w.alloc (.cells #[.int .i64 k, .int .i64 s, .slice A n c] 30)).alloc (.cells #[.int .i64 0, .int .i64 0, .slice none 0 0] 60)) (w.heap.size + 1) 60 #[.int .i64 0, .int .i64 0, .slice none 0 0] := by
    have := Blk.new (w.alloc (.cells #[.int .i64 k, .int .i64 s, .slice A n c] 30)) 60 #[.int .i64 0, .int .i64 0, .slice none 0 0]
    simpa using this
  have hz : ((w.alloc (.cells #[.int .i64 k, .int .i64 s, .slice A n c] 30)).alloc (.cells #[.int .i64 0, .int .i64 0, .slice none 0 0] 60)).heap.size = w.heap.size + 2 := by simp
  have hl := Lib.hid ha.len
  go_enter Tryz.func69, Tryz.ntmps69
  go_upto_region 1 with (fail)
  generalize (w.alloc (.cells #[.int .i64 k, .int .i64 s, .slice A n c] 30)).alloc (.cells #[.int .i64 0, .int .i64 0, .slice none 0 0] 60) = W at *
  have HCP := Lib.hid (fun (V : World) (hV : Below W.heap.size W V) => copyLists_any A n c zss V ((ha.keep hb1).keep hV) hn hr)
  go_cut [3] (fun s3 wx => CutA w wx k s A n c zss s3)
  case first =>
    have bd : Below W.heap.size W W.drew := by have := below_drewn W 1; simpa [← World.drew_is_drewN] using this
    have Xd := X0.after bd
    refine region_last (P := Tryz.prog) (S := fun w' => w'.cell? ⟨w.heap.size, 1, none⟩ = some (.int .i64 s) ∧ w'.cell? ⟨w.heap.size, 2, none⟩ = some (.slice A n c)) (by kernel_rfl) (by simp only [List.getLast?_cons_cons, List.getLast?_singleton]; rfl) (by dsimp only [List.dropLast]) (by kernel_rfl) ⟨Xd.cell 1, Xd.cell 2⟩ ?_
    intro hS
    refine wpAnyH_take (i := 0) (v := ?_) rfl (by kernel_rfl) (by kernel_rfl) (by kernel_rfl) (fun _ _ _ h => h) (Or.inl ⟨by rfl, ?_⟩) (by assumption) ?_
    rotate_left
    · (intro w hSw; (try dsimp only at hSw); go_simp; (try with_reducible rfl))
    simp only [Act.put, List.setIfInBounds_toArray, List.set_cons_zero, List.set_cons_succ]
    refine wpAnyH_take (i := 1) (v := ?_) rfl (by kernel_rfl) (by kernel_rfl) (by kernel_rfl) (fun _ _ _ h => h) (Or.inl ⟨by rfl, ?_⟩) (by assumption) ?_
    rotate_left
    · (intro w hSw; (try dsimp only at hSw); go_simp; (try with_reducible rfl))
    simp only [Act.put, List.setIfInBounds_toArray, List.set_cons_zero, List.set_cons_succ]
    refine wpAnyH_take (i := 2) (v := ?_) rfl (by kernel_rfl) (by kernel_rfl) (by kernel_rfl) (fun _ _ _ h => h) (Or.inl ⟨by rfl, ?_⟩) (by assumption) ?_
    rotate_left
    · (intro w hSw; (try dsimp only at hSw); go_simp; (try with_reducible rfl))
    simp only [Act.put, List.setIfInBounds_toArray, List.set_cons_zero, List.set_cons_succ]
    refine wpAnyH_take (i := 3) (v := ?_) rfl (by kernel_rfl) (by kernel_rfl) (by kernel_rfl) (fun _ _ _ h => h) (Or.inl ⟨by rfl, ?_⟩) (by assumption) ?_
    rotate_left
    · (intro w hSw; (try dsimp only at hSw); go_simp; (try with_reducible rfl))
    simp only [Act.put, List.setIfInBounds_toArray, List.set_cons_zero, List.set_cons_succ]
    simp only [List.getElem_toArray, List.getElem_cons_succ, List.getElem_cons_zero]
    have HX := Lib.hid Xd
    have HR := Lib.hid (R0.after bd)
    have HB := Lib.hid (hb1.trans (bd.mono hb1.size))
    have HC := Lib.hid (HCP.out _ bd)
    have hzd := bd.size
    generalize W.drew = V at *
    clear Xd
    refine wpAnyH_ready (rs := [4, 6]) (by kernel_rfl) (by simp) ?_
    refine AllReadyH.cons rfl (fun K hK => ?_) (AllReadyH.cons rfl (fun K hK => ?_) AllReadyH.nil)
    · go_simp
      refine HC.out.mono ?_
      rintro e w3 ⟨A2, n2, c2, rfl, ho, hb⟩
      dsimp only
      have X3 := HX.out.after hb
      have R3 := HR.out.after hb
      have hw3 := HB.out.trans (hb.mono HB.out.size)
      have hz3 := hb.size
      refine hK.out _ _ ⟨X3.cell 1, X3.cell 2⟩ (fun hS1 => ?_)
      clear hK K hS
      refine wpAnyH_take (i := 5) (v := ?_) rfl (by kernel_rfl) (by kernel_rfl) (by kernel_rfl) (fun _ _ _ h => h) (Or.inl ⟨by rfl, ?_⟩) (by assumption) ?_
      rotate_left
      · (intro w hSw; (try dsimp only at hSw); go_simp; (try with_reducible rfl))
      simp only [Act.put, List.setIfInBounds_toArray, List.set_cons_zero, List.set_cons_succ]
      refine wpAnyH_ready (rs := [6]) (by kernel_rfl) (by simp) ?_
      refine AllReadyH.cons rfl (fun K hK => ?_) AllReadyH.nil
      go_simp
      have X4 := X3.alloc (.cells #[.int .i64 0, .int .i64 0, .slice none 0 0] 60)
      have R4 := R3.alloc (.cells #[.int .i64 0, .int .i64 0, .slice none 0 0] 60)
      have Y4 := Blk.new w3 60 #[.int .i64 0, .int .i64 0, .slice none 0 0]
      have ho4 := (ho.more (show w.heap.size + 2 ≤ V.heap.size from by omega)).alloc (.cells #[.int .i64 0, .int .i64 0, .slice none 0 0] 60)
      have hw4 := hw3.alloc (by have := hw3.size; omega) (.cells #[.int .i64 0, .int .i64 0, .slice none 0 0] 60)
      refine hK.out _ _ ⟨X4.cell 1, X4.cell 2⟩ (fun hS2 => ?_)
      clear hK K hS1
      have hgl : w.heap.size + 2 ≤ w3.heap.size := by omega
      generalize w3.alloc _ = w4 at *
      generalize w3.heap.size = g at *
      refine wpAnyH_done (by kernel_rfl) ?_ _
      dsimp only [atEnd]
      clear hS2
      obtain ⟨y0, y1, y2⟩ := Y4.cells3
      have f0 := Y4.frozen 0
      have f1 := (Y4.set_ 0 (.int .i64 s)).frozen 1
      have f2 := ((Y4.set_ 0 (.int .i64 s)).set_ 1 (.int .i64 0)).frozen 2
      have v1 := (Y4.set_ 0 (.int .i64 s)).cell 1
      have v2 := ((Y4.set_ 0 (.int .i64 s)).set_ 1 (.int .i64 0)).cell 2
      go_wp2
      go_meet
      exact cutA_done X4 R4 Y4 ho4 hw4 hgl
    · go_simp
      have X3 := HX.out.alloc (.cells #[.int .i64 0, .int .i64 0, .slice none 0 0] 60)
      have R3 := HR.out.alloc (.cells #[.int .i64 0, .int .i64 0, .slice none 0 0] 60)
      have Y3 := Blk.new V 60 #[.int .i64 0, .int .i64 0, .slice none 0 0]
      have hb3 := below_alloc V (.cells #[.int .i64 0, .int .i64 0, .slice none 0 0] 60)
      have hV3 := bd.trans (hb3.mono hzd)
      have hC3 := HCP.out _ hV3
      have hw3 := HB.out.trans (hb3.mono HB.out.size)
      refine hK.out _ _ ⟨X3.cell 1, X3.cell 2⟩ (fun hS1 => ?_)
      clear hK K hS
      have hgl : w.heap.size + 2 ≤ V.heap.size := by omega
      have hz3 := hb3.size
      clear hb3 hV3
      generalize V.alloc _ = w3 at *
      generalize V.heap.size = g at *
      refine wpAnyH_ready (rs := [4]) (by kernel_rfl) (by simp) ?_
      refine AllReadyH.cons rfl (fun K hK => ?_) AllReadyH.nil
      go_simp
      refine hC3.mono ?_
      rintro e w4 ⟨A2, n2, c2, rfl, ho, hb⟩
      dsimp only
      have X4 := X3.after hb
      have R4 := R3.after hb
      have Y4 := Y3.after hb
      have hw4 := hw3.trans (hb.mono hw3.size)
      have ho4 := ho.more (show w.heap.size + 2 ≤ w3.heap.size from by omega)
      refine hK.out _ _ ⟨X4.cell 1, X4.cell 2⟩ (fun hS2 => ?_)
      clear hK K hS1
      refine wpAnyH_take (i := 5) (v := ?_) rfl (by kernel_rfl) (by kernel_rfl) (by kernel_rfl) (fun _ _ _ h => h) (Or.inl ⟨by rfl, ?_⟩) (by assumption) ?_
      rotate_left
      · (intro w hSw; (try dsimp only at hSw); go_simp; (try with_reducible rfl))
      simp only [Act.put, List.setIfInBounds_toArray, List.set_cons_zero, List.set_cons_succ]
      refine wpAnyH_done (by kernel_rfl) ?_ _
      dsimp only [atEnd]
      clear hS2
      obtain ⟨y0, y1, y2⟩ := Y4.cells3
      have f0 := Y4.frozen 0
      have f1 := (Y4.set_ 0 (.int .i64 s)).frozen 1
      have f2 := ((Y4.set_ 0 (.int .i64 s)).set_ 1 (.int .i64 0)).frozen 2
      have v1 := (Y4.set_ 0 (.int .i64 s)).cell 1
      have v2 := ((Y4.set_ 0 (.int .i64 s)).set_ 1 (.int .i64 0)).cell 2
      go_wp2
      go_meet
      exact cutA_done X4 R4 Y4 ho4 hw4 hgl
  case rest =>
    obtain ⟨g, A2, n2, c2, rfl, hgl, X, R, Y, ho, hw⟩ := hcut
    obtain ⟨x0, x1, x2⟩ := X.cells3
    obtain ⟨y0, y1, y2⟩ := Y.cells3
    obtain ⟨r0, r1, r2⟩ := R.cells3
    have f1 := Y.frozen 1
    by_cases h0 : 0 < n
    · obtain ⟨ad, Z, m, cz, rfl, hc0, hz1, hz2, hrz⟩ := ha.get (k := 0) h0
      have hc0 : w.cell? ad = some (.slice Z m cz) := hc0
      have hcw := below_cell hw hc0
      have hml : (row zss 0).length = m := hrz.len
      have HM := Lib.hid hml
      have hn0 : (0 : Int) < n := by omega
      clear hml
      have Y1 : Blk (wc.setCell ⟨g, 1, none⟩ (.int .i64 m)) g 60 #[.int .i64 s, .int .i64 m, .slice A2 n2 c2] := by
        have := Y.set_ 1 (.int .i64 m)
        simpa using this
      have R1 := R.far (p := ⟨g, 1, none⟩) (show w.heap.size + 1 ≠ g by omega) (.int .i64 m)
      have ho1 : OR (wc.setCell ⟨g, 1, none⟩ (.int .i64 m)) (w.heap.size + 2) 22 2 A2 n2 c2 zss := ho.blkFar Y (by decide) (by decide) _ _
      have hw1 := hw.grown (grown_set (w := wc) (g := g) (p := 1) (u := .int .i64 m)) hw.size (fun b hb => by injection hb with hb; omega)
      obtain ⟨s0, s1, s2⟩ := Y1.cells3
      have g0 := R1.frozen 0
      have g1 := (R1.set_ 0 (.int .i64 s)).frozen 1
      have g2 := ((R1.set_ 0 (.int .i64 s)).set_ 1 (.int .i64 m)).frozen 2
      obtain ⟨t0, t1, t2⟩ := R1.cells3
      have t3 := (R1.set_ 0 (.int .i64 s)).cell 1
      have t4 := ((R1.set_ 0 (.int .i64 s)).set_ 1 (.int .i64 m)).cell 2
      have R2 : Blk ((((wc.setCell ⟨g, 1, none⟩ (.int .i64 m)).setCell ⟨w.heap.size + 1, 0, none⟩ (.int .i64 s)).setCell ⟨w.heap.size + 1, 1, none⟩ (.int .i64 m)).setCell ⟨w.heap.size + 1, 2, none⟩ (.slice A2 n2 c2)) (w.heap.size + 1) 60 #[.int .i64 s, .int .i64 m, .slice A2 n2 c2] := by
        have := ((R1.set_ 0 (.int .i64 s)).set_ 1 (.int .i64 m)).set_ 2 (.slice A2 n2 c2)
        simpa using this
      have HO := Lib.hid ho1
      have HW := Lib.hid hw1
      have hgr := Lib.hid (((grown_set (w := wc.setCell ⟨g, 1, none⟩ (.int .i64 m)) (g := w.heap.size + 1) (p := 0) (u := .int .i64 s)).trans (grown_set (p := 1) (u := .int .i64 m))).trans (grown_set (p := 2) (u := .slice A2 n2 c2)))
      have HR := Lib.hid R1
      clear ho1 hw1 R1 ho hw
      go_wp2_with (go_at_call 121; (with_reducible refine (sizeI_any _ _ _ _ (by omega)).mono ?_); rintro e w' ⟨rfl, rfl⟩)
      refine bodyPost_ret (results_cell_row (P := Tryz.prog) rfl _ _ (w.heap.size + 1) 60 _ (0, 0) _ rfl R2 Tryz.underlying60 rfl (by kernel_rfl)) rfl ?_
      refine ⟨A2, n2, c2, by rw [HM.out], ?_, HW.out.grown hgr.out HW.out.size (fun b hb => by injection hb with hb; omega)⟩
      obtain ⟨vs, h⟩ := HO.out.more (show w.heap.size ≤ w.heap.size + 2 by omega)
      exact ⟨vs, h.off HR.out (by decide) (by decide) hgr.out⟩
    · obtain rfl : n = 0 := by omega
      have h0l : (row zss 0).length = 0 := by
        have : zss = [] := List.length_eq_zero_iff.1 hl.out
        rw [this]; rfl
      have HM := Lib.hid h0l
      clear h0l
      have g0 := R.frozen 0
      have g1 := (R.set_ 0 (.int .i64 s)).frozen 1
      have g2 := ((R.set_ 0 (.int .i64 s)).set_ 1 (.int .i64 0)).frozen 2
      have t3 := (R.set_ 0 (.int .i64 s)).cell 1
      have t4 := ((R.set_ 0 (.int .i64 s)).set_ 1 (.int .i64 0)).cell 2
      have R2 : Blk (((wc.setCell ⟨w.heap.size + 1, 0, none⟩ (.int .i64 s)).setCell ⟨w.heap.size + 1, 1, none⟩ (.int .i64 0)).setCell ⟨w.heap.size + 1, 2, none⟩ (.slice A2 n2 c2)) (w.heap.size + 1) 60 #[.int .i64 s, .int .i64 0, .slice A2 n2 c2] := by
        have := ((R.set_ 0 (.int .i64 s)).set_ 1 (.int .i64 0)).set_ 2 (.slice A2 n2 c2)
        simpa using this
      have HO := Lib.hid ho
      have HW := Lib.hid hw
      have hgr := Lib.hid (((grown_set (w := wc) (g := w.heap.size + 1) (p := 0) (u := .int .i64 s)).trans (grown_set (p := 1) (u := .int .i64 0))).trans (grown_set (p := 2) (u := .slice A2 n2 c2)))
      have HR := Lib.hid R
      clear ho hw R
      go_wp2
      refine bodyPost_ret (results_cell_row (P := Tryz.prog) rfl _ _ (w.heap.size + 1) 60 _ (0, 0) _ rfl R2 Tryz.underlying60 rfl (by kernel_rfl)) rfl ?_
      refine ⟨A2, n2, c2, by rw [HM.out]; rfl, ?_, HW.out.grown hgr.out HW.out.size (fun b hb => by injection hb with hb; omega)⟩
      obtain ⟨vs, h⟩ := HO.out.more (show w.heap.size ≤ w.heap.size + 2 by omega)
      exact ⟨vs, h.off HR.out (by decide) (by decide) hgr.out⟩
end Go.Proofs.YtemdjochphehjaaGreat
