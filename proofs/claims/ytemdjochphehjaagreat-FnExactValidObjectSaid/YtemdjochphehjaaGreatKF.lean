/- Which objects are valid: the program's function. No condition beyond those stated. -/
import Derived.Test.YtemdjochphehjaaGreatKD
import Derived.Test.YtemdjochphehjaaGreatKE
import Derived.Test.YtemdjochphehjaaGreatKA
import Derived.Test.YtemdjochphehjaaGreatIF
import Derived.Test.YtemdjochphehjaaGreatJK
import Derived.Test.YtemdjochphehjaaGreatKB
import Derived.Test.YtemdjochphehjaaGreatGC
import Derived.Deep.RegionHeld3
set_option linter.unusedVariables false
set_option linter.unusedSimpArgs false
namespace Go.Proofs.YtemdjochphehjaaGreat
open Go.RowKit

theorem ppF_no {s : Int} (h : ¬ ∃ (p : Int) (k : Nat), (p, k) ∈ PKL ∧ p ^ k = s) : (ppF s).1 = 0 ∨ 64 < s := by
  by_cases h1 : s < 2
  · exact .inl (ppF_low h1)
  · by_cases h2 : s ≤ 64
    · rw [ppF_in (by omega) h2, splF_none fun p k hm e => h ⟨p, k, hm, e⟩]; exact .inl rfl
    · exact .inr (by omega)
set_option maxHeartbeats 2000000 in
theorem validObject_1 (s : Int) (A : Option Addr) (n c : Nat) (zss : List (List Int)) (w : World) (ha : RR w A n zss) (hn : n ≤ 1099511627776) (hr : cells zss ≤ 1099511627776) (h1 : n ≤ c) (h2 : c ≤ 9223372036854775807) :
    Calls Tryz.prog 22 #[.agg #[.int .i64 1, .int .i64 s, .slice A n c]] w (RetB w (tB ((zss.length : Int) = s ∧ Square zss))) := by
  have hl : (zss.length : Int) = n := by rw [ha.len]
  have hb1 := below_alloc w (.cells #[.int .i64 1, .int .i64 s, .slice A n c] 30)
  have X := Blk.new w 30 #[.int .i64 1, .int .i64 s, .slice A n c]
  obtain ⟨W, hW⟩ : ∃ W, W = w.alloc (.cells #[.int .i64 1, .int .i64 s, .slice A n c] 30) := ⟨_, rfl⟩
  rw [← hW] at hb1 X
  have ha1 := ha.keep hb1
  have x0 : W.cell? ⟨w.heap.size, 0, none⟩ = some (.int .i64 1) := X.cell 0
  have x1 : W.cell? ⟨w.heap.size, 1, none⟩ = some (.int .i64 s) := X.cell 1
  have x2 : W.cell? ⟨w.heap.size, 2, none⟩ = some (.slice A n c) := X.cell 2
  have q1 := cell_bel x1
  have q2 := cell_bel x2
  have hsz : ∀ p : Bel W, Calls Tryz.prog 63 #[.slice A n c] p.w (fun e w' => e = .returned (.int .i64 n) ∧ Below p.w.heap.size p.w w') := fun p => (sizeR_any A n c p.w (by omega)).mono (by rintro e w' ⟨rfl, rfl⟩; exact ⟨rfl, Below.refl _ _⟩)
  have hok : ∀ p : Bel W, Calls Tryz.prog 64 #[.slice A n c] p.w (RetB p.w (tB (Square zss))) := fun p => validSquare_any A n c zss p.w (ha1.keep p.h) (by omega) (by omega)
  have e : tB ((zss.length : Int) = s ∧ Square zss) = (decide ((n : Int) = s) && tB (Square zss)) := by
    rw [hl]
    by_cases h1 : Square zss <;> by_cases h2 : (n : Int) = s
    · rw [tB_yes ⟨h2, h1⟩, tB_yes h1, decide_eq_true h2]; rfl
    · rw [tB_no fun h => h2 h.1, decide_eq_false h2, Bool.false_and]
    · rw [tB_no fun h => h1 h.2, tB_no h1, Bool.and_false]
    · rw [tB_no fun h => h1 h.2, tB_no h1, Bool.and_false]
  rw [e]
  clear e hl ha ha1 hr X
  generalize tB (Square zss) = b at *
  by_cases hs : (n : Int) = s
  · have hq : ((n : Int) == s) = true := by simp [hs]
    rw [show decide ((n : Int) = s) = true from by simp [hs], Bool.true_and]
    clear hs
    go_enter Tryz.func22, Tryz.ntmps22
    go_wp2
    rw [← hW]
    clear hW
    refine wp_region_bel (by kernel_rfl) (by kernel_rfl) ?_
    repeat (first | go_big_quiet_step ((first | (go_at_call 63; exact Calls.bel (hsz _)) | (go_at_call 64; exact Calls.bel (hok _)))) | quiet_step ((first | (go_at_call 63; exact Calls.bel (hsz _)) | (go_at_call 64; exact Calls.bel (hok _)))))
    refine wpQuiet_nil ?_
    rintro _ ⟨⟨w2, hb2⟩, rfl⟩
    clear q1 q2 x0 x1 x2 hsz hok
    go_wp2
    go_ret
    exact ⟨rfl, hb1.trans (hb2.mono hb1.size)⟩
  · have hq : ((n : Int) == s) = false := by simp [hs]
    rw [show decide ((n : Int) = s) = false from by simp [hs], Bool.false_and]
    clear hs
    go_enter Tryz.func22, Tryz.ntmps22
    go_wp2
    rw [← hW]
    clear hW
    refine wp_region_bel (by kernel_rfl) (by kernel_rfl) ?_
    repeat (first | go_big_quiet_step ((first | (go_at_call 63; exact Calls.bel (hsz _)) | (go_at_call 64; exact Calls.bel (hok _)))) | quiet_step ((first | (go_at_call 63; exact Calls.bel (hsz _)) | (go_at_call 64; exact Calls.bel (hok _)))))
    refine wpQuiet_nil ?_
    rintro _ ⟨⟨w2, hb2⟩, rfl⟩
    clear q1 q2 x0 x1 x2 hsz hok
    go_wp2
    go_ret
    exact ⟨rfl, hb1.trans (hb2.mono hb1.size)⟩
set_option maxHeartbeats 2000000 in
theorem validObject_3 (s : Int) (A : Option Addr) (n c : Nat) (zss : List (List Int)) (w : World) (ha : RR w A n zss) (hn : n ≤ 1099511627776) (hr : cells zss ≤ 1099511627776) (h1 : n ≤ c) (h2 : c ≤ 9223372036854775807) :
    Calls Tryz.prog 22 #[.agg #[.int .i64 3, .int .i64 s, .slice A n c]] w (RetB w (tB ((zss.length : Int) = s ∧ Had zss))) := by
  have hl : (zss.length : Int) = n := by rw [ha.len]
  have hb1 := below_alloc w (.cells #[.int .i64 3, .int .i64 s, .slice A n c] 30)
  have X := Blk.new w 30 #[.int .i64 3, .int .i64 s, .slice A n c]
  obtain ⟨W, hW⟩ : ∃ W, W = w.alloc (.cells #[.int .i64 3, .int .i64 s, .slice A n c] 30) := ⟨_, rfl⟩
  rw [← hW] at hb1 X
  have ha1 := ha.keep hb1
  have x0 : W.cell? ⟨w.heap.size, 0, none⟩ = some (.int .i64 3) := X.cell 0
  have x1 : W.cell? ⟨w.heap.size, 1, none⟩ = some (.int .i64 s) := X.cell 1
  have x2 : W.cell? ⟨w.heap.size, 2, none⟩ = some (.slice A n c) := X.cell 2
  have q1 := cell_bel x1
  have q2 := cell_bel x2
  have hsz : ∀ p : Bel W, Calls Tryz.prog 63 #[.slice A n c] p.w (fun e w' => e = .returned (.int .i64 n) ∧ Below p.w.heap.size p.w w') := fun p => (sizeR_any A n c p.w (by omega)).mono (by rintro e w' ⟨rfl, rfl⟩; exact ⟨rfl, Below.refl _ _⟩)
  have hok : ∀ p : Bel W, Calls Tryz.prog 67 #[.slice A n c] p.w (RetB p.w (tB (Had zss))) := fun p => validHadamard_any A n c zss p.w (ha1.keep p.h) h1 h2
  have e : tB ((zss.length : Int) = s ∧ Had zss) = (decide ((n : Int) = s) && tB (Had zss)) := by
    rw [hl]
    by_cases h1 : Had zss <;> by_cases h2 : (n : Int) = s
    · rw [tB_yes ⟨h2, h1⟩, tB_yes h1, decide_eq_true h2]; rfl
    · rw [tB_no fun h => h2 h.1, decide_eq_false h2, Bool.false_and]
    · rw [tB_no fun h => h1 h.2, tB_no h1, Bool.and_false]
    · rw [tB_no fun h => h1 h.2, tB_no h1, Bool.and_false]
  rw [e]
  clear e hl ha ha1 hr X
  generalize tB (Had zss) = b at *
  by_cases hs : (n : Int) = s
  · have hq : ((n : Int) == s) = true := by simp [hs]
    rw [show decide ((n : Int) = s) = true from by simp [hs], Bool.true_and]
    clear hs
    go_enter Tryz.func22, Tryz.ntmps22
    go_wp2
    rw [← hW]
    clear hW
    refine wp_region_bel (by kernel_rfl) (by kernel_rfl) ?_
    repeat (first | go_big_quiet_step ((first | (go_at_call 63; exact Calls.bel (hsz _)) | (go_at_call 67; exact Calls.bel (hok _)))) | quiet_step ((first | (go_at_call 63; exact Calls.bel (hsz _)) | (go_at_call 67; exact Calls.bel (hok _)))))
    refine wpQuiet_nil ?_
    rintro _ ⟨⟨w2, hb2⟩, rfl⟩
    clear q1 q2 x0 x1 x2 hsz hok
    go_wp2
    go_ret
    exact ⟨rfl, hb1.trans (hb2.mono hb1.size)⟩
  · have hq : ((n : Int) == s) = false := by simp [hs]
    rw [show decide ((n : Int) = s) = false from by simp [hs], Bool.false_and]
    clear hs
    go_enter Tryz.func22, Tryz.ntmps22
    go_wp2
    rw [← hW]
    clear hW
    refine wp_region_bel (by kernel_rfl) (by kernel_rfl) ?_
    repeat (first | go_big_quiet_step ((first | (go_at_call 63; exact Calls.bel (hsz _)) | (go_at_call 67; exact Calls.bel (hok _)))) | quiet_step ((first | (go_at_call 63; exact Calls.bel (hsz _)) | (go_at_call 67; exact Calls.bel (hok _)))))
    refine wpQuiet_nil ?_
    rintro _ ⟨⟨w2, hb2⟩, rfl⟩
    clear q1 q2 x0 x1 x2 hsz hok
    go_wp2
    go_ret
    exact ⟨rfl, hb1.trans (hb2.mono hb1.size)⟩
set_option maxHeartbeats 1000000 in
theorem validObject_2 (s : Int) (A : Option Addr) (n c : Nat) (zss : List (List Int)) (w : World) (ha : RR w A n zss) (hn : n ≤ 1099511627776) (hr : cells zss ≤ 1099511627776) :
    Calls Tryz.prog 22 #[.agg #[.int .i64 2, .int .i64 s, .slice A n c]] w (RetB w (tB (Design s zss))) := by
  have hb1 := below_alloc w (.cells #[.int .i64 2, .int .i64 s, .slice A n c] 30)
  have hl := ha.len
  have hof := designOf_any 2 s A n c zss _ (ha.keep hb1) hn hr
  go_enter Tryz.func22, Tryz.ntmps22
  go_wp2_with (go_at_call 66; refine hof.mono ?_; rintro e w2 ⟨A2, n2, c2, rfl, ho, hb2⟩)
  have hl2 := ho.len
  refine (validDesign_any s A2 n2 c2 zss w2 ho.reads (by omega)).mono ?_
  rintro e w3 ⟨rfl, hb3⟩
  dsimp only
  go_wp2
  go_ret
  exact ⟨rfl, hb1.trans ((hb2.trans (hb3.mono hb2.size)).mono hb1.size)⟩
set_option maxHeartbeats 1000000 in
theorem validObject_7 (s : Int) (A : Option Addr) (n c : Nat) (zss : List (List Int)) (w : World) (ha : RR w A n zss) (hn : n ≤ 1099511627776) (hr : cells zss ≤ 1099511627776) :
    Calls Tryz.prog 22 #[.agg #[.int .i64 7, .int .i64 s, .slice A n c]] w (RetB w (tB (GroupOk s zss))) := by
  have hb1 := below_alloc w (.cells #[.int .i64 7, .int .i64 s, .slice A n c] 30)
  have hl := ha.len
  have hof := groupOf_any 7 s A n c zss _ (ha.keep hb1) hn hr
  go_enter Tryz.func22, Tryz.ntmps22
  go_wp2_with (go_at_call 73; refine hof.mono ?_; rintro e w2 ⟨A2, n2, c2, rfl, ho, hb2⟩)
  have hl2 := ho.len
  refine (validGroup_any s A2 n2 c2 zss w2 ho.reads (by omega) hr).mono ?_
  rintro e w3 ⟨rfl, hb3⟩
  dsimp only
  go_wp2
  go_ret
  exact ⟨rfl, hb1.trans ((hb2.trans (hb3.mono hb2.size)).mono hb1.size)⟩
set_option maxHeartbeats 1000000 in
theorem validObject_4 (s : Int) (A : Option Addr) (n c : Nat) (zss : List (List Int)) (w : World) (ha : RR w A n zss) (hn : n ≤ 1099511627776) (hr : cells zss ≤ 1099511627776) :
    Calls Tryz.prog 22 #[.agg #[.int .i64 4, .int .i64 s, .slice A n c]] w (RetB w (tB (0 < zss.length ∧ Array' s (row zss 0).length zss))) := by
  have hb1 := below_alloc w (.cells #[.int .i64 4, .int .i64 s, .slice A n c] 30)
  have hl := ha.len
  have hof := arrayOf_any 4 s A n c zss _ (ha.keep hb1) hn hr
  by_cases h0 : 0 < n
  · have H := Lib.hid (show tB (0 < zss.length ∧ Array' s (row zss 0).length zss) = tB (Array' s (row zss 0).length zss) by
      by_cases hA : Array' s (row zss 0).length zss
      · rw [tB_yes hA, tB_yes ⟨by omega, hA⟩]
      · rw [tB_no hA, tB_no fun h => hA h.2])
    have hn0 : (0 : Int) < n := by omega
    rw [H.out]
    go_enter Tryz.func22, Tryz.ntmps22
    go_wp2_with (go_at_call 69; refine hof.mono ?_; rintro e w2 ⟨A2, n2, c2, rfl, ho, hb2⟩)
    have hl2 := ho.len
    refine (validArray_any s (row zss 0).length A2 n2 c2 zss w2 ho.reads (by omega)).mono ?_
    rintro e w3 ⟨rfl, hb3⟩
    dsimp only
    go_wp2
    go_ret
    exact ⟨rfl, hb1.trans ((hb2.trans (hb3.mono hb2.size)).mono hb1.size)⟩
  · obtain rfl : n = 0 := by omega
    have H := Lib.hid (show tB (0 < zss.length ∧ Array' s (row zss 0).length zss) = false from tB_no fun h => by have := h.1; omega)
    rw [H.out]
    go_enter Tryz.func22, Tryz.ntmps22
    go_wp2
    go_ret
    exact ⟨rfl, hb1⟩
set_option maxHeartbeats 1000000 in
theorem validObject_5 (s : Int) (A : Option Addr) (n c : Nat) (zss : List (List Int)) (w : World) (ha : RR w A n zss) (hn : n ≤ 1099511627776) (hr : cells zss ≤ 1099511627776) :
    Calls Tryz.prog 22 #[.agg #[.int .i64 5, .int .i64 s, .slice A n c]] w (RetB w (tB (CObj s zss))) := by
  have hb1 := below_alloc w (.cells #[.int .i64 5, .int .i64 s, .slice A n c] 30)
  have hl := ha.len
  obtain ⟨P, D, f, code, hP, hD, hmk, hto⟩ : ∃ (P D : Int) (f : List Int) (code : Int), I64 P ∧ I64 D ∧ (∀ W : World, Calls Tryz.prog 54 #[.int .i64 s] W (RetFC W P D f code)) ∧ tB (CObj s zss) = tB (CodeOk P D f zss) := by
    by_cases hx : ∃ (p : Int) (k : Nat), (p, k) ∈ PKL ∧ p ^ k = s
    · obtain ⟨p, k, hm, hs⟩ := hx
      obtain ⟨m1, m2, m3, m4, m5⟩ := PKL_ok hm
      obtain ⟨p2, p61⟩ := PR_bd m1
      exact ⟨p, k, mkP p k, 0, ⟨by omega, by omega⟩, ⟨by omega, by omega⟩, fun W => makeField_ok hm s W hs, tB_CObj hm hs zss⟩
    · refine ⟨0, 0, [], 2, ⟨by omega, by omega⟩, ⟨by omega, by omega⟩, fun W => makeField_no s W (ppF_no hx), ?_⟩
      rw [tB_no (p := CObj s zss) fun ⟨p, k, a, b, _⟩ => hx ⟨p, k, a, b⟩, tB_no]
      intro h
      have := h.1.1.1
      omega
  have hof := codeOfRows_any 5 s P D code f A n c zss _ (ha.keep hb1) hn hr hmk
  rw [hto]
  go_enter Tryz.func22, Tryz.ntmps22
  go_wp2_with (go_at_call 70; refine hof.mono ?_; rintro e w2 ⟨A4, n4, c4, A2, n2, c2, m, rfl, hi, hlt, ho, hm1, hm2, hb2⟩)
  have hl2 := ho.len
  have hc4 := hi.os.cap
  refine (validCode_any P D A4 n4 c4 f A2 n2 c2 zss w2 hi.reads hP hD (by omega) ho.reads (by omega)).mono ?_
  rintro e w3 ⟨rfl, hb3⟩
  dsimp only
  go_wp2
  go_ret
  exact ⟨rfl, hb1.trans ((hb2.trans (hb3.mono hb2.size)).mono hb1.size)⟩
set_option maxHeartbeats 1000000 in
theorem validObject_6 (s : Int) (A : Option Addr) (n c : Nat) (zss : List (List Int)) (w : World) (ha : RR w A n zss) (hn : n ≤ 1099511627776) (hr : cells zss ≤ 1099511627776) :
    Calls Tryz.prog 22 #[.agg #[.int .i64 6, .int .i64 s, .slice A n c]] w (RetB w (tB (GObj s zss))) := by
  have hb1 := below_alloc w (.cells #[.int .i64 6, .int .i64 s, .slice A n c] 30)
  have hof := graphOfRows_any 6 s A n c zss _ (ha.keep hb1) hn
  generalize tB (GObj s zss) = b at *
  go_enter Tryz.func22, Tryz.ntmps22
  go_wp2_with (go_at_call 71; refine hof.mono ?_; rintro e w2 ⟨A1, n1, c1, F1, m1, d1, rfl, hb2⟩)
  have hb3 := hb2.trans ((below_alloc w2 (.cells #[.slice A1 n1 c1, .slice F1 m1 d1] 99)).mono hb2.size)
  go_ret
  exact ⟨rfl, hb1.trans (hb3.mono hb1.size)⟩
set_option maxHeartbeats 1000000 in
theorem validObject_else (k s : Int) (A : Option Addr) (n c : Nat) (w : World) (hk : k ≠ 1 ∧ k ≠ 2 ∧ k ≠ 3 ∧ k ≠ 4 ∧ k ≠ 5 ∧ k ≠ 6 ∧ k ≠ 7) :
    Calls Tryz.prog 22 #[.agg #[.int .i64 k, .int .i64 s, .slice A n c]] w (RetB w false) := by
  have hb1 := below_alloc w (.cells #[.int .i64 k, .int .i64 s, .slice A n c] 30)
  obtain ⟨h1, h2, h3, h4, h5, h6, h7⟩ := hk
  have e1 : (k == 1) = false := by simpa using h1
  have e2 : (k == 2) = false := by simpa using h2
  have e3 : (k == 3) = false := by simpa using h3
  have e4 : (k == 4) = false := by simpa using h4
  have e5 : (k == 5) = false := by simpa using h5
  have e6 : (k == 6) = false := by simpa using h6
  have e7 : (k == 7) = false := by simpa using h7
  clear h1 h2 h3 h4 h5 h6 h7
  go_enter Tryz.func22, Tryz.ntmps22
  go_wp2
  go_ret
  exact ⟨rfl, hb1⟩
theorem validObject_any (k s : Int) (A : Option Addr) (n c : Nat) (zss : List (List Int)) (w : World) (ha : RR w A n zss) (hn : n ≤ 1099511627776) (hr : cells zss ≤ 1099511627776) (hc1 : n ≤ c) (hc2 : c ≤ 9223372036854775807) :
    Calls Tryz.prog 22 #[.agg #[.int .i64 k, .int .i64 s, .slice A n c]] w (RetB w (tB (VObj k s zss))) := by
  by_cases h1 : k = 1
  · subst h1; rw [tB_congr (vobj1 s zss)]; exact validObject_1 s A n c zss w ha hn hr hc1 hc2
  by_cases h2 : k = 2
  · subst h2; rw [tB_congr (vobj2 s zss)]; exact validObject_2 s A n c zss w ha hn hr
  by_cases h3 : k = 3
  · subst h3; rw [tB_congr (vobj3 s zss)]; exact validObject_3 s A n c zss w ha hn hr hc1 hc2
  by_cases h4 : k = 4
  · subst h4; rw [tB_congr (vobj4 s zss)]; exact validObject_4 s A n c zss w ha hn hr
  by_cases h5 : k = 5
  · subst h5; rw [tB_congr (vobj5 s zss)]; exact validObject_5 s A n c zss w ha hn hr
  by_cases h6 : k = 6
  · subst h6; rw [tB_congr (vobj6 s zss)]; exact validObject_6 s A n c zss w ha hn hr
  by_cases h7 : k = 7
  · subst h7; rw [tB_congr (vobj7 s zss)]; exact validObject_7 s A n c zss w ha hn hr
  rw [tB_no (vobj_no ⟨h1, h2, h3, h4, h5, h6, h7⟩)]
  exact validObject_else k s A n c w ⟨h1, h2, h3, h4, h5, h6, h7⟩
end Go.Proofs.YtemdjochphehjaaGreat
/- The law on ValidObject. No condition. -/
namespace Go.Proofs.YtemdjochphehjaaGreat
open Go.RowKit

set_option maxHeartbeats 400000 in
theorem spec_ValidObject (k s : Int) (A : Option Addr) (n c : Nat) (zss : List (List Int)) (w : World) (ha : RR w A n zss) (hn : n ≤ 1099511627776) (hc1 : n ≤ c) (hc2 : c ≤ 9223372036854775807) :
    Calls Tryz.prog 20 #[.agg #[.int .i64 k, .int .i64 s, .slice A n c]] w (RetB w (tB (VObj k s zss))) := by
  have hb1 := below_alloc w (.cells #[.int .i64 k, .int .i64 s, .slice A n c] 30)
  have hj := judgeAny k s zss w (by rw [ha.len]; exact hn) w.heap.size A n c _ hb1 (Blk.new w 30 #[.int .i64 k, .int .i64 s, .slice A n c]) (ha.keep hb1) hc1 hc2
  go_enter Tryz.func20, Tryz.ntmps20
  go_wp2_with (go_at_call 62; refine hj.mono ?_; rintro e w2 ⟨rfl, hb⟩)
  go_ret
  exact ⟨rfl, hb1.trans (hb.mono hb1.size)⟩
/-- the argument's variable and the copy's -/
structure AStV (w : World) (g1 g6 : Nat) (kk s : Int) (A A3 : Option Addr) (n c n3 c3 : Nat) (zss : List (List Int)) (w' : World) : Prop where
  p1 : Blk w' g1 42 #[.int .i64 kk, .int .i64 s, .slice A n c]
  p6 : Blk w' g6 30 #[.int .i64 kk, .int .i64 s, .slice A3 n3 c3]
  r3 : RR w' A3 n3 zss
theorem AStV.step {w w' w'' : World} {g1 g6 : Nat} {kk s : Int} {A A3 : Option Addr} {n c n3 c3 : Nat} {zss : List (List Int)} (h : AStV w g1 g6 kk s A A3 n c n3 c3 zss w') (hb : Below w'.heap.size w' w'') : AStV w g1 g6 kk s A A3 n c n3 c3 zss w'' :=
  ⟨h.p1.after hb, h.p6.after hb, h.r3.keep hb⟩
theorem AStV.full {w w' : World} {g1 g6 : Nat} {kk s : Int} {A A3 : Option Addr} {n c n3 c3 : Nat} {zss : List (List Int)} (h : AStV w g1 g6 kk s A A3 n c n3 c3 zss w') (hb : Below w.heap.size w w') :
    (AStV w g1 g6 kk s A A3 n c n3 c3 zss w' ∧ Below w.heap.size w w') ∧ w'.cell? ⟨g1, 0, none⟩ = some (.int .i64 kk) ∧ w'.cell? ⟨g1, 1, none⟩ = some (.int .i64 s) ∧ w'.cell? ⟨g1, 2, none⟩ = some (.slice A n c) ∧ w'.cell? ⟨g6, 0, none⟩ = some (.int .i64 kk) ∧ w'.cell? ⟨g6, 1, none⟩ = some (.int .i64 s) ∧ w'.cell? ⟨g6, 2, none⟩ = some (.slice A3 n3 c3) :=
  ⟨⟨h, hb⟩, h.p1.cells3.1, h.p1.cells3.2.1, h.p1.cells3.2.2, h.p6.cells3.1, h.p6.cells3.2.1, h.p6.cells3.2.2⟩
set_option maxRecDepth 100000 in
set_option maxHeartbeats 4000000 in
theorem law_ValidObject (kk s : Int) (A : Option Addr) (n c : Nat) (zss : List (List Int)) (w : World) (ha : RR w A n zss) (hn : n ≤ c) (hc : c ≤ 9223372036854775807) :
    Calls Tryz.prog 4 #[.agg #[.int .i64 kk, .int .i64 s, .slice A n c]] w fun e w' => e = .returned (.bool true) ∧ Below w.heap.size w w' := by
  have p1 := Blk.new w 42 #[.int .i64 kk, .int .i64 s, .slice A n c]
  have b1 := below_alloc w (.cells #[.int .i64 kk, .int .i64 s, .slice A n c] 42)
  by_cases hs : (bulk zss : Int) ≤ 1048576
  · have hla := Lib.hid ha.len
    have hbc := bulk_cells zss
    obtain ⟨bz1, bz2⟩ : n ≤ 1048576 ∧ cells zss ≤ 1048576 := by have := hla.out; omega
    have hlens : lens zss n ≤ 1099511627776 := by have := bulk_eq ha; omega
    have E1 := Lib.hid (show szF 1048576 (bulk zss) = 1048576 - bulk zss by simp [szF, hs])
    have hbp : (0 : Int) ≤ 1048576 - bulk zss := by omega
    clear hbc
    generalize hbk : (1048576 - (bulk zss : Int)) = bk at *
    clear hbk hs
    go_enter Tryz.func4, Tryz.ntmps4
    go_wp2_with fail
    refine (szObject_any kk s 1048576 A n c zss _ (ha.keep b1) (by omega) (by omega) (by omega)).mono ?_
    rintro e w0 ⟨rfl, hb0⟩
    rw [E1.out]
    have q1 := p1.after hb0
    have b0 := below_then b1 hb0
    clear p1 b1 hb0
    obtain ⟨u0, u1, u2⟩ := q1.cells3
    go_wp2_with fail
    refine (toObject_any kk s A n c zss _ (ha.keep b0) (by omega) hlens).mono ?_
    rintro e w1 ⟨A1, n1, c1, rfl, ho1, hb1⟩
    have k1 : n1 ≤ 1048576 := by have := ho1.len; have := hla.out; omega
    have hsp := spec_ValidObject kk s A1 n1 c1 zss w1 ho1.reads (by omega) ho1.os_cap.1 ho1.os_cap.2
    have q2 := q1.after hb1
    have b2 := below_then b0 hb1
    clear q1 b0 hb1 u0 u1 u2
    generalize hgv : tB (VObj kk s zss) = vb at *
    have HV := Lib.hid hgv
    clear hgv
    go_wp2_with fail
    refine hsp.mono ?_
    rintro e w2 ⟨rfl, hb2⟩
    have q3 := q2.after hb2
    have b3 := below_then b2 hb2
    obtain ⟨u0, u1, u2⟩ := q3.cells3
    clear q2 b2 hb2 hsp ho1
    go_wp2_with fail
    refine (toObject_any kk s A n c zss _ (ha.keep b3) (by omega) hlens).mono ?_
    rintro e w3 ⟨A3, n3, c3, rfl, ho3, hb3⟩
    have k3 : n3 ≤ 1048576 := by have := ho3.len; have := hla.out; omega
    have k3' := ho3.os_cap
    have b4 := below_then b3 hb3
    have b6 := below_alloc w3 (.cells #[.int .i64 kk, .int .i64 s, .slice A3 n3 c3] 30)
    have p6 := Blk.new w3 30 #[.int .i64 kk, .int .i64 s, .slice A3 n3 c3]
    have q4 := (q3.after hb3).after b6
    have r6 := ho3.reads.keep b6
    have b7 := below_then b4 b6
    have hcz : cells zss ≤ 1099511627776 := by omega
    clear q3 b3 hb3 b4 ho3 u0 u1 u2
    have hvo := validObject_any kk s A3 n3 c3 zss _ r6 (by omega) hcz k3'.1 k3'.2
    rw [HV.out] at hvo
    go_wp2_with fail
    refine hvo.mono ?_
    rintro e w4 ⟨rfl, hb4⟩
    have M0 : AStV w w.heap.size w3.heap.size kk s A A3 n c n3 c3 zss w4 := ⟨q4.after hb4, p6.after hb4, r6.keep hb4⟩
    have bb5 := below_then b7 hb4
    have hvv : (vb != vb) = false := by simp
    clear q4 p6 r6 b7 hb4 b6 hvo
    generalize w3.heap.size = s3 at *
    go_wp2_with fail
    go_region_held3 (fun w' => (AStV w w.heap.size s3 kk s A A3 n c n3 c3 zss w' ∧ Below w.heap.size w w') ∧ w'.cell? ⟨w.heap.size, 0, none⟩ = some (.int .i64 kk) ∧ w'.cell? ⟨w.heap.size, 1, none⟩ = some (.int .i64 s) ∧ w'.cell? ⟨w.heap.size, 2, none⟩ = some (.slice A n c) ∧ w'.cell? ⟨s3, 0, none⟩ = some (.int .i64 kk) ∧ w'.cell? ⟨s3, 1, none⟩ = some (.int .i64 s) ∧ w'.cell? ⟨s3, 2, none⟩ = some (.slice A3 n3 c3))
      (first | exact (M0.step (below_drewn _ 1)).full (bb5.trans ((below_drewn _ 1).mono bb5.size)) | exact (AStV.step (And.left (And.left (by assumption))) (by assumption)).full (below_then (And.right (And.left (by assumption))) (by assumption)))
      (first
        | (go_at_call 21; (with_reducible refine (toObject_any kk s A n c zss _ ?_ (by omega) hlens).mono ?_); (exact ha.keep (And.right (And.left (by assumption)))); rintro e w6 ⟨A6, n6, c6, rfl, ho6, hb6⟩)
        | (go_at_call 14; (with_reducible refine (eqObject_same kk s A3 A6 n3 n6 c3 c6 zss _ ?_ ?_ ?_ ?_).mono ?_); (exact AStV.r3 (And.left (And.left (by assumption)))); (exact ho6.reads); (omega); (have := ho6.len; have := hla.out; omega); rintro e w7 ⟨rfl, hb7⟩))
    have hh7 : (AStV w w.heap.size s3 kk s A A3 n c n3 c3 zss w7 ∧ Below w.heap.size w w7) := And.left (by assumption)
    go_wp2_with fail
    go_ret
    exact ⟨rfl, hh7.2⟩
  · have E1 := Lib.hid (show szF 1048576 (bulk zss) = -1 by simp [szF, hs])
    clear hs
    go_enter Tryz.func4, Tryz.ntmps4
    go_wp2_with fail
    refine (szObject_any kk s 1048576 A n c zss _ (ha.keep b1) (by omega) (by omega) (by omega)).mono ?_
    rintro e w0 ⟨rfl, hb0⟩
    rw [E1.out]
    go_wp2
    go_ret
    exact ⟨rfl, below_then b1 hb0⟩
end Go.Proofs.YtemdjochphehjaaGreat
