/- Which objects are valid: the program's function. No condition beyond those stated. -/
import Derived.Test.YtemdjochphehjaaGreatQKD
import Derived.Test.YtemdjochphehjaaGreatQKE
import Derived.Test.YtemdjochphehjaaGreatQKA
import Derived.Test.YtemdjochphehjaaGreatQIF
import Derived.Test.YtemdjochphehjaaGreatQJK
set_option linter.unusedVariables false
set_option linter.unusedSimpArgs false
namespace Go.Proofs.YtemdjochphehjaaGreat
open Go.RowKit

theorem ppF_no {s : Int} (h : ¬ ∃ (p : Int) (k : Nat), (p, k) ∈ PKL ∧ p ^ k = s) : (ppF s).1 = 0 ∨ 64 < s := by
  by_cases h1 : s < 2
  · exact .inl (ppF_low h1)
  · by_cases h2 : s ≤ 64
    · rw [ppF_in (by omega) h2, splF_none fun p k hm e => h ⟨p, k, hm, e⟩]; exact .inl rfl
    · exact .inr (by omega)
set_option maxHeartbeats 2000000 in
theorem validObject_1 (s : Int) (A : Option Addr) (n c : Nat) (zss : List (List Int)) (w : World) (ha : RR w A n zss) (hn : n ≤ 1099511627776) (hr : cells zss ≤ 1099511627776) (h1 : n ≤ c) (h2 : c ≤ 9223372036854775807) :
    Calls Tryz.prog 22 #[.agg #[.int .i64 1, .int .i64 s, .slice A n c]] w (RetB w (tB ((zss.length : Int) = s ∧ Square zss))) := by
  have hl : (zss.length : Int) = n := by rw [ha.len]
  have hb1 := below_alloc w (.cells #[.int .i64 1, .int .i64 s, .slice A n c] 30)
  have X := Blk.new w 30 #[.int .i64 1, .int .i64 s, .slice A n c]
  obtain ⟨W, hW⟩ : ∃ W, W = w.alloc (.cells #[.int .i64 1, .int .i64 s, .slice A n c] 30) := ⟨_, rfl⟩
  rw [← hW] at hb1 X
  have ha1 := ha.keep hb1
  have x0 : W.cell? ⟨w.heap.size, 0, none⟩ = some (.int .i64 1) := X.cell 0
  have x1 : W.cell? ⟨w.heap.size, 1, none⟩ = some (.int .i64 s) := X.cell 1
  have x2 : W.cell? ⟨w.heap.size, 2, none⟩ = some (.slice A n c) := X.cell 2
  have q1 := cell_bel x1
  have q2 := cell_bel x2
  have hsz : ∀ p : Bel W, Calls Tryz.prog 63 #[.slice A n c] p.w (fun e w' => e = .returned (.int .i64 n) ∧ Below p.w.heap.size p.w w') := fun p => (sizeR_any A n c p.w (by omega)).mono (by rintro e w' ⟨rfl, rfl⟩; exact ⟨rfl, Below.refl _ _⟩)
  have hok : ∀ p : Bel W, Calls Tryz.prog 64 #[.slice A n c] p.w (RetB p.w (tB (Square zss))) := fun p => validSquare_any A n c zss p.w (ha1.keep p.h) (by omega) (by omega)
  have e : tB ((zss.length : Int) = s ∧ Square zss) = (decide ((n : Int) = s) && tB (Square zss)) := by
    rw [hl]
    by_cases h1 : Square zss <;> by_cases h2 : (n : Int) = s
    · rw [tB_yes ⟨h2, h1⟩, tB_yes h1, decide_eq_true h2]; rfl
    · rw [tB_no fun h => h2 h.1, decide_eq_false h2, Bool.false_and]
    · rw [tB_no fun h => h1 h.2, tB_no h1, Bool.and_false]
    · rw [tB_no fun h => h1 h.2, tB_no h1, Bool.and_false]
  rw [e]
  clear e hl ha ha1 hr X
  generalize tB (Square zss) = b at *
  by_cases hs : (n : Int) = s
  · have hq : ((n : Int) == s) = true := by simp [hs]
    rw [show decide ((n : Int) = s) = true from by simp [hs], Bool.true_and]
    clear hs
    go_enter Tryz.func22, Tryz.ntmps22
    go_wp2
    rw [← hW]
    clear hW
    refine wp_region_bel (by kernel_rfl) (by kernel_rfl) ?_
    repeat (first | go_big_quiet_step ((first | (go_at_call 63; exact Calls.bel (hsz _)) | (go_at_call 64; exact Calls.bel (hok _)))) | quiet_step ((first | (go_at_call 63; exact Calls.bel (hsz _)) | (go_at_call 64; exact Calls.bel (hok _)))))
    refine wpQuiet_nil ?_
    rintro _ ⟨⟨w2, hb2⟩, rfl⟩
    clear q1 q2 x0 x1 x2 hsz hok
    go_wp2
    go_ret
    exact ⟨rfl, hb1.trans (hb2.mono hb1.size)⟩
  · have hq : ((n : Int) == s) = false := by simp [hs]
    rw [show decide ((n : Int) = s) = false from by simp [hs], Bool.false_and]
    clear hs
    go_enter Tryz.func22, Tryz.ntmps22
    go_wp2
    rw [← hW]
    clear hW
    refine wp_region_bel (by kernel_rfl) (by kernel_rfl) ?_
    repeat (first | go_big_quiet_step ((first | (go_at_call 63; exact Calls.bel (hsz _)) | (go_at_call 64; exact Calls.bel (hok _)))) | quiet_step ((first | (go_at_call 63; exact Calls.bel (hsz _)) | (go_at_call 64; exact Calls.bel (hok _)))))
    refine wpQuiet_nil ?_
    rintro _ ⟨⟨w2, hb2⟩, rfl⟩
    clear q1 q2 x0 x1 x2 hsz hok
    go_wp2
    go_ret
    exact ⟨rfl, hb1.trans (hb2.mono hb1.size)⟩
set_option maxHeartbeats 2000000 in
theorem validObject_3 (s : Int) (A : Option Addr) (n c : Nat) (zss : List (List Int)) (w : World) (ha : RR w A n zss) (hn : n ≤ 1099511627776) (hr : cells zss ≤ 1099511627776) (h1 : n ≤ c) (h2 : c ≤ 9223372036854775807) :
    Calls Tryz.prog 22 #[.agg #[.int .i64 3, .int .i64 s, .slice A n c]] w (RetB w (tB ((zss.length : Int) = s ∧ Had zss))) := by
  have hl : (zss.length : Int) = n := by rw [ha.len]
  have hb1 := below_alloc w (.cells #[.int .i64 3, .int .i64 s, .slice A n c] 30)
  have X := Blk.new w 30 #[.int .i64 3, .int .i64 s, .slice A n c]
  obtain ⟨W, hW⟩ : ∃ W, W = w.alloc (.cells #[.int .i64 3, .int .i64 s, .slice A n c] 30) := ⟨_, rfl⟩
  rw [← hW] at hb1 X
  have ha1 := ha.keep hb1
  have x0 : W.cell? ⟨w.heap.size, 0, none⟩ = some (.int .i64 3) := X.cell 0
  have x1 : W.cell? ⟨w.heap.size, 1, none⟩ = some (.int .i64 s) := X.cell 1
  have x2 : W.cell? ⟨w.heap.size, 2, none⟩ = some (.slice A n c) := X.cell 2
  have q1 := cell_bel x1
  have q2 := cell_bel x2
  have hsz : ∀ p : Bel W, Calls Tryz.prog 63 #[.slice A n c] p.w (fun e w' => e = .returned (.int .i64 n) ∧ Below p.w.heap.size p.w w') := fun p => (sizeR_any A n c p.w (by omega)).mono (by rintro e w' ⟨rfl, rfl⟩; exact ⟨rfl, Below.refl _ _⟩)
  have hok : ∀ p : Bel W, Calls Tryz.prog 67 #[.slice A n c] p.w (RetB p.w (tB (Had zss))) := fun p => validHadamard_any A n c zss p.w (ha1.keep p.h) h1 h2
  have e : tB ((zss.length : Int) = s ∧ Had zss) = (decide ((n : Int) = s) && tB (Had zss)) := by
    rw [hl]
    by_cases h1 : Had zss <;> by_cases h2 : (n : Int) = s
    · rw [tB_yes ⟨h2, h1⟩, tB_yes h1, decide_eq_true h2]; rfl
    · rw [tB_no fun h => h2 h.1, decide_eq_false h2, Bool.false_and]
    · rw [tB_no fun h => h1 h.2, tB_no h1, Bool.and_false]
    · rw [tB_no fun h => h1 h.2, tB_no h1, Bool.and_false]
  rw [e]
  clear e hl ha ha1 hr X
  generalize tB (Had zss) = b at *
  by_cases hs : (n : Int) = s
  · have hq : ((n : Int) == s) = true := by simp [hs]
    rw [show decide ((n : Int) = s) = true from by simp [hs], Bool.true_and]
    clear hs
    go_enter Tryz.func22, Tryz.ntmps22
    go_wp2
    rw [← hW]
    clear hW
    refine wp_region_bel (by kernel_rfl) (by kernel_rfl) ?_
    repeat (first | go_big_quiet_step ((first | (go_at_call 63; exact Calls.bel (hsz _)) | (go_at_call 67; exact Calls.bel (hok _)))) | quiet_step ((first | (go_at_call 63; exact Calls.bel (hsz _)) | (go_at_call 67; exact Calls.bel (hok _)))))
    refine wpQuiet_nil ?_
    rintro _ ⟨⟨w2, hb2⟩, rfl⟩
    clear q1 q2 x0 x1 x2 hsz hok
    go_wp2
    go_ret
    exact ⟨rfl, hb1.trans (hb2.mono hb1.size)⟩
  · have hq : ((n : Int) == s) = false := by simp [hs]
    rw [show decide ((n : Int) = s) = false from by simp [hs], Bool.false_and]
    clear hs
    go_enter Tryz.func22, Tryz.ntmps22
    go_wp2
    rw [← hW]
    clear hW
    refine wp_region_bel (by kernel_rfl) (by kernel_rfl) ?_
    repeat (first | go_big_quiet_step ((first | (go_at_call 63; exact Calls.bel (hsz _)) | (go_at_call 67; exact Calls.bel (hok _)))) | quiet_step ((first | (go_at_call 63; exact Calls.bel (hsz _)) | (go_at_call 67; exact Calls.bel (hok _)))))
    refine wpQuiet_nil ?_
    rintro _ ⟨⟨w2, hb2⟩, rfl⟩
    clear q1 q2 x0 x1 x2 hsz hok
    go_wp2
    go_ret
    exact ⟨rfl, hb1.trans (hb2.mono hb1.size)⟩
set_option maxHeartbeats 1000000 in
theorem validObject_2 (s : Int) (A : Option Addr) (n c : Nat) (zss : List (List Int)) (w : World) (ha : RR w A n zss) (hn : n ≤ 1099511627776) (hr : cells zss ≤ 1099511627776) :
    Calls Tryz.prog 22 #[.agg #[.int .i64 2, .int .i64 s, .slice A n c]] w (RetB w (tB (Design s zss))) := by
  have hb1 := below_alloc w (.cells #[.int .i64 2, .int .i64 s, .slice A n c] 30)
  have hl := ha.len
  have hof := designOf_any 2 s A n c zss _ (ha.keep hb1) hn hr
  go_enter Tryz.func22, Tryz.ntmps22
  go_wp2_with (go_at_call 66; refine hof.mono ?_; rintro e w2 ⟨A2, n2, c2, rfl, ho, hb2⟩)
  have hl2 := ho.len
  refine (validDesign_any s A2 n2 c2 zss w2 ho.reads (by omega)).mono ?_
  rintro e w3 ⟨rfl, hb3⟩
  dsimp only
  go_wp2
  go_ret
  exact ⟨rfl, hb1.trans ((hb2.trans (hb3.mono hb2.size)).mono hb1.size)⟩
set_option maxHeartbeats 1000000 in
theorem validObject_7 (s : Int) (A : Option Addr) (n c : Nat) (zss : List (List Int)) (w : World) (ha : RR w A n zss) (hn : n ≤ 1099511627776) (hr : cells zss ≤ 1099511627776) :
    Calls Tryz.prog 22 #[.agg #[.int .i64 7, .int .i64 s, .slice A n c]] w (RetB w (tB (GroupOk s zss))) := by
  have hb1 := below_alloc w (.cells #[.int .i64 7, .int .i64 s, .slice A n c] 30)
  have hl := ha.len
  have hof := groupOf_any 7 s A n c zss _ (ha.keep hb1) hn hr
  go_enter Tryz.func22, Tryz.ntmps22
  go_wp2_with (go_at_call 73; refine hof.mono ?_; rintro e w2 ⟨A2, n2, c2, rfl, ho, hb2⟩)
  have hl2 := ho.len
  refine (validGroup_any s A2 n2 c2 zss w2 ho.reads (by omega) hr).mono ?_
  rintro e w3 ⟨rfl, hb3⟩
  dsimp only
  go_wp2
  go_ret
  exact ⟨rfl, hb1.trans ((hb2.trans (hb3.mono hb2.size)).mono hb1.size)⟩
set_option maxHeartbeats 1000000 in
theorem validObject_4 (s : Int) (A : Option Addr) (n c : Nat) (zss : List (List Int)) (w : World) (ha : RR w A n zss) (hn : n ≤ 1099511627776) (hr : cells zss ≤ 1099511627776) :
    Calls Tryz.prog 22 #[.agg #[.int .i64 4, .int .i64 s, .slice A n c]] w (RetB w (tB (0 < zss.length ∧ Array' s (row zss 0).length zss))) := by
  have hb1 := below_alloc w (.cells #[.int .i64 4, .int .i64 s, .slice A n c] 30)
  have hl := ha.len
  have hof := arrayOf_any 4 s A n c zss _ (ha.keep hb1) hn hr
  by_cases h0 : 0 < n
  · have H := Lib.hid (show tB (0 < zss.length ∧ Array' s (row zss 0).length zss) = tB (Array' s (row zss 0).length zss) by
      by_cases hA : Array' s (row zss 0).length zss
      · rw [tB_yes hA, tB_yes ⟨by omega, hA⟩]
      · rw [tB_no hA, tB_no fun h => hA h.2])
    have hn0 : (0 : Int) < n := by omega
    rw [H.out]
    go_enter Tryz.func22, Tryz.ntmps22
    go_wp2_with (go_at_call 69; refine hof.mono ?_; rintro e w2 ⟨A2, n2, c2, rfl, ho, hb2⟩)
    have hl2 := ho.len
    refine (validArray_any s (row zss 0).length A2 n2 c2 zss w2 ho.reads (by omega)).mono ?_
    rintro e w3 ⟨rfl, hb3⟩
    dsimp only
    go_wp2
    go_ret
    exact ⟨rfl, hb1.trans ((hb2.trans (hb3.mono hb2.size)).mono hb1.size)⟩
  · obtain rfl : n = 0 := by omega
    have H := Lib.hid (show tB (0 < zss.length ∧ Array' s (row zss 0).length zss) = false from tB_no fun h => by have := h.1; omega)
    rw [H.out]
    go_enter Tryz.func22, Tryz.ntmps22
    go_wp2
    go_ret
    exact ⟨rfl, hb1⟩
set_option maxHeartbeats 1000000 in
theorem validObject_5 (s : Int) (A : Option Addr) (n c : Nat) (zss : List (List Int)) (w : World) (ha : RR w A n zss) (hn : n ≤ 1099511627776) (hr : cells zss ≤ 1099511627776) :
    Calls Tryz.prog 22 #[.agg #[.int .i64 5, .int .i64 s, .slice A n c]] w (RetB w (tB (CObj s zss))) := by
  have hb1 := below_alloc w (.cells #[.int .i64 5, .int .i64 s, .slice A n c] 30)
  have hl := ha.len
  obtain ⟨P, D, f, code, hP, hD, hmk, hto⟩ : ∃ (P D : Int) (f : List Int) (code : Int), I64 P ∧ I64 D ∧ (∀ W : World, Calls Tryz.prog 54 #[.int .i64 s] W (RetFC W P D f code)) ∧ tB (CObj s zss) = tB (CodeOk P D f zss) := by
    by_cases hx : ∃ (p : Int) (k : Nat), (p, k) ∈ PKL ∧ p ^ k = s
    · obtain ⟨p, k, hm, hs⟩ := hx
      obtain ⟨m1, m2, m3, m4, m5⟩ := PKL_ok hm
      obtain ⟨p2, p61⟩ := PR_bd m1
      exact ⟨p, k, mkP p k, 0, ⟨by omega, by omega⟩, ⟨by omega, by omega⟩, fun W => makeField_ok hm s W hs, tB_CObj hm hs zss⟩
    · refine ⟨0, 0, [], 2, ⟨by omega, by omega⟩, ⟨by omega, by omega⟩, fun W => makeField_no s W (ppF_no hx), ?_⟩
      rw [tB_no (p := CObj s zss) fun ⟨p, k, a, b, _⟩ => hx ⟨p, k, a, b⟩, tB_no]
      intro h
      have := h.1.1.1
      omega
  have hof := codeOfRows_any 5 s P D code f A n c zss _ (ha.keep hb1) hn hr hmk
  rw [hto]
  go_enter Tryz.func22, Tryz.ntmps22
  go_wp2_with (go_at_call 70; refine hof.mono ?_; rintro e w2 ⟨A4, n4, c4, A2, n2, c2, m, rfl, hi, hlt, ho, hm1, hm2, hb2⟩)
  have hl2 := ho.len
  have hc4 := hi.os.cap
  refine (validCode_any P D A4 n4 c4 f A2 n2 c2 zss w2 hi.reads hP hD (by omega) ho.reads (by omega)).mono ?_
  rintro e w3 ⟨rfl, hb3⟩
  dsimp only
  go_wp2
  go_ret
  exact ⟨rfl, hb1.trans ((hb2.trans (hb3.mono hb2.size)).mono hb1.size)⟩
set_option maxHeartbeats 1000000 in
theorem validObject_6 (s : Int) (A : Option Addr) (n c : Nat) (zss : List (List Int)) (w : World) (ha : RR w A n zss) (hn : n ≤ 1099511627776) (hr : cells zss ≤ 1099511627776) :
    Calls Tryz.prog 22 #[.agg #[.int .i64 6, .int .i64 s, .slice A n c]] w (RetB w (tB (GObj s zss))) := by
  have hb1 := below_alloc w (.cells #[.int .i64 6, .int .i64 s, .slice A n c] 30)
  have hof := graphOfRows_any 6 s A n c zss _ (ha.keep hb1) hn
  generalize tB (GObj s zss) = b at *
  go_enter Tryz.func22, Tryz.ntmps22
  go_wp2_with (go_at_call 71; refine hof.mono ?_; rintro e w2 ⟨A1, n1, c1, F1, m1, d1, rfl, hb2⟩)
  have hb3 := hb2.trans ((below_alloc w2 (.cells #[.slice A1 n1 c1, .slice F1 m1 d1] 99)).mono hb2.size)
  go_ret
  exact ⟨rfl, hb1.trans (hb3.mono hb1.size)⟩
set_option maxHeartbeats 1000000 in
theorem validObject_else (k s : Int) (A : Option Addr) (n c : Nat) (w : World) (hk : k ≠ 1 ∧ k ≠ 2 ∧ k ≠ 3 ∧ k ≠ 4 ∧ k ≠ 5 ∧ k ≠ 6 ∧ k ≠ 7) :
    Calls Tryz.prog 22 #[.agg #[.int .i64 k, .int .i64 s, .slice A n c]] w (RetB w false) := by
  have hb1 := below_alloc w (.cells #[.int .i64 k, .int .i64 s, .slice A n c] 30)
  obtain ⟨h1, h2, h3, h4, h5, h6, h7⟩ := hk
  have e1 : (k == 1) = false := by simpa using h1
  have e2 : (k == 2) = false := by simpa using h2
  have e3 : (k == 3) = false := by simpa using h3
  have e4 : (k == 4) = false := by simpa using h4
  have e5 : (k == 5) = false := by simpa using h5
  have e6 : (k == 6) = false := by simpa using h6
  have e7 : (k == 7) = false := by simpa using h7
  clear h1 h2 h3 h4 h5 h6 h7
  go_enter Tryz.func22, Tryz.ntmps22
  go_wp2
  go_ret
  exact ⟨rfl, hb1⟩
theorem validObject_any (k s : Int) (A : Option Addr) (n c : Nat) (zss : List (List Int)) (w : World) (ha : RR w A n zss) (hn : n ≤ 1099511627776) (hr : cells zss ≤ 1099511627776) (hc1 : n ≤ c) (hc2 : c ≤ 9223372036854775807) :
    Calls Tryz.prog 22 #[.agg #[.int .i64 k, .int .i64 s, .slice A n c]] w (RetB w (tB (VObj k s zss))) := by
  by_cases h1 : k = 1
  · subst h1; rw [tB_congr (vobj1 s zss)]; exact validObject_1 s A n c zss w ha hn hr hc1 hc2
  by_cases h2 : k = 2
  · subst h2; rw [tB_congr (vobj2 s zss)]; exact validObject_2 s A n c zss w ha hn hr
  by_cases h3 : k = 3
  · subst h3; rw [tB_congr (vobj3 s zss)]; exact validObject_3 s A n c zss w ha hn hr hc1 hc2
  by_cases h4 : k = 4
  · subst h4; rw [tB_congr (vobj4 s zss)]; exact validObject_4 s A n c zss w ha hn hr
  by_cases h5 : k = 5
  · subst h5; rw [tB_congr (vobj5 s zss)]; exact validObject_5 s A n c zss w ha hn hr
  by_cases h6 : k = 6
  · subst h6; rw [tB_congr (vobj6 s zss)]; exact validObject_6 s A n c zss w ha hn hr
  by_cases h7 : k = 7
  · subst h7; rw [tB_congr (vobj7 s zss)]; exact validObject_7 s A n c zss w ha hn hr
  rw [tB_no (vobj_no ⟨h1, h2, h3, h4, h5, h6, h7⟩)]
  exact validObject_else k s A n c w ⟨h1, h2, h3, h4, h5, h6, h7⟩
end Go.Proofs.YtemdjochphehjaaGreat
