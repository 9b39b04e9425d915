/- Objects: made, copied, marked, held and compared. No condition beyond those stated. -/
import Derived.Test.YtnmcmologlgccaaGreatSZAF
set_option linter.unusedVariables false
set_option linter.unusedSimpArgs false
namespace Go.Proofs.YtnmcmologlgccaaGreat
open Go.RowKit
set_option maxHeartbeats 1000000 in
theorem validSet_any (A : Option Addr) (n c : Nat) (z : List Int) (v : Int) (w : World) (ha : RI w A n z) (hn : n ≤ 9223372036854775807) (v1 : 1 ≤ v) (v2 : v ≤ 32) :
    Calls Tryz.prog 110 #[.slice A n c, .int .i64 v] w fun e w' => e = .returned (.bool (tB (Rises z 0 (v - 1)))) ∧ w = w' := by
  have hla := Lib.hid ha.len
  have hv := Lib.hid (inB_mk (a := v) (lo := 0) (hi := 32) (by omega))
  go_enter Tryz.func110, Tryz.ntmps110
  go_wp2
  go_loop [5, 10] (fun l i => ∃ (k : Nat) (x : Int), k ≤ n ∧ i = .int .i64 k ∧ l = .int .i64 x ∧ -1 ≤ x ∧ x ≤ 31 ∧ Hid ((k = 0 ∧ x = -1) ∨ (0 < k ∧ x = nth z (k - 1))) ∧ risesTo z 0 (v - 1) k) (fun _ i => n - (intOf i).toNat)
  case atStart => exact ⟨0, -1, Nat.zero_le _, rfl, rfl, by omega, by omega, Lib.hid (.inl ⟨rfl, rfl⟩), risesTo_zero _ _ _⟩
  case round =>
    obtain ⟨k, x, hk, rfl, rfl, x1, x2, hx, hr⟩ := hrel
    by_cases hlt : k < n
    · obtain ⟨a, rfl, hca, hia⟩ := ha.get hlt
      by_cases h1 : nth z k ≤ x
      · have H := Lib.hid (show tB (Rises z 0 (v - 1)) = false from tB_no fun hh => by
          rcases hx.out with ⟨_, e⟩ | ⟨e0, e⟩
          · have := (hh.bd k (by rw [hla.out]; exact hlt)).1; omega
          · have := hh.up (k - 1) (by rw [hla.out]; omega)
            rw [show k - 1 + 1 = k by omega] at this
            omega)
        clear hr hx
        go_wp2
        go_ret
        exact ⟨by rw [H.out]; rfl, rfl⟩
      · by_cases h2 : v ≤ nth z k
        · have H := Lib.hid (show tB (Rises z 0 (v - 1)) = false from tB_no fun hh => by
            have := (hh.bd k (by rw [hla.out]; exact hlt)).2; omega)
          clear hr hx
          go_wp2
          go_ret
          exact ⟨by rw [H.out]; rfl, rfl⟩
        · have h3 : 0 ≤ nth z k := by omega
          have H := Lib.hid (risesTo_step hr ⟨h3, by omega⟩ (fun h0 => by
            rcases hx.out with ⟨e, _⟩ | ⟨e0, e⟩
            · omega
            · rw [← e]; omega))
          clear hr hx
          go_wp2
          go_round
          case rel => exact ⟨k + 1, nth z k, by omega, by go_num, rfl, by omega, by omega, Lib.hid (.inr ⟨by omega, by simp⟩), H.out⟩
          case measure => simp [intOf]; omega
    · have H := Lib.hid (show tB (Rises z 0 (v - 1)) = true from tB_yes (risesTo_all hla.out (by rwa [show k = n by omega] at hr)))
      clear hr hx
      go_wp2_with (go_at_call 30; refine (within_any _ _ _ _).mono ?_; rintro e w' ⟨rfl, rfl⟩)
      go_ret
      exact ⟨by rw [H.out]; exact ret_bool hv.out, rfl⟩
set_option maxHeartbeats 400000 in
theorem isBlock_any (A : Option Addr) (n c : Nat) (z : List Int) (v : Int) (w : World) (ha : RI w A n z) (hn : n ≤ 9223372036854775807) (v1 : 1 ≤ v) (v2 : v ≤ 32) :
    Calls Tryz.prog 66 #[.slice A n c, .int .i64 v] w fun e w' => e = .returned (.bool (tB (Block z v))) ∧ w = w' := by
  have hla := Lib.hid ha.len
  by_cases h0 : 0 < n
  · have H := Lib.hid (show tB (Rises z 0 (v - 1)) = tB (Block z v) from tB_congr ⟨fun h => ⟨by rw [hla.out]; exact h0, h⟩, fun h => h.2⟩)
    go_enter Tryz.func66, Tryz.ntmps66
    go_wp2_with (go_at_call 110; refine (validSet_any _ _ _ z _ _ ha hn v1 v2).mono ?_; rintro e w' ⟨rfl, rfl⟩)
    go_ret
    exact ⟨by rw [← H.out]; rfl, rfl⟩
  · have H := Lib.hid (show tB (Block z v) = false from tB_no fun h => h0 (by rw [← hla.out]; exact h.1))
    go_enter Tryz.func66, Tryz.ntmps66
    go_wp2
    go_ret
    exact ⟨by rw [H.out]; rfl, rfl⟩
set_option maxHeartbeats 400000 in
theorem l10Block_any (A : Option Addr) (n c : Nat) (z : List Int) (v : Int) (w : World) (ha : RI w A n z) (hn : n ≤ 9223372036854775807) (v1 : 1 ≤ v) (v2 : v ≤ 64) :
    Calls Tryz.prog 133 #[.slice A n c, .int .i64 v] w (Quiet w (.bool (tB (Block z v)))) := by
  have hla := Lib.hid ha.len
  by_cases h0 : 0 < n
  · have H := Lib.hid (show tB (Rises z 0 (v - 1)) = tB (Block z v) from tB_congr ⟨fun h => ⟨by rw [hla.out]; exact h0, h⟩, fun h => h.2⟩)
    go_enter Tryz.func133, Tryz.ntmps133
    go_wp2_with (go_at_call 173; refine (l00Rises_any _ _ _ z _ _ _ ha hn).mono ?_; rintro e w1 ⟨rfl, hd1⟩)
    go_ret
    exact ⟨by rw [← H.out]; rfl, hd1⟩
  · have H := Lib.hid (show tB (Block z v) = false from tB_no fun h => h0 (by rw [← hla.out]; exact h.1))
    go_enter Tryz.func133, Tryz.ntmps133
    go_wp2
    go_ret
    exact ⟨by rw [H.out]; rfl, Drawn.refl _⟩
def allBlk (bs : List (List Int)) (v : Int) : Prop := ∀ i, i < bs.length → Block (row bs i) v
noncomputable def noBlk (v : Int) (z : List Int) : Bool := !tB (Block z v)
theorem noBlk_any (bs : List (List Int)) (v : Int) : (!bs.any (noBlk v)) = tB (allBlk bs v) := by
  cases h : bs.any (noBlk v) with
  | true =>
    obtain ⟨x, hx, hb⟩ := List.any_eq_true.1 h
    obtain ⟨k, hk, rfl⟩ := List.mem_iff_getElem.1 hx
    rw [tB_no (p := allBlk bs v) fun hh => ?_]
    · rfl
    · have := hh k hk
      rw [row_get hk] at this
      simp [noBlk, tB_yes this] at hb
  | false =>
    rw [tB_yes (p := allBlk bs v) fun i hi => ?_]
    · rfl
    · rw [List.any_eq_false] at h
      have := h bs[i] (List.getElem_mem hi)
      rw [row_get hi]
      exact tB_true.1 (by simpa [noBlk] using this)
set_option maxHeartbeats 400000 in
theorem areBlocks1_any (A : Option Addr) (n c : Nat) (z : List Int) (v : Int) (p : Addr) (w : World) (hp : w.cell? p = some (.int .i64 v)) (ha : RI w A n z) (hn : n ≤ 9223372036854775807) (v1 : 1 ≤ v) (v2 : v ≤ 32) :
    Calls Tryz.prog 65 #[.slice A n c, .pointer (some p)] w fun e w' => e = .returned (.bool (noBlk v z)) ∧ w = w' := by
  go_enter Tryz.func65, Tryz.ntmps65
  go_wp2_with (go_at_call 66; refine (isBlock_any _ _ _ z _ _ ha hn v1 v2).mono ?_; rintro e w' ⟨rfl, rfl⟩)
  go_ret
  exact ⟨rfl, rfl⟩
set_option maxHeartbeats 400000 in
theorem areBlocks_any (A : Option Addr) (n c : Nat) (bs : List (List Int)) (v : Int) (w : World) (ha : RR w A n bs) (hn : n ≤ 9223372036854775807) :
    Calls Tryz.prog 44 #[.slice A n c, .int .i64 v] w (RetB w (inB v 1 32 && tB (allBlk bs v))) := by
  have eg : ∀ (args : Array Value) (w : World), (callFunc 65 args).run Tryz.prog w = .ok (.enter 65 args) w := fun _ _ => by kernel_rfl
  have hb1 := below_alloc w (.cells #[.int .i64 v] 2)
  have hcell : (w.alloc (.cells #[.int .i64 v] 2)).cell? ⟨w.heap.size, 0, none⟩ = some (.int .i64 v) := (Blk.new w 2 #[.int .i64 v]).cell 0
  cases h1 : inB v 1 32 with
  | true =>
    obtain ⟨v1, v2⟩ := inB_true h1
    have hask : AskR 65 #[.pointer (some ⟨w.heap.size, 0, none⟩)] (noBlk v) (w.alloc (.cells #[.int .i64 v] 2)) := fun A' n' c' z W hW hz h2 h3 =>
      (areBlocks1_any A' n' c' z v _ W (below_cell hW hcell) hz (by omega) v1 v2).mono fun _ _ h => RetB.of_same h
    have H := Lib.hid (noBlk_any bs v)
    go_enter Tryz.func44, Tryz.ntmps44
    go_wp2_with (first
      | (go_at_call 30; refine (within_any _ _ _ _).mono ?_; rintro e w' ⟨rfl, rfl⟩; rw [h1])
      | (go_at_call 64; refine (containsFuncR _ _ eg (noBlk v) A n c bs _ (ha.keep hb1) hn hask).mono ?_; rintro e w2 ⟨rfl, hb2⟩))
    go_ret
    exact ⟨by rw [← H.out]; rfl, below_then hb1 hb2⟩
  | false =>
    go_enter Tryz.func44, Tryz.ntmps44
    go_wp2_with (go_at_call 30; refine (within_any _ _ _ _).mono ?_; rintro e w' ⟨rfl, rfl⟩; rw [h1])
    go_ret
    exact ⟨rfl, hb1⟩
def sortedTo (bs : List (List Int)) (x : Int) : Prop := ∀ j : Nat, x ≤ j → j + 1 < bs.length → cmpL (row bs j) (row bs (j + 1)) ≤ 0
def sortedR (bs : List (List Int)) : Prop := ∀ j : Nat, j + 1 < bs.length → cmpL (row bs j) (row bs (j + 1)) ≤ 0
set_option maxHeartbeats 1000000 in
theorem isSortedFunc_any (A : Option Addr) (n c : Nat) (bs : List (List Int)) (w : World) (ha : RR w A n bs) (hn : n ≤ 9223372036854775807) :
    Calls Tryz.prog 45 #[.slice A n c, .func (.func 43) #[] #[]] w (Quiet w (.bool (tB (sortedR bs)))) := by
  have hla := Lib.hid ha.len
  have e0 : IntKind.i64.wrap ((n : Int) - 1) = (n : Int) - 1 := IntWalk.i64_in _ (by omega)
  go_enter Tryz.func45, Tryz.ntmps45
  go_wp2
  go_loopw [5] (fun i wr => ∃ x : Int, i = .int .i64 x ∧ x < n ∧ -1 ≤ x ∧ Drawn w wr ∧ Hid (sortedTo bs x)) (fun i _ => (intOf i).toNat)
  case atStart => exact ⟨(n : Int) - 1, rfl, by omega, by omega, Drawn.refl _, Lib.hid fun j h1 h2 => absurd h2 (by rw [hla.out]; omega)⟩
  case round =>
    obtain ⟨x, rfl, hx1, hx2, hd, hs⟩ := hrel
    by_cases h0 : 0 < x
    · obtain ⟨k, rfl⟩ : ∃ k : Nat, x = k := ⟨x.toNat, by omega⟩
      obtain ⟨a, A1, n1, c1, rfl, hca, hn1, hc1, ha1⟩ := (ha.drawn hd).get (show k < n by omega)
      obtain ⟨b, A2, n2, c2, hb', hcb, hn2, hc2, ha2⟩ := (ha.drawn hd).get (show k - 1 < n by omega)
      obtain rfl : a = b := by injection hb'
      clear hb'
      have e1 : IntKind.i64.wrap ((k : Int) - 1) = (k : Int) - 1 := IntWalk.i64_in _ (by omega)
      have e2 : ((k : Int) - 1).toNat = k - 1 := by omega
      have e3 : (0 : Int) ≤ (k : Int) - 1 := by omega
      have hcall : ∀ q, Calls Tryz.prog 43 #[.slice A1 n1 c1, .slice A2 n2 c2] (wr.drewN q) (Quiet (wr.drewN q) (.int .i64 (cmpL (row bs k) (row bs (k - 1))))) := fun q =>
        (slicesCompare_any A1 A2 n1 n2 c1 c2 _ _ _ (ha1.drewN q) (ha2.drewN q) (by omega) (by omega)).mono fun _ _ h => Quiet.of_same h
      have hsw := cmpL_swap (row bs (k - 1)) (row bs k)
      by_cases h1 : cmpL (row bs k) (row bs (k - 1)) < 0
      · have H := Lib.hid (show tB (sortedR bs) = false from tB_no fun hh => by
          have := hh (k - 1) (by rw [hla.out]; omega)
          rw [show k - 1 + 1 = k by omega] at this
          omega)
        clear hsw
        go_wp2
        go_quiet ((go_at_call 43; exact Quiet.call (hcall _)))
        clear e0 e1 e2 e3
        go_wp2
        go_ret
        exact ⟨by rw [H.out]; rfl, hd.more _⟩
      · have h1' : 0 ≤ cmpL (row bs k) (row bs (k - 1)) := by omega
        have H := Lib.hid (show sortedTo bs ((k : Int) - 1) from fun j hj1 hj2 => by
          rcases Nat.lt_or_ge j k with h | h
          · have : j = k - 1 := by omega
            rw [this, show k - 1 + 1 = k by omega]
            omega
          · exact hs.out j (by omega) hj2)
        clear hsw hs
        go_wp2
        go_quiet ((go_at_call 43; exact Quiet.call (hcall _)))
        go_wp2
        go_roundw
        case rel => exact ⟨(k : Int) - 1, rfl, by omega, by omega, hd.more _, H⟩
        case measure => simp [intOf]; omega
    · have H := Lib.hid (show tB (sortedR bs) = true from tB_yes fun j hj => hs.out j (by omega) hj)
      clear hs e0
      go_wp2
      go_ret
      exact ⟨by rw [H.out]; rfl, hd⟩
theorem design_iff (v : Int) (bs : List (List Int)) : Design v bs ↔ (1 ≤ v ∧ v ≤ 32) ∧ allBlk bs v ∧ bs.length ≤ 128 ∧ sortedR bs :=
  ⟨fun h => ⟨⟨h.v1, h.v2⟩, h.blk, h.len, h.ord⟩, fun h => ⟨h.1.1, h.1.2, h.2.2.1, h.2.1, h.2.2.2⟩⟩
set_option maxHeartbeats 1000000 in
theorem validDesign_any (v : Int) (A : Option Addr) (n c : Nat) (bs : List (List Int)) (w : World) (ha : RR w A n bs) (hn : n ≤ 9223372036854775807) :
    Calls Tryz.prog 26 #[.agg #[.int .i64 v, .slice A n c]] w (RetB w (tB (Design v bs))) := by
  have hla := Lib.hid ha.len
  have hb1 := below_alloc w (.cells #[.int .i64 v, .slice A n c] 28)
  have B1 := Blk.new w 28 #[.int .i64 v, .slice A n c]
  have HD := Lib.hid (design_iff v bs)
  have hcall := areBlocks_any A n c bs v _ (ha.keep hb1) hn
  cases h1 : inB v 1 32 && tB (allBlk bs v) with
  | false =>
    rw [h1] at hcall
    have H := Lib.hid (show tB (Design v bs) = false from tB_no fun hh => by
      have := HD.out.1 hh
      rw [inB_mk this.1, tB_yes this.2.1] at h1
      cases h1)
    clear h1
    go_enter Tryz.func26, Tryz.ntmps26
    go_wp2_with (go_at_call 44; refine hcall.mono ?_; rintro e w1 ⟨rfl, hb2⟩)
    go_ret
    exact ⟨by rw [H.out]; rfl, below_then hb1 hb2⟩
  | true =>
    rw [h1] at hcall
    have hv := Lib.hid (show (1 ≤ v ∧ v ≤ 32) ∧ allBlk bs v by
      rw [Bool.and_eq_true] at h1
      exact ⟨inB_true h1.1, tB_true.1 h1.2⟩)
    clear h1
    by_cases h2 : n ≤ 128
    · have H := Lib.hid (show tB (sortedR bs) = tB (Design v bs) from tB_congr ⟨fun h => HD.out.2 ⟨hv.out.1, hv.out.2, by rw [hla.out]; exact h2, h⟩, fun h => (HD.out.1 h).2.2.2⟩)
      go_enter Tryz.func26, Tryz.ntmps26
      go_wp2_with fail
      refine hcall.mono ?_
      rintro e w1 ⟨rfl, hb2⟩
      obtain ⟨x0, x1⟩ := (B1.after hb2).cells2
      have hw := below_then hb1 hb2
      clear B1 hb1 hb2
      go_wp2_with (go_at_call 45; refine (isSortedFunc_any A n c bs _ (ha.keep hw) hn).mono ?_; rintro e w2 ⟨rfl, hd2⟩)
      go_ret
      exact ⟨by rw [← H.out]; rfl, hw.trans (hd2.below.mono hw.size)⟩
    · have H := Lib.hid (show tB (Design v bs) = false from tB_no fun hh => h2 (by have := hh.len; rw [hla.out] at this; exact this))
      have h2' : 128 < n := by omega
      go_enter Tryz.func26, Tryz.ntmps26
      go_wp2_with fail
      refine hcall.mono ?_
      rintro e w1 ⟨rfl, hb2⟩
      obtain ⟨x0, x1⟩ := (B1.after hb2).cells2
      have hw := below_then hb1 hb2
      clear B1 hb1 hb2
      go_wp2
      go_ret
      exact ⟨by rw [H.out]; rfl, hw⟩
def blkTo (bs : List (List Int)) (v : Int) (k : Nat) : Prop := (∀ i, i < k → Block (row bs i) v) ∧ ∀ i, i + 1 < k → cmpL (row bs i) (row bs (i + 1)) ≤ 0
theorem blkTo_step {bs : List (List Int)} {v : Int} {k : Nat} (h : blkTo bs v k) (h1 : Block (row bs k) v) (h2 : 0 < k → cmpL (row bs (k - 1)) (row bs k) ≤ 0) : blkTo bs v (k + 1) :=
  ⟨fun j hj => by
    rcases Nat.lt_succ_iff_lt_or_eq.1 hj with h' | h'
    · exact h.1 j h'
    · rw [h']; exact h1,
   fun j hj => by
    rcases Nat.lt_succ_iff_lt_or_eq.1 hj with h' | h'
    · exact h.2 j h'
    · have := h2 (by omega)
      have e : k = j + 1 := h'.symm
      subst e
      simpa using this⟩
set_option maxRecDepth 100000 in
set_option maxHeartbeats 2000000 in
theorem l10Ok_any (g : Nat) (v : Int) (A : Option Addr) (n c : Nat) (bs : List (List Int)) (w : World) (hB : Blk w g 28 #[.int .i64 v, .slice A n c]) (ha : RR w A n bs) (hn : n ≤ 9223372036854775807) :
    Calls Tryz.prog 83 #[.pointer (some ⟨g, 0, none⟩)] w (Quiet w (.bool (tB (Design v bs)))) := by
  have hla := Lib.hid ha.len
  obtain ⟨x0, x1⟩ := hB.cells2
  cases h1 : inB v 1 32 with
  | false =>
    have H := Lib.hid (show tB (Design v bs) = false from tB_no fun hh => by rw [inB_mk ⟨hh.v1, hh.v2⟩] at h1; cases h1)
    go_enter Tryz.func83, Tryz.ntmps83
    go_wp2_with (go_at_call 38; refine (l00In_any _ _ _ _).mono ?_; rintro e w' ⟨rfl, rfl⟩; rw [h1])
    go_ret
    exact ⟨by rw [H.out]; rfl, Drawn.refl _⟩
  | true =>
    obtain ⟨v1, v2⟩ := inB_true h1
    by_cases h2 : n ≤ 128
    · go_enter Tryz.func83, Tryz.ntmps83
      go_wp2_with (go_at_call 38; refine (l00In_any _ _ _ _).mono ?_; rintro e w' ⟨rfl, rfl⟩; rw [h1])
      go_loopw [3] (fun i wr => ∃ k : Nat, k ≤ n ∧ i = .int .i64 k ∧ Drawn w wr ∧ blkTo bs v k) (fun i _ => n - (intOf i).toNat)
      case atStart => exact ⟨0, Nat.zero_le _, rfl, Drawn.refl _, fun _ h => absurd h (by omega), fun _ h => absurd h (by omega)⟩
      case round =>
        obtain ⟨k, hk, rfl, hd, hto⟩ := hrel
        clear x0 x1
        obtain ⟨x0, x1⟩ := (hB.after hd.below).cells2
        by_cases hlt : k < n
        · obtain ⟨a, A1, n1, c1, rfl, hca, hn1, hc1, ha1⟩ := (ha.drawn hd).get hlt
          cases h3 : tB (Block (row bs k) v) with
          | false =>
            have hcall : ∀ q, Calls Tryz.prog 133 #[.slice A1 n1 c1, .int .i64 v] (wr.drewN q) (Quiet (wr.drewN q) (.bool false)) := fun q => by
              rw [← h3]; exact l10Block_any A1 n1 c1 _ v _ (ha1.drewN q) (by omega) v1 (by omega)
            have H := Lib.hid (show tB (Design v bs) = false from tB_no fun hh => by
              rw [tB_yes (hh.blk k (by rw [hla.out]; exact hlt))] at h3; cases h3)
            clear hto h3
            go_wp2
            go_quiet ((go_at_call 133; exact Quiet.call (hcall _)))
            go_wp2
            go_ret
            exact ⟨by rw [H.out]; rfl, hd.more _⟩
          | true =>
            have hcall : ∀ q, Calls Tryz.prog 133 #[.slice A1 n1 c1, .int .i64 v] (wr.drewN q) (Quiet (wr.drewN q) (.bool true)) := fun q => by
              rw [← h3]; exact l10Block_any A1 n1 c1 _ v _ (ha1.drewN q) (by omega) v1 (by omega)
            have hbk := Lib.hid (tB_true.1 h3)
            clear h3
            by_cases h0 : k ≤ 0
            · have g1 : decide ((0 : Int) < (k : Int)) = false := by simp; omega
              have g2 : decide (0 < k) = false := by simp; omega
              have H := Lib.hid (blkTo_step hto hbk.out (fun h => absurd h (by omega)))
              clear hto
              go_wp2
              go_quiet ((go_at_call 133; exact Quiet.call (hcall _)))
              go_wp2
              go_roundw
              case rel => exact ⟨k + 1, by omega, by go_num, hd.more _, H.out⟩
              case measure => simp [intOf]; omega
            · have h0' : 0 < k := by omega
              obtain ⟨b, A2, n2, c2, hb', hcb, hn2, hc2, ha2⟩ := (ha.drawn hd).get (show k - 1 < n by omega)
              obtain rfl : a = b := by injection hb'
              clear hb' h0
              have hcall2 : ∀ q, Calls Tryz.prog 134 #[.slice A2 n2 c2, .slice A1 n1 c1] (wr.drewN q) (Quiet (wr.drewN q) (.int .i64 (cmpL (row bs (k - 1)) (row bs k)))) := fun q =>
                compareLists_any A2 A1 n2 n1 c2 c1 _ _ _ (ha2.drewN q) (ha1.drewN q) (by omega) (by omega)
              have e1 : IntKind.i64.wrap ((k : Int) - 1) = (k : Int) - 1 := IntWalk.i64_in _ (by omega)
              have e2 : ((k : Int) - 1).toNat = k - 1 := by omega
              have e3 : (0 : Int) ≤ (k : Int) - 1 := by omega
              by_cases h4 : cmpL (row bs (k - 1)) (row bs k) ≤ 0
              · have h4' : decide (0 < cmpL (row bs (k - 1)) (row bs k)) = false := by simp; omega
                have H := Lib.hid (blkTo_step hto hbk.out (fun _ => h4))
                clear hto
                go_wp2
                go_quiet ((first | (go_at_call 133; exact Quiet.call (hcall _)) | (go_at_call 134; exact Quiet.call (hcall2 _))))
                clear e1 e2 e3
                go_wp2
                go_roundw
                case rel => exact ⟨k + 1, by omega, by go_num, hd.more _, H.out⟩
                case measure => simp [intOf]; omega
              · have h4' : decide (0 < cmpL (row bs (k - 1)) (row bs k)) = true := by simp; omega
                have H := Lib.hid (show tB (Design v bs) = false from tB_no fun hh => by
                  have := hh.ord (k - 1) (by rw [hla.out]; omega)
                  rw [show k - 1 + 1 = k by omega] at this
                  exact h4 this)
                clear hto
                go_wp2
                go_quiet ((first | (go_at_call 133; exact Quiet.call (hcall _)) | (go_at_call 134; exact Quiet.call (hcall2 _))))
                clear e1 e2 e3
                go_wp2
                go_ret
                exact ⟨by rw [H.out]; rfl, hd.more _⟩
        · have H := Lib.hid (show tB (Design v bs) = true from tB_yes ⟨v1, v2, by rw [hla.out]; exact h2, by rw [hla.out]; rw [show k = n by omega] at hto; exact hto.1, by rw [hla.out]; rw [show k = n by omega] at hto; exact hto.2⟩)
          clear hto
          go_wp2
          go_ret
          exact ⟨by rw [H.out]; rfl, hd⟩
    · have H := Lib.hid (show tB (Design v bs) = false from tB_no fun hh => h2 (by have := hh.len; rw [hla.out] at this; exact this))
      have h2' : 128 < n := by omega
      go_enter Tryz.func83, Tryz.ntmps83
      go_wp2_with (go_at_call 38; refine (l00In_any _ _ _ _).mono ?_; rintro e w' ⟨rfl, rfl⟩; rw [h1])
      go_ret
      exact ⟨by rw [H.out]; rfl, Drawn.refl _⟩
end Go.Proofs.YtnmcmologlgccaaGreat
