/- Designs: whether blocks are one, on both sides. No condition beyond those stated. -/
import Derived.Test.YtdkbcjdimhgmnaaGreatRHG
set_option linter.unusedVariables false
set_option linter.unusedSimpArgs false
namespace Go.Proofs.YtdkbcjdimhgmnaaGreat
open Go.RowKit
set_option maxHeartbeats 1000000 in
theorem validSet_any (A : Option Addr) (n c : Nat) (z : List Int) (v : Int) (w : World) (ha : RI w A n z) (hn : n ≤ 9223372036854775807) (v1 : 1 ≤ v) (v2 : v ≤ 32) :
    Calls Tryz.prog 221 #[.slice A n c, .int .i64 v] w fun e w' => e = .returned (.bool (tB (Rises z 0 (v - 1)))) ∧ w = w' := by
  have hla := Lib.hid ha.len
  have hv := Lib.hid (inB_mk (a := v) (lo := 0) (hi := 32) (by omega))
  go_enter Tryz.func221, Tryz.ntmps221
  go_wp2
  go_loop [5, 10] (fun l i => ∃ (k : Nat) (x : Int), k ≤ n ∧ i = .int .i64 k ∧ l = .int .i64 x ∧ -1 ≤ x ∧ x ≤ 31 ∧ Hid ((k = 0 ∧ x = -1) ∨ (0 < k ∧ x = nth z (k - 1))) ∧ risesTo z 0 (v - 1) k) (fun _ i => n - (intOf i).toNat)
  case atStart => exact ⟨0, -1, Nat.zero_le _, rfl, rfl, by omega, by omega, Lib.hid (.inl ⟨rfl, rfl⟩), risesTo_zero _ _ _⟩
  case round =>
    obtain ⟨k, x, hk, rfl, rfl, x1, x2, hx, hr⟩ := hrel
    by_cases hlt : k < n
    · obtain ⟨a, rfl, hca, hia⟩ := ha.get hlt
      by_cases h1 : nth z k ≤ x
      · have H := Lib.hid (show tB (Rises z 0 (v - 1)) = false from tB_no fun hh => by
          rcases hx.out with ⟨_, e⟩ | ⟨e0, e⟩
          · have := (hh.bd k (by rw [hla.out]; exact hlt)).1; omega
          · have := hh.up (k - 1) (by rw [hla.out]; omega)
            rw [show k - 1 + 1 = k by omega] at this
            omega)
        clear hr hx
        go_wp2
        go_ret
        exact ⟨by rw [H.out]; rfl, rfl⟩
      · by_cases h2 : v ≤ nth z k
        · have H := Lib.hid (show tB (Rises z 0 (v - 1)) = false from tB_no fun hh => by
            have := (hh.bd k (by rw [hla.out]; exact hlt)).2; omega)
          clear hr hx
          go_wp2
          go_ret
          exact ⟨by rw [H.out]; rfl, rfl⟩
        · have h3 : 0 ≤ nth z k := by omega
          have H := Lib.hid (risesTo_step hr ⟨h3, by omega⟩ (fun h0 => by
            rcases hx.out with ⟨e, _⟩ | ⟨e0, e⟩
            · omega
            · rw [← e]; omega))
          clear hr hx
          go_wp2
          go_round
          case rel => exact ⟨k + 1, nth z k, by omega, by go_num, rfl, by omega, by omega, Lib.hid (.inr ⟨by omega, by simp⟩), H.out⟩
          case measure => simp [intOf]; omega
    · have H := Lib.hid (show tB (Rises z 0 (v - 1)) = true from tB_yes (risesTo_all hla.out (by rwa [show k = n by omega] at hr)))
      clear hr hx
      go_wp2_with (go_at_call 73; refine (within_any _ _ _ _).mono ?_; rintro e w' ⟨rfl, rfl⟩)
      go_ret
      exact ⟨by rw [H.out]; exact ret_bool hv.out, rfl⟩
set_option maxHeartbeats 400000 in
theorem isBlock_any (A : Option Addr) (n c : Nat) (z : List Int) (v : Int) (w : World) (ha : RI w A n z) (hn : n ≤ 9223372036854775807) (v1 : 1 ≤ v) (v2 : v ≤ 32) :
    Calls Tryz.prog 185 #[.slice A n c, .int .i64 v] w fun e w' => e = .returned (.bool (tB (Block z v))) ∧ w = w' := by
  have hla := Lib.hid ha.len
  by_cases h0 : 0 < n
  · have H := Lib.hid (show tB (Rises z 0 (v - 1)) = tB (Block z v) from tB_congr ⟨fun h => ⟨by rw [hla.out]; exact h0, h⟩, fun h => h.2⟩)
    go_enter Tryz.func185, Tryz.ntmps185
    go_wp2_with (go_at_call 221; refine (validSet_any _ _ _ z _ _ ha hn v1 v2).mono ?_; rintro e w' ⟨rfl, rfl⟩)
    go_ret
    exact ⟨by rw [← H.out]; rfl, rfl⟩
  · have H := Lib.hid (show tB (Block z v) = false from tB_no fun h => h0 (by rw [← hla.out]; exact h.1))
    go_enter Tryz.func185, Tryz.ntmps185
    go_wp2
    go_ret
    exact ⟨by rw [H.out]; rfl, rfl⟩
set_option maxHeartbeats 400000 in
theorem l10Block_any (A : Option Addr) (n c : Nat) (z : List Int) (v : Int) (w : World) (ha : RI w A n z) (hn : n ≤ 9223372036854775807) (v1 : 1 ≤ v) (v2 : v ≤ 64) :
    Calls Tryz.prog 130 #[.slice A n c, .int .i64 v] w (Quiet w (.bool (tB (Block z v)))) := by
  have hla := Lib.hid ha.len
  by_cases h0 : 0 < n
  · have H := Lib.hid (show tB (Rises z 0 (v - 1)) = tB (Block z v) from tB_congr ⟨fun h => ⟨by rw [hla.out]; exact h0, h⟩, fun h => h.2⟩)
    go_enter Tryz.func130, Tryz.ntmps130
    go_wp2_with (go_at_call 183; refine (l00Rises_any _ _ _ z _ _ _ ha hn).mono ?_; rintro e w1 ⟨rfl, hd1⟩)
    go_ret
    exact ⟨by rw [← H.out]; rfl, hd1⟩
  · have H := Lib.hid (show tB (Block z v) = false from tB_no fun h => h0 (by rw [← hla.out]; exact h.1))
    go_enter Tryz.func130, Tryz.ntmps130
    go_wp2
    go_ret
    exact ⟨by rw [H.out]; rfl, Drawn.refl _⟩
def allBlk (bs : List (List Int)) (v : Int) : Prop := ∀ i, i < bs.length → Block (row bs i) v
noncomputable def noBlk (v : Int) (z : List Int) : Bool := !tB (Block z v)
theorem noBlk_any (bs : List (List Int)) (v : Int) : (!bs.any (noBlk v)) = tB (allBlk bs v) := by
  cases h : bs.any (noBlk v) with
  | true =>
    obtain ⟨x, hx, hb⟩ := List.any_eq_true.1 h
    obtain ⟨k, hk, rfl⟩ := List.mem_iff_getElem.1 hx
    rw [tB_no (p := allBlk bs v) fun hh => ?_]
    · rfl
    · have := hh k hk
      rw [row_get hk] at this
      simp [noBlk, tB_yes this] at hb
  | false =>
    rw [tB_yes (p := allBlk bs v) fun i hi => ?_]
    · rfl
    · rw [List.any_eq_false] at h
      have := h bs[i] (List.getElem_mem hi)
      rw [row_get hi]
      exact tB_true.1 (by simpa [noBlk] using this)
set_option maxHeartbeats 400000 in
theorem areBlocks1_any (A : Option Addr) (n c : Nat) (z : List Int) (v : Int) (p : Addr) (w : World) (hp : w.cell? p = some (.int .i64 v)) (ha : RI w A n z) (hn : n ≤ 9223372036854775807) (v1 : 1 ≤ v) (v2 : v ≤ 32) :
    Calls Tryz.prog 184 #[.slice A n c, .pointer (some p)] w fun e w' => e = .returned (.bool (noBlk v z)) ∧ w = w' := by
  go_enter Tryz.func184, Tryz.ntmps184
  go_wp2_with (go_at_call 185; refine (isBlock_any _ _ _ z _ _ ha hn v1 v2).mono ?_; rintro e w' ⟨rfl, rfl⟩)
  go_ret
  exact ⟨rfl, rfl⟩
set_option maxHeartbeats 400000 in
theorem areBlocks_any (A : Option Addr) (n c : Nat) (bs : List (List Int)) (v : Int) (w : World) (ha : RR w A n bs) (hn : n ≤ 9223372036854775807) :
    Calls Tryz.prog 132 #[.slice A n c, .int .i64 v] w (RetB w (inB v 1 32 && tB (allBlk bs v))) := by
  have eg : ∀ (args : Array Value) (w : World), (callFunc 184 args).run Tryz.prog w = .ok (.enter 184 args) w := fun _ _ => by kernel_rfl
  have hb1 := below_alloc w (.cells #[.int .i64 v] 2)
  have hcell : (w.alloc (.cells #[.int .i64 v] 2)).cell? ⟨w.heap.size, 0, none⟩ = some (.int .i64 v) := (Blk.new w 2 #[.int .i64 v]).cell 0
  cases h1 : inB v 1 32 with
  | true =>
    obtain ⟨v1, v2⟩ := inB_true h1
    have hask : AskR 184 #[.pointer (some ⟨w.heap.size, 0, none⟩)] (noBlk v) (w.alloc (.cells #[.int .i64 v] 2)) := fun A' n' c' z W hW hz h2 h3 =>
      (areBlocks1_any A' n' c' z v _ W (below_cell hW hcell) hz (by omega) v1 v2).mono fun _ _ h => RetB.of_same h
    have H := Lib.hid (noBlk_any bs v)
    go_enter Tryz.func132, Tryz.ntmps132
    go_wp2_with (first
      | (go_at_call 73; refine (within_any _ _ _ _).mono ?_; rintro e w' ⟨rfl, rfl⟩; rw [h1])
      | (go_at_call 75; refine (containsFuncR _ _ eg (noBlk v) A n c bs _ (ha.keep hb1) hn hask).mono ?_; rintro e w2 ⟨rfl, hb2⟩))
    go_ret
    exact ⟨by rw [← H.out]; rfl, below_then hb1 hb2⟩
  | false =>
    go_enter Tryz.func132, Tryz.ntmps132
    go_wp2_with (go_at_call 73; refine (within_any _ _ _ _).mono ?_; rintro e w' ⟨rfl, rfl⟩; rw [h1])
    go_ret
    exact ⟨rfl, hb1⟩
def sortedTo (bs : List (List Int)) (x : Int) : Prop := ∀ j : Nat, x ≤ j → j + 1 < bs.length → cmpL (row bs j) (row bs (j + 1)) ≤ 0
def sortedR (bs : List (List Int)) : Prop := ∀ j : Nat, j + 1 < bs.length → cmpL (row bs j) (row bs (j + 1)) ≤ 0
set_option maxHeartbeats 1000000 in
theorem isSortedFunc_any (A : Option Addr) (n c : Nat) (bs : List (List Int)) (w : World) (ha : RR w A n bs) (hn : n ≤ 9223372036854775807) :
    Calls Tryz.prog 133 #[.slice A n c, .func (.func 85) #[] #[]] w (Quiet w (.bool (tB (sortedR bs)))) := by
  have hla := Lib.hid ha.len
  have e0 : IntKind.i64.wrap ((n : Int) - 1) = (n : Int) - 1 := IntWalk.i64_in _ (by omega)
  go_enter Tryz.func133, Tryz.ntmps133
  go_wp2
  go_loopw [5] (fun i wr => ∃ x : Int, i = .int .i64 x ∧ x < n ∧ -1 ≤ x ∧ Drawn w wr ∧ Hid (sortedTo bs x)) (fun i _ => (intOf i).toNat)
  case atStart => exact ⟨(n : Int) - 1, rfl, by omega, by omega, Drawn.refl _, Lib.hid fun j h1 h2 => absurd h2 (by rw [hla.out]; omega)⟩
  case round =>
    obtain ⟨x, rfl, hx1, hx2, hd, hs⟩ := hrel
    by_cases h0 : 0 < x
    · obtain ⟨k, rfl⟩ : ∃ k : Nat, x = k := ⟨x.toNat, by omega⟩
      obtain ⟨a, A1, n1, c1, rfl, hca, hn1, hc1, ha1⟩ := (ha.drawn hd).get (show k < n by omega)
      obtain ⟨b, A2, n2, c2, hb', hcb, hn2, hc2, ha2⟩ := (ha.drawn hd).get (show k - 1 < n by omega)
      obtain rfl : a = b := by injection hb'
      clear hb'
      have e1 : IntKind.i64.wrap ((k : Int) - 1) = (k : Int) - 1 := IntWalk.i64_in _ (by omega)
      have e2 : ((k : Int) - 1).toNat = k - 1 := by omega
      have e3 : (0 : Int) ≤ (k : Int) - 1 := by omega
      have hcall : ∀ q, Calls Tryz.prog 85 #[.slice A1 n1 c1, .slice A2 n2 c2] (wr.drewN q) (Quiet (wr.drewN q) (.int .i64 (cmpL (row bs k) (row bs (k - 1))))) := fun q =>
        (slicesCompare_any A1 A2 n1 n2 c1 c2 _ _ _ (ha1.drewN q) (ha2.drewN q) (by omega) (by omega)).mono fun _ _ h => Quiet.of_same h
      have hsw := cmpL_swap (row bs (k - 1)) (row bs k)
      by_cases h1 : cmpL (row bs k) (row bs (k - 1)) < 0
      · have H := Lib.hid (show tB (sortedR bs) = false from tB_no fun hh => by
          have := hh (k - 1) (by rw [hla.out]; omega)
          rw [show k - 1 + 1 = k by omega] at this
          omega)
        clear hsw
        go_wp2
        go_quiet ((go_at_call 85; exact Quiet.call (hcall _)))
        clear e0 e1 e2 e3
        go_wp2
        go_ret
        exact ⟨by rw [H.out]; rfl, hd.more _⟩
      · have h1' : 0 ≤ cmpL (row bs k) (row bs (k - 1)) := by omega
        have H := Lib.hid (show sortedTo bs ((k : Int) - 1) from fun j hj1 hj2 => by
          rcases Nat.lt_or_ge j k with h | h
          · have : j = k - 1 := by omega
            rw [this, show k - 1 + 1 = k by omega]
            omega
          · exact hs.out j (by omega) hj2)
        clear hsw hs
        go_wp2
        go_quiet ((go_at_call 85; exact Quiet.call (hcall _)))
        go_wp2
        go_roundw
        case rel => exact ⟨(k : Int) - 1, rfl, by omega, by omega, hd.more _, H⟩
        case measure => simp [intOf]; omega
    · have H := Lib.hid (show tB (sortedR bs) = true from tB_yes fun j hj => hs.out j (by omega) hj)
      clear hs e0
      go_wp2
      go_ret
      exact ⟨by rw [H.out]; rfl, hd⟩
theorem design_iff (v : Int) (bs : List (List Int)) : Design v bs ↔ (1 ≤ v ∧ v ≤ 32) ∧ allBlk bs v ∧ bs.length ≤ 128 ∧ sortedR bs :=
  ⟨fun h => ⟨⟨h.v1, h.v2⟩, h.blk, h.len, h.ord⟩, fun h => ⟨h.1.1, h.1.2, h.2.2.1, h.2.1, h.2.2.2⟩⟩
set_option maxHeartbeats 1000000 in
theorem validDesign_any (v : Int) (A : Option Addr) (n c : Nat) (bs : List (List Int)) (w : World) (ha : RR w A n bs) (hn : n ≤ 9223372036854775807) :
    Calls Tryz.prog 68 #[.agg #[.int .i64 v, .slice A n c]] w (RetB w (tB (Design v bs))) := by
  have hla := Lib.hid ha.len
  have hb1 := below_alloc w (.cells #[.int .i64 v, .slice A n c] 56)
  have B1 := Blk.new w 56 #[.int .i64 v, .slice A n c]
  have HD := Lib.hid (design_iff v bs)
  have hcall := areBlocks_any A n c bs v _ (ha.keep hb1) hn
  cases h1 : inB v 1 32 && tB (allBlk bs v) with
  | false =>
    rw [h1] at hcall
    have H := Lib.hid (show tB (Design v bs) = false from tB_no fun hh => by
      have := HD.out.1 hh
      rw [inB_mk this.1, tB_yes this.2.1] at h1
      cases h1)
    clear h1
    go_enter Tryz.func68, Tryz.ntmps68
    go_wp2_with (go_at_call 132; refine hcall.mono ?_; rintro e w1 ⟨rfl, hb2⟩)
    go_ret
    exact ⟨by rw [H.out]; rfl, below_then hb1 hb2⟩
  | true =>
    rw [h1] at hcall
    have hv := Lib.hid (show (1 ≤ v ∧ v ≤ 32) ∧ allBlk bs v by
      rw [Bool.and_eq_true] at h1
      exact ⟨inB_true h1.1, tB_true.1 h1.2⟩)
    clear h1
    by_cases h2 : n ≤ 128
    · have H := Lib.hid (show tB (sortedR bs) = tB (Design v bs) from tB_congr ⟨fun h => HD.out.2 ⟨hv.out.1, hv.out.2, by rw [hla.out]; exact h2, h⟩, fun h => (HD.out.1 h).2.2.2⟩)
      go_enter Tryz.func68, Tryz.ntmps68
      go_wp2_with fail
      refine hcall.mono ?_
      rintro e w1 ⟨rfl, hb2⟩
      obtain ⟨x0, x1⟩ := (B1.after hb2).cells2
      have hw := below_then hb1 hb2
      clear B1 hb1 hb2
      go_wp2_with (go_at_call 133; refine (isSortedFunc_any A n c bs _ (ha.keep hw) hn).mono ?_; rintro e w2 ⟨rfl, hd2⟩)
      go_ret
      exact ⟨by rw [← H.out]; rfl, hw.trans (hd2.below.mono hw.size)⟩
    · have H := Lib.hid (show tB (Design v bs) = false from tB_no fun hh => h2 (by have := hh.len; rw [hla.out] at this; exact this))
      have h2' : 128 < n := by omega
      go_enter Tryz.func68, Tryz.ntmps68
      go_wp2_with fail
      refine hcall.mono ?_
      rintro e w1 ⟨rfl, hb2⟩
      obtain ⟨x0, x1⟩ := (B1.after hb2).cells2
      have hw := below_then hb1 hb2
      clear B1 hb1 hb2
      go_wp2
      go_ret
      exact ⟨by rw [H.out]; rfl, hw⟩
def blkTo (bs : List (List Int)) (v : Int) (k : Nat) : Prop := (∀ i, i < k → Block (row bs i) v) ∧ ∀ i, i + 1 < k → cmpL (row bs i) (row bs (i + 1)) ≤ 0
theorem blkTo_step {bs : List (List Int)} {v : Int} {k : Nat} (h : blkTo bs v k) (h1 : Block (row bs k) v) (h2 : 0 < k → cmpL (row bs (k - 1)) (row bs k) ≤ 0) : blkTo bs v (k + 1) :=
  ⟨fun j hj => by
    rcases Nat.lt_succ_iff_lt_or_eq.1 hj with h' | h'
    · exact h.1 j h'
    · rw [h']; exact h1,
   fun j hj => by
    rcases Nat.lt_succ_iff_lt_or_eq.1 hj with h' | h'
    · exact h.2 j h'
    · have := h2 (by omega)
      have e : k = j + 1 := h'.symm
      subst e
      simpa using this⟩
set_option maxRecDepth 100000 in
set_option maxHeartbeats 2000000 in
theorem l10Ok_any (g : Nat) (v : Int) (A : Option Addr) (n c : Nat) (bs : List (List Int)) (w : World) (hB : Blk w g 56 #[.int .i64 v, .slice A n c]) (ha : RR w A n bs) (hn : n ≤ 9223372036854775807) :
    Calls Tryz.prog 67 #[.pointer (some ⟨g, 0, none⟩)] w (Quiet w (.bool (tB (Design v bs)))) := by
  have hla := Lib.hid ha.len
  obtain ⟨x0, x1⟩ := hB.cells2
  cases h1 : inB v 1 32 with
  | false =>
    have H := Lib.hid (show tB (Design v bs) = false from tB_no fun hh => by rw [inB_mk ⟨hh.v1, hh.v2⟩] at h1; cases h1)
    go_enter Tryz.func67, Tryz.ntmps67
    go_wp2_with (go_at_call 37; refine (l00In_any _ _ _ _).mono ?_; rintro e w' ⟨rfl, rfl⟩; rw [h1])
    go_ret
    exact ⟨by rw [H.out]; rfl, Drawn.refl _⟩
  | true =>
    obtain ⟨v1, v2⟩ := inB_true h1
    by_cases h2 : n ≤ 128
    · go_enter Tryz.func67, Tryz.ntmps67
      go_wp2_with (go_at_call 37; refine (l00In_any _ _ _ _).mono ?_; rintro e w' ⟨rfl, rfl⟩; rw [h1])
      go_loopw [3] (fun i wr => ∃ k : Nat, k ≤ n ∧ i = .int .i64 k ∧ Drawn w wr ∧ blkTo bs v k) (fun i _ => n - (intOf i).toNat)
      case atStart => exact ⟨0, Nat.zero_le _, rfl, Drawn.refl _, fun _ h => absurd h (by omega), fun _ h => absurd h (by omega)⟩
      case round =>
        obtain ⟨k, hk, rfl, hd, hto⟩ := hrel
        clear x0 x1
        obtain ⟨x0, x1⟩ := (hB.after hd.below).cells2
        by_cases hlt : k < n
        · obtain ⟨a, A1, n1, c1, rfl, hca, hn1, hc1, ha1⟩ := (ha.drawn hd).get hlt
          cases h3 : tB (Block (row bs k) v) with
          | false =>
            have hcall : ∀ q, Calls Tryz.prog 130 #[.slice A1 n1 c1, .int .i64 v] (wr.drewN q) (Quiet (wr.drewN q) (.bool false)) := fun q => by
              rw [← h3]; exact l10Block_any A1 n1 c1 _ v _ (ha1.drewN q) (by omega) v1 (by omega)
            have H := Lib.hid (show tB (Design v bs) = false from tB_no fun hh => by
              rw [tB_yes (hh.blk k (by rw [hla.out]; exact hlt))] at h3; cases h3)
            clear hto h3
            go_wp2
            go_quiet ((go_at_call 130; exact Quiet.call (hcall _)))
            go_wp2
            go_ret
            exact ⟨by rw [H.out]; rfl, hd.more _⟩
          | true =>
            have hcall : ∀ q, Calls Tryz.prog 130 #[.slice A1 n1 c1, .int .i64 v] (wr.drewN q) (Quiet (wr.drewN q) (.bool true)) := fun q => by
              rw [← h3]; exact l10Block_any A1 n1 c1 _ v _ (ha1.drewN q) (by omega) v1 (by omega)
            have hbk := Lib.hid (tB_true.1 h3)
            clear h3
            by_cases h0 : k ≤ 0
            · have g1 : decide ((0 : Int) < (k : Int)) = false := by simp; omega
              have g2 : decide (0 < k) = false := by simp; omega
              have H := Lib.hid (blkTo_step hto hbk.out (fun h => absurd h (by omega)))
              clear hto
              go_wp2
              go_quiet ((go_at_call 130; exact Quiet.call (hcall _)))
              go_wp2
              go_roundw
              case rel => exact ⟨k + 1, by omega, by go_num, hd.more _, H.out⟩
              case measure => simp [intOf]; omega
            · have h0' : 0 < k := by omega
              obtain ⟨b, A2, n2, c2, hb', hcb, hn2, hc2, ha2⟩ := (ha.drawn hd).get (show k - 1 < n by omega)
              obtain rfl : a = b := by injection hb'
              clear hb' h0
              have hcall2 : ∀ q, Calls Tryz.prog 131 #[.slice A2 n2 c2, .slice A1 n1 c1] (wr.drewN q) (Quiet (wr.drewN q) (.int .i64 (cmpL (row bs (k - 1)) (row bs k)))) := fun q =>
                compareLists_any A2 A1 n2 n1 c2 c1 _ _ _ (ha2.drewN q) (ha1.drewN q) (by omega) (by omega)
              have e1 : IntKind.i64.wrap ((k : Int) - 1) = (k : Int) - 1 := IntWalk.i64_in _ (by omega)
              have e2 : ((k : Int) - 1).toNat = k - 1 := by omega
              have e3 : (0 : Int) ≤ (k : Int) - 1 := by omega
              by_cases h4 : cmpL (row bs (k - 1)) (row bs k) ≤ 0
              · have h4' : decide (0 < cmpL (row bs (k - 1)) (row bs k)) = false := by simp; omega
                have H := Lib.hid (blkTo_step hto hbk.out (fun _ => h4))
                clear hto
                go_wp2
                go_quiet ((first | (go_at_call 130; exact Quiet.call (hcall _)) | (go_at_call 131; exact Quiet.call (hcall2 _))))
                clear e1 e2 e3
                go_wp2
                go_roundw
                case rel => exact ⟨k + 1, by omega, by go_num, hd.more _, H.out⟩
                case measure => simp [intOf]; omega
              · have h4' : decide (0 < cmpL (row bs (k - 1)) (row bs k)) = true := by simp; omega
                have H := Lib.hid (show tB (Design v bs) = false from tB_no fun hh => by
                  have := hh.ord (k - 1) (by rw [hla.out]; omega)
                  rw [show k - 1 + 1 = k by omega] at this
                  exact h4 this)
                clear hto
                go_wp2
                go_quiet ((first | (go_at_call 130; exact Quiet.call (hcall _)) | (go_at_call 131; exact Quiet.call (hcall2 _))))
                clear e1 e2 e3
                go_wp2
                go_ret
                exact ⟨by rw [H.out]; rfl, hd.more _⟩
        · have H := Lib.hid (show tB (Design v bs) = true from tB_yes ⟨v1, v2, by rw [hla.out]; exact h2, by rw [hla.out]; rw [show k = n by omega] at hto; exact hto.1, by rw [hla.out]; rw [show k = n by omega] at hto; exact hto.2⟩)
          clear hto
          go_wp2
          go_ret
          exact ⟨by rw [H.out]; rfl, hd⟩
    · have H := Lib.hid (show tB (Design v bs) = false from tB_no fun hh => h2 (by have := hh.len; rw [hla.out] at this; exact this))
      have h2' : 128 < n := by omega
      go_enter Tryz.func67, Tryz.ntmps67
      go_wp2_with (go_at_call 37; refine (l00In_any _ _ _ _).mono ?_; rintro e w' ⟨rfl, rfl⟩; rw [h1])
      go_ret
      exact ⟨by rw [H.out]; rfl, Drawn.refl _⟩
end Go.Proofs.YtdkbcjdimhgmnaaGreat
namespace Go.Proofs.YtdkbcjdimhgmnaaGreat
def dsC (v m : Nat) : List Int := List.replicate v 0 ++ List.replicate m 1
theorem dsC_len (v m : Nat) : (dsC v m).length = v + m := by simp [dsC]
def dsJ (v : Nat) (bs : List (List Int)) (k j : Nat) : List Ed := ((row bs k).take j).map fun x => (x, ((v + k : Nat) : Int))
def dsK (v : Nat) (bs : List (List Int)) (k : Nat) : List Ed := (List.range k).flatMap fun i => (row bs i).map fun x => (x, ((v + i : Nat) : Int))
theorem dsK_step (v : Nat) (bs : List (List Int)) (k : Nat) : dsK v bs (k + 1) = dsK v bs k ++ dsJ v bs k (row bs k).length := by
  unfold dsK dsJ
  rw [List.take_length, List.range_succ, List.flatMap_append]
  simp
theorem dsJ_zero (v : Nat) (bs : List (List Int)) (k : Nat) : dsJ v bs k 0 = [] := by simp [dsJ]
theorem dsJ_step (v : Nat) (bs : List (List Int)) {k j : Nat} (h : j < (row bs k).length) : dsJ v bs k (j + 1) = dsJ v bs k j ++ [(nth (row bs k) j, ((v + k : Nat) : Int))] := by
  unfold dsJ
  rw [List.take_succ_eq_append_getElem h, List.map_append, nth_get h]
  rfl
def dsX (v : Nat) (bs : List (List Int)) (x j : Nat) : List Ed := ((List.range j).filter fun i => (row bs i).contains (x : Int)).map fun i => ((x : Int), ((v + i : Nat) : Int))
def dsE (v : Nat) (bs : List (List Int)) (k : Nat) : List Ed := (List.range k).flatMap fun x => dsX v bs x bs.length
theorem dsE_step (v : Nat) (bs : List (List Int)) (k : Nat) : dsE v bs (k + 1) = dsE v bs k ++ dsX v bs k bs.length := by simp [dsE, List.range_succ, List.flatMap_append]
theorem dsX_len (v : Nat) (bs : List (List Int)) (x j : Nat) : (dsX v bs x j).length ≤ j := by
  unfold dsX
  rw [List.length_map]
  exact Nat.le_trans (List.length_filter_le _ _) (by simp)
theorem dsE_len (v : Nat) (bs : List (List Int)) (k : Nat) : (dsE v bs k).length ≤ k * bs.length := by
  induction k with
  | zero => simp [dsE]
  | succ k ih =>
    have := dsX_len v bs k bs.length
    rw [dsE_step, List.length_append, Nat.succ_mul]; omega
structure Sets (v : Nat) (bs : List (List Int)) : Prop where
  v2 : (v : Int) ≤ 32
  len : bs.length ≤ 256
  blk : ∀ i, i < bs.length → (row bs i).Pairwise (fun x y => x < y) ∧ ∀ x ∈ row bs i, 0 ≤ x ∧ x < (v : Int)
  short : ∀ i, i < bs.length → (row bs i).length ≤ 32
section
variable {v : Nat} {bs : List (List Int)}
theorem ds_block (h : Design (v : Int) bs) {i : Nat} (hi : i < bs.length) : (row bs i).Pairwise (fun x y => x < y) ∧ ∀ x ∈ row bs i, 0 ≤ x ∧ x < (v : Int) := by
  have hb := (h.blk i hi).2
  have hs : ∀ d j, j + 1 + d < (row bs i).length → nth (row bs i) j < nth (row bs i) (j + 1 + d) := by
    intro d
    induction d with
    | zero => intro j hj; exact hb.up j hj
    | succ d ih =>
      intro j hj
      have h1 := ih j (by omega)
      have h2 := hb.up (j + 1 + d) (by omega)
      rw [show j + 1 + (d + 1) = j + 1 + d + 1 by omega]
      omega
  refine ⟨List.pairwise_iff_getElem.2 fun a b ha hb' hab => ?_, fun x hx => ?_⟩
  · have := hs (b - a - 1) a (by omega)
    rw [show a + 1 + (b - a - 1) = b by omega, nth_get ha, nth_get hb'] at this
    exact this
  · obtain ⟨k, hk, rfl⟩ := mem_nth hx
    have := hb.bd k hk
    omega
theorem dsK_mem (e : Ed) : e ∈ dsK v bs bs.length ↔ ∃ i, i < bs.length ∧ e.1 ∈ row bs i ∧ e.2 = ((v + i : Nat) : Int) := by
  unfold dsK
  simp only [List.mem_flatMap, List.mem_range, List.mem_map]
  constructor
  · rintro ⟨i, hi, x, hx, rfl⟩; exact ⟨i, hi, hx, rfl⟩
  · rintro ⟨i, hi, hx, he⟩; exact ⟨i, hi, e.1, hx, Prod.ext rfl he.symm⟩
theorem dsE_mem (e : Ed) : e ∈ dsE v bs v ↔ ∃ x i : Nat, x < v ∧ i < bs.length ∧ (x : Int) ∈ row bs i ∧ e = ((x : Int), ((v + i : Nat) : Int)) := by
  unfold dsE dsX
  simp only [List.mem_flatMap, List.mem_range, List.mem_map, List.mem_filter]
  constructor
  · rintro ⟨x, hx, i, ⟨hi, hh⟩, rfl⟩; exact ⟨x, i, hx, hi, by simpa using hh, rfl⟩
  · rintro ⟨x, i, hx, hi, hh, rfl⟩; exact ⟨x, hx, i, ⟨hi, by simpa using hh⟩, rfl⟩
theorem dsE_strict : StrictL cmpE (dsE v bs v) := by
  unfold StrictL dsE
  rw [List.pairwise_flatMap]
  refine ⟨fun x _ => ?_, List.pairwise_lt_range.imp fun {x y} hxy u hu w hw => ?_⟩
  · unfold dsX
    rw [List.pairwise_map]
    refine (List.pairwise_lt_range.filter _).imp fun {i j} h => (cmpE_neg _ _).2 ?_
    exact .inr ⟨rfl, by simp only []; omega⟩
  · unfold dsX at hu hw
    obtain ⟨_, _, rfl⟩ := List.mem_map.1 hu
    obtain ⟨_, _, rfl⟩ := List.mem_map.1 hw
    exact (cmpE_neg _ _).2 (.inl (by simp only []; omega))
theorem ds_same (h : Sets v bs) (e : Ed) : e ∈ dsE v bs v ↔ e ∈ dsK v bs bs.length := by
  rw [dsE_mem, dsK_mem]
  constructor
  · rintro ⟨x, i, hx, hi, hh, rfl⟩; exact ⟨i, hi, hh, rfl⟩
  · rintro ⟨i, hi, hh, he⟩
    have := (h.blk _ hi).2 _ hh
    refine ⟨e.1.toNat, i, by omega, hi, by rw [Int.toNat_of_nonneg this.1]; exact hh, ?_⟩
    rw [Int.toNat_of_nonneg this.1]
    exact Prod.ext rfl he
theorem ds_edges (h : Sets v bs) : setG cmpE (dsK v bs bs.length) = dsE v bs v := setG_eq cmpE_ord dsE_strict (ds_same h)
theorem dsK_lt (h : Sets v bs) : ∀ e ∈ dsK v bs bs.length, 0 ≤ e.1 ∧ e.1 < e.2 := fun e he => by
  obtain ⟨i, hi, hh, h2⟩ := (dsK_mem e).1 he
  have := (h.blk _ hi).2 _ hh
  omega
theorem dsK_nodup (h : Sets v bs) : (dsK v bs bs.length).Nodup := by
  unfold dsK
  rw [List.Nodup, List.pairwise_flatMap]
  refine ⟨fun i hi => ?_, List.pairwise_lt_range.imp fun {i j} hij u hu w hw => ?_⟩
  · rw [List.pairwise_map]
    refine (h.blk _ (List.mem_range.1 hi)).1.imp fun {x y} hxy e => ?_
    simp only [Prod.mk.injEq] at e
    omega
  · obtain ⟨_, _, rfl⟩ := List.mem_map.1 hu
    obtain ⟨_, _, rfl⟩ := List.mem_map.1 hw
    intro e
    simp only [Prod.mk.injEq] at e
    omega
theorem ds_length (h : Sets v bs) : (dsK v bs bs.length).length = (dsE v bs v).length :=
  ((List.perm_ext_iff_of_nodup (dsK_nodup h) (strict_nodup cmpE_ord dsE_strict)).2 fun e => (ds_same h e).symm).length_eq
end
end Go.Proofs.YtdkbcjdimhgmnaaGreat
namespace Go.Proofs.YtdkbcjdimhgmnaaGreat
open Go.RowKit
theorem rises_ge {z : List Int} {hi : Int} (h : Rises z 0 hi) : ∀ k, k < z.length → (k : Int) ≤ nth z k := by
  intro k
  induction k with
  | zero => intro hk; exact (h.bd 0 hk).1
  | succ k ih =>
    intro hk
    have h1 := ih (by omega)
    have h2 := h.up k hk
    omega
theorem ds_row {v : Nat} {bs : List (List Int)} (h : Design (v : Int) bs) {i : Nat} (hi : i < bs.length) : (row bs i).length ≤ 32 := by
  obtain ⟨h1, h2⟩ := h.blk i hi
  have h3 := rises_ge h2 ((row bs i).length - 1) (by omega)
  have h4 := h2.bd ((row bs i).length - 1) (by omega)
  have h5 := h.v2
  omega
theorem Design.sets {v : Nat} {bs : List (List Int)} (h : Design (v : Int) bs) : Sets v bs := ⟨h.v2, by have := h.len; omega, fun i hi => ds_block h hi, fun i hi => ds_row h hi⟩
def twoTo (z o k : Nat) : List Int := List.replicate z 0 ++ (List.replicate k 1 ++ List.replicate (o - k) 0)
theorem twoTo_zero (z o : Nat) : twoTo z o 0 = List.replicate (z + o) 0 := by simp [twoTo]
theorem twoTo_all (z o : Nat) : twoTo z o o = dsC z o := by simp [twoTo, dsC]
theorem twoTo_step {z o k : Nat} (h : k < o) : (twoTo z o k).set (z + k) 1 = twoTo z o (k + 1) := by
  unfold twoTo
  rw [List.set_append_right _ _ (by simp), List.length_replicate, Nat.add_sub_cancel_left, List.set_append_right _ _ (by simp), List.length_replicate, Nat.sub_self, show o - k = (o - (k + 1)) + 1 by omega, List.replicate_succ, List.set_cons_zero, List.replicate_succ', List.append_assoc]
  rfl
theorem twoTo_at {z o j : Nat} (h1 : z ≤ j) (h2 : j < z + o) : (twoTo z o (j - z)).set j 1 = twoTo z o (j + 1 - z) := by
  have := twoTo_step (z := z) (o := o) (k := j - z) (by omega)
  rw [show z + (j - z) = j by omega, show j - z + 1 = j + 1 - z by omega] at this
  exact this
set_option maxRecDepth 100000 in
set_option maxHeartbeats 1000000 in
theorem twoColors_any (z o : Nat) (w : World) (h : z + o ≤ 4096) :
    Calls Tryz.prog 72 #[.int .i64 z, .int .i64 o] w (fun e w' => ∃ A c, e = .returned (.slice A (z + o) c) ∧ OI w' w.heap.size 2 A (z + o) c (dsC z o) ∧ Below w.heap.size w w') := by
  have hmk := run_make_row' (P := Tryz.prog) 22 2 (.int .i64 0) 8 Tryz.underlying22 int_info rfl .i64 .i64 (z + o) (by omega) (by omega)
  have ho0 := OI.made w w.heap.size 2 (z + o) (Nat.le_refl _) (by omega)
  rw [← twoTo_zero z o] at ho0
  have hb0 := below_alloc w (.cells (madeCells #[.int .i64 0] (z + o)) 2)
  obtain ⟨q, hq⟩ : ∃ q : Nat, z + o = q := ⟨_, rfl⟩
  have hqI : (z : Int) + (o : Int) = (q : Int) := by omega
  rw [hq] at hmk ho0 hb0
  have HQ := Lib.hid hq
  go_enter Tryz.func72, Tryz.ntmps72
  go_wp2
  go_loopw [6] (fun i wr => ∃ j : Nat, z ≤ j ∧ j ≤ q ∧ i = .int .i64 j ∧ OI wr w.heap.size 2 (some ⟨w.heap.size, 0, none⟩) q q (twoTo z o (j - z)) ∧ Below w.heap.size w wr) (fun i _ => q - (intOf i).toNat)
  case atStart => exact ⟨z, Nat.le_refl _, by omega, rfl, by rw [Nat.sub_self]; exact ho0, hb0⟩
  case round =>
    clear ho0 hb0 hmk
    obtain ⟨j, hzj, hj, rfl, ho, hw⟩ := hrel
    by_cases hlt : j < q
    · have hst := Lib.hid (twoTo_at (z := z) (o := o) hzj (by omega))
      obtain ⟨g, hg, cc, cf, -⟩ := ho.cell hlt
      cases hg
      have ho2 := ho.set j (u := 1) ⟨by omega, by omega⟩
      rw [hst.out] at ho2
      have hw2 := Below.setCell hw (p := ⟨w.heap.size, j, none⟩) (Nat.le_refl _) (.int .i64 1)
      clear ho hw
      go_wp2
      go_roundw
      case rel => exact ⟨j + 1, by omega, by omega, by go_num, ho2, hw2⟩
      case measure => simp [intOf]; omega
    · have hjq : j = q := by omega
      rw [hjq, ← HQ.out, show z + o - z = o by omega, twoTo_all] at ho
      go_wp2
      go_ret
      rw [HQ.out] at ho ⊢
      exact ⟨_, _, rfl, ho, hw⟩
def dsF (v : Nat) (bs : List (List Int)) : Bool := decide (64 < v + bs.length) || decide (512 < (dsE v bs v).length)
def dgC (v : Nat) (bs : List (List Int)) : List Int := if dsF v bs then [] else dsC v bs.length
def dgE (v : Nat) (bs : List (List Int)) : List Ed := if dsF v bs then [] else dsE v bs v
def dgK (v : Nat) (bs : List (List Int)) : Int := if dsF v bs then 5 else 0
theorem dsF_yes {v : Nat} {bs : List (List Int)} (h : 64 < v + bs.length ∨ 512 < (dsE v bs v).length) : dsF v bs = true := by
  unfold dsF
  rcases h with h | h <;> simp [h]
theorem dsF_no {v : Nat} {bs : List (List Int)} (h1 : v + bs.length ≤ 64) (h2 : (dsE v bs v).length ≤ 512) : dsF v bs = false := by
  unfold dsF
  simp [h1, h2]
theorem dg_yes {v : Nat} {bs : List (List Int)} (h : 64 < v + bs.length ∨ 512 < (dsE v bs v).length) : dgC v bs = [] ∧ dgE v bs = [] ∧ dgK v bs = 5 := by
  simp [dgC, dgE, dgK, dsF_yes h]
theorem dg_no {v : Nat} {bs : List (List Int)} (h1 : v + bs.length ≤ 64) (h2 : (dsE v bs v).length ≤ 512) : dgC v bs = dsC v bs.length ∧ dgE v bs = dsE v bs v ∧ dgK v bs = 0 := by
  simp [dgC, dgE, dgK, dsF_no h1 h2]
theorem dsK_mm {v : Nat} {bs : List (List Int)} (h : Sets v bs) : (dsK v bs bs.length).map mmP = dsK v bs bs.length := by
  rw [List.map_congr_left (g := id) fun e he => ?_, List.map_id]
  have := dsK_lt h e he
  exact Prod.ext (by simp only [mmP, mmE, id]; omega) (by simp only [mmP, mmE, id]; omega)
set_option maxRecDepth 100000 in
set_option maxHeartbeats 1000000 in
theorem graphOf_full (A : Option Addr) (n c : Nat) (F : Option Addr) (m d : Nat) (w : World) (h : 64 < n ∨ 512 < m) (hn : n ≤ 4096) (hm : m ≤ 65536) :
    Calls Tryz.prog 114 #[.slice A n c, .slice F m d] w (fun e w' => e = .returned (.tuple #[.agg #[.slice none 0 0, .slice none 0 0], .int .i64 5]) ∧ Below w.heap.size w w') := by
  have hb1 := below_alloc w (.cells #[.slice none 0 0, .slice none 0 0] 46)
  have Y := Blk.new w 46 #[.slice none 0 0, .slice none 0 0]
  obtain ⟨y0, y1⟩ := Y.cells2
  have f0 := Y.frozen 0
  have f1 := Y.frozen 1
  have YF := (Y.set_ 0 (.slice none 0 0)).set_ 1 (.slice none 0 0)
  obtain ⟨z0, z1⟩ : ((((w.alloc (.cells #[.slice none 0 0, .slice none 0 0] 46)).setCell ⟨w.heap.size, 0, none⟩ (.slice none 0 0)).setCell ⟨w.heap.size, 1, none⟩ (.slice none 0 0)).cell? ⟨w.heap.size, 0, none⟩ = some (.slice none 0 0)) ∧ ((((w.alloc (.cells #[.slice none 0 0, .slice none 0 0] 46)).setCell ⟨w.heap.size, 0, none⟩ (.slice none 0 0)).setCell ⟨w.heap.size, 1, none⟩ (.slice none 0 0)).cell? ⟨w.heap.size, 1, none⟩ = some (.slice none 0 0)) := ⟨YF.cell 0, YF.cell 1⟩
  by_cases h1 : 64 < n
  · clear h
    go_enter Tryz.func114, Tryz.ntmps114
    go_wp2
    refine bodyPost_ret (v := .tuple #[.agg #[.slice none 0 0, .slice none 0 0], .int .i64 5]) (by simp [results, Tryz.results114, go_sem, z0, z1, Blk.cell]) rfl ?_
    exact ⟨rfl, by first | exact (hb1.setCell (p := ⟨w.heap.size, 0, none⟩) (Nat.le_refl _) _).setCell (p := ⟨w.heap.size, 1, none⟩) (Nat.le_refl _) _ | exact hb1⟩
  · have h2 : 512 < m := by omega
    clear h
    go_enter Tryz.func114, Tryz.ntmps114
    go_wp2
    refine bodyPost_ret (v := .tuple #[.agg #[.slice none 0 0, .slice none 0 0], .int .i64 5]) (by simp [results, Tryz.results114, go_sem, z0, z1, Blk.cell]) rfl ?_
    exact ⟨rfl, by first | exact (hb1.setCell (p := ⟨w.heap.size, 0, none⟩) (Nat.le_refl _) _).setCell (p := ⟨w.heap.size, 1, none⟩) (Nat.le_refl _) _ | exact hb1⟩
theorem graphOf_dsg (v : Nat) (bs : List (List Int)) (hD : Sets v bs) (B : Nat) (A : Option Addr) (c : Nat) (F : Option Addr) (m d : Nat) (w : World) (hB : B ≤ w.heap.size) (ha : OI w B 2 A (v + bs.length) c (dsC v bs.length)) (hf : RE w F m (dsK v bs bs.length)) (hm : m ≤ 65536) :
    Calls Tryz.prog 114 #[.slice A (v + bs.length) c, .slice F m d] w (fun e w' => ∃ A' n' c' F' m' d', e = .returned (.tuple #[.agg #[.slice A' n' c', .slice F' m' d'], .int .i64 (dgK v bs)]) ∧ OI w' B 2 A' n' c' (dgC v bs) ∧ OE w' B 113 F' m' d' (dgE v bs) ∧ n' ≤ 64 ∧ m' ≤ 512 ∧ Below w.heap.size w w') := by
  have hl : (dsE v bs v).length = m := by rw [← ds_length hD, hf.len]
  have l1 := hD.v2
  have l2 := hD.len
  by_cases h : 64 < v + bs.length ∨ 512 < (dsE v bs v).length
  · obtain ⟨e1, e2, e3⟩ := dg_yes h
    rw [e1, e2, e3]
    rw [hl] at h
    refine (graphOf_full A (v + bs.length) c F m d w h (by omega) hm).mono ?_
    rintro e w' ⟨rfl, hb⟩
    exact ⟨none, 0, 0, none, 0, 0, rfl, OI.nil_ _ _ _, OE.nil_ _ _ _, by omega, by omega, hb⟩
  · obtain ⟨e1, e2, e3⟩ := dg_no (v := v) (bs := bs) (by omega) (by omega)
    rw [e1, e2, e3]
    have hg := graphOf_any B A (v + bs.length) c F m d (dsC v bs.length) (dsK v bs bs.length) w hB ha hf (by omega) (by omega) (by rw [dsK_mm hD]; exact dsK_nodup hD)
    rw [dsK_mm hD, ds_edges hD] at hg
    refine hg.mono ?_
    rintro e w' ⟨F', d', rfl, h1, h2, h3⟩
    exact ⟨A, _, c, F', m, d', rfl, h1, h2, by omega, by omega, h3⟩
set_option maxRecDepth 100000 in
set_option maxHeartbeats 2000000 in
theorem setGraph_any (v : Nat) (A : Option Addr) (n c : Nat) (bs : List (List Int)) (w : World) (ha : RR w A n bs) (hD : Sets v bs) :
    Calls Tryz.prog 56 #[.int .i64 v, .slice A n c] w (fun e w' => ∃ A' n' c' F' m' d', e = .returned (.tuple #[.agg #[.slice A' n' c', .slice F' m' d'], .int .i64 (dgK v bs)]) ∧ OI w' w.heap.size 2 A' n' c' (dgC v bs) ∧ OE w' w.heap.size 113 F' m' d' (dgE v bs) ∧ n' ≤ 64 ∧ m' ≤ 512 ∧ Below w.heap.size w w') := by
  have hla := Lib.hid ha.len
  have HD := Lib.hid hD
  have l1 := hD.v2
  have l2 : n ≤ 256 := by rw [← ha.len]; exact hD.len
  have HRow := Lib.hid (fun (i : Nat) (h : i < n) => hD.short i (by rw [ha.len]; exact h))
  clear hD
  have hb1 := below_alloc w (.cells #[.slice none 0 0, .slice none 0 0] 46)
  have Y := Blk.new w 46 #[.slice none 0 0, .slice none 0 0]
  go_enter Tryz.func56, Tryz.ntmps56
  go_wp2
  go_loopw [6, 13] (fun u i wr => ∃ (k : Nat) (F : Option Addr) (m d : Nat), k ≤ n ∧ i = .int .i64 k ∧ u = .slice F m d ∧ m ≤ k * 32 ∧ OE wr w.heap.size 113 F m d (dsK v bs k) ∧ Below w.heap.size w wr ∧ Blk wr w.heap.size 46 #[.slice none 0 0, .slice none 0 0]) (fun _ i _ => n - (intOf i).toNat)
  case atStart => exact ⟨0, none, 0, 0, Nat.zero_le _, rfl, rfl, Nat.le_refl _, OE.nil_ _ _ _, hb1, Y⟩
  case round =>
    clear hb1 Y
    obtain ⟨k, F, m, d, hk, rfl, rfl, hm, hf, hb, Y⟩ := hrel
    by_cases hlt : k < n
    · obtain ⟨ad, A1, m1, c1, rfl, hca, hn1, hc1, ha1⟩ := (ha.keep hb).get hlt
      have hla1 := Lib.hid ha1.len
      obtain ⟨ad0, B0, mm0, cc0, had0, hca0, hn0, hc0, ha0⟩ := ha.get hlt
      cases had0
      have hcc := below_cell hb hca0
      rw [hca] at hcc
      obtain ⟨rfl, rfl, rfl⟩ : A1 = B0 ∧ m1 = mm0 ∧ c1 = cc0 := by simpa using hcc
      have HKeep := Lib.hid (fun (w' : World) (h : Below w.heap.size w w') => ha0.keep h)
      clear hcc hca0 ha0
      have hrow : m1 ≤ 32 := by rw [← ha1.len]; exact HRow.out k hlt
      have hst := Lib.hid (show dsK v bs (k + 1) = dsK v bs k ++ dsJ v bs k m1 by rw [dsK_step, ha1.len])
      have hf' : OE wr w.heap.size 113 F m d (dsK v bs k ++ dsJ v bs k 0) := by rw [dsJ_zero, List.append_nil]; exact hf
      clear hf
      obtain ⟨ws, rfl⟩ : ∃ ws : World, ws = wr := ⟨_, rfl⟩
      go_wp2
      clear hca
      go_loopw [6, 20] (fun u i wr => ∃ (j : Nat) (F : Option Addr) (m d : Nat), j ≤ m1 ∧ i = .int .i64 j ∧ u = .slice F m d ∧ m ≤ k * 32 + j ∧ OE wr w.heap.size 113 F m d (dsK v bs k ++ dsJ v bs k j) ∧ Below w.heap.size w wr ∧ Blk wr w.heap.size 46 #[.slice none 0 0, .slice none 0 0] ∧ RI wr A1 m1 (row bs k)) (fun _ i _ => m1 - (intOf i).toNat)
      case atStart => exact ⟨0, F, m, d, Nat.zero_le _, rfl, rfl, by omega, hf', hb, Y, ha1⟩
      case round =>
        clear hf' hb Y hm ha1
        obtain ⟨j, F, m, d, hj, rfl, rfl, hm, hf, hb, Y, ha1⟩ := hrel
        by_cases hltj : j < m1
        · obtain ⟨bd, rfl, hcb, hib⟩ := ha1.get hltj
          have hstep := Lib.hid (show dsK v bs k ++ dsJ v bs k (j + 1) = (dsK v bs k ++ dsJ v bs k j) ++ [(nth (row bs k) j, (v : Int) + (k : Int))] by rw [dsJ_step v bs (by rw [hla1.out]; exact hltj), ← List.append_assoc]; simp)
          generalize nth (row bs k) j = x at *
          have i2 : I64 ((v : Int) + (k : Int)) := ⟨by omega, by omega⟩
          have L := RE.lit1 wr 113 x ((v : Int) + (k : Int)) hib i2
          have bb := below_alloc wr (.cells #[.int .i64 x, .int .i64 ((v : Int) + (k : Int))] 113)
          have hf1 := hf.below bb
          have Y1 := Y.after bb
          have hw1 := hb.trans (bb.mono hb.size)
          have ha2 := ha1.keep bb
          clear hf Y bb
          go_wp2_with (at_builtin; refine app_edges _ rfl _ _ rfl w.heap.size F m d _ rfl hf1 (some ⟨wr.heap.size, 0, none⟩) 1 1 [(x, (v : Int) + (k : Int))] rfl L (fun e he => by simp at he; subst he; exact ⟨hib, i2⟩) (by omega) hw1.size ?_; intro F' d' w3 ho3 hg3 hn3)
          have hw3 := below_own hw1 hg3 hw1.size (fun b hb => (hf1.os.lt hb).1)
          have Y3 := Y1.grown hg3 (OS.typed' hf1.os Y1 (by decide))
          rw [← hstep.out] at ho3
          have ha4 : RI w3 (some bd) m1 (row bs k) := HKeep.out w3 hw3
          go_roundw
          case rel => exact ⟨j + 1, F', m + 1, d', by omega, by go_num, rfl, by omega, ho3, hw3, Y3, ha4⟩
          case measure => simp [intOf]; omega
        · obtain rfl : j = m1 := by omega
          rw [← hst.out] at hf
          go_wp2
          go_roundw
          case rel => exact ⟨k + 1, F, m, d, by omega, by go_num, rfl, by omega, hf, hb, Y⟩
          case measure => simp [intOf]; omega
    · obtain rfl : k = n := by omega
      have hlk := hla.out
      rw [← hlk] at hf
      have HTC := Lib.hid (fun (w' : World) => twoColors_any v bs.length w' (by have := HD.out.len; omega))
      have HTC' := HTC.out wr
      rw [hlk] at HTC'
      go_wp2_with fail
      refine (sizeR_any _ _ _ _ (by omega)).mono ?_
      rintro e w' ⟨rfl, rfl⟩
      go_wp2_with fail
      refine HTC'.mono ?_
      rintro e w4 ⟨A4, c4, rfl, ho4, hb4⟩
      have hf4 := hf.below hb4
      have Y4 := Y.after hb4
      have hw4 := hb.trans (hb4.mono hb.size)
      have ho4' := ho4.more (B' := w.heap.size) hb.size
      have hgo := graphOf_dsg v bs HD.out w.heap.size A4 c4 F m d w4 hw4.size (by rw [hlk]; exact ho4') hf4.reads (by omega)
      rw [hlk] at hgo
      clear HTC HTC' ho4 ho4' hb4 hf4 hf
      go_wp2_with fail
      refine hgo.mono ?_
      rintro e w5 ⟨A5, n5, c5, F5, m5, d5, rfl, o1, o2, q1, q2, hb5⟩
      have Y5 := Y4.after hb5
      obtain ⟨y0, y1⟩ := Y5.cells2
      have f0 := Y5.frozen 0
      have f1 := Y5.frozen 1
      have YF := (Y5.set_ 0 (.slice A5 n5 c5)).set_ 1 (.slice F5 m5 d5)
      obtain ⟨z0, z1⟩ : (((w5.setCell ⟨w.heap.size, 0, none⟩ (.slice A5 n5 c5)).setCell ⟨w.heap.size, 1, none⟩ (.slice F5 m5 d5)).cell? ⟨w.heap.size, 0, none⟩ = some (.slice A5 n5 c5)) ∧ (((w5.setCell ⟨w.heap.size, 0, none⟩ (.slice A5 n5 c5)).setCell ⟨w.heap.size, 1, none⟩ (.slice F5 m5 d5)).cell? ⟨w.heap.size, 1, none⟩ = some (.slice F5 m5 d5)) := ⟨YF.cell 0, YF.cell 1⟩
      clear hgo
      generalize hqq : dgK v bs = qq at *
      go_wp2
      have hw5 := hw4.trans (hb5.mono hw4.size)
      have e1 : some w.heap.size ≠ blk A5 := OS.typed' o1.os Y5 (by decide)
      have e2 : some w.heap.size ≠ blk F5 := OS.typed' o2.os Y5 (by decide)
      have o1 := (o1.kept (grown_set (g := w.heap.size) (p := 0) (u := .slice A5 n5 c5)) (.inr fun e => e1 e.symm)).kept (grown_set (g := w.heap.size) (p := 1) (u := .slice F5 m5 d5)) (.inr fun e => e1 e.symm)
      have o2 := (o2.kept (grown_set (g := w.heap.size) (p := 0) (u := .slice A5 n5 c5)) (.inr fun e => e2 e.symm)).kept (grown_set (g := w.heap.size) (p := 1) (u := .slice F5 m5 d5)) (.inr fun e => e2 e.symm)
      subst hqq
      refine bodyPost_ret (v := .tuple #[.agg #[.slice A5 n5 c5, .slice F5 m5 d5], .int .i64 (dgK v bs)]) (by simp [results, Tryz.results56, go_sem, z0, z1]) rfl ?_
      exact ⟨A5, n5, c5, F5, m5, d5, rfl, o1, o2, q1, q2, (hw5.setCell (p := ⟨w.heap.size, 0, none⟩) (Nat.le_refl _) _).setCell (p := ⟨w.heap.size, 1, none⟩) (Nat.le_refl _) _⟩
end Go.Proofs.YtdkbcjdimhgmnaaGreat
