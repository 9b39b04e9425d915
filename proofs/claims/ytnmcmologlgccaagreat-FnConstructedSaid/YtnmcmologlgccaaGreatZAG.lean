/- Objects: made, copied, marked, held and compared. No condition beyond those stated. -/
import Derived.Test.YtnmcmologlgccaaGreatZAC
import Derived.Test.YtnmcmologlgccaaGreatZAF
import Derived.Test.YtnmcmologlgccaaGreatZAD
set_option linter.unusedVariables false
set_option linter.unusedSimpArgs false
namespace Go.Proofs.YtnmcmologlgccaaGreat
open Go.RowKit

theorem bcell {W w1 : World} (hb : Below W.heap.size W w1) : (∀ b o, b < W.heap.size → w1.cell? ⟨b, o, none⟩ = W.cell? ⟨b, o, none⟩) ∧ (∀ b o, b < W.heap.size → w1.frozen? ⟨b, o, none⟩ = W.frozen? ⟨b, o, none⟩) :=
  ⟨fun b o h => hb.cell (p := ⟨b, o, none⟩) h, fun b o h => hb.frozen (p := ⟨b, o, none⟩) h⟩
/-- an object whose rows lie in memory of the call's own -/
def RetO (w : World) (k s : Int) (zss : List (List Int)) (en : Ending) (w' : World) : Prop :=
  ∃ A n c, en = .returned (.agg #[.int .i64 k, .int .i64 s, .slice A n c]) ∧ OR w' w.heap.size 36 2 A n c zss ∧ Below w.heap.size w w'
/-- the same, and a code -/
def RetOC (w : World) (k s : Int) (zss : List (List Int)) (code : Int) (en : Ending) (w' : World) : Prop :=
  ∃ A n c, en = .returned (.tuple #[.agg #[.int .i64 k, .int .i64 s, .slice A n c], .int .i64 code]) ∧ OR w' w.heap.size 36 2 A n c zss ∧ Below w.heap.size w w'

end Go.Proofs.YtnmcmologlgccaaGreat
/- Designs: whether blocks are one, on both sides. No condition beyond those stated. -/
namespace Go.Proofs.YtnmcmologlgccaaGreat
open Go.RowKit

set_option maxHeartbeats 1000000 in
theorem validSet_any (A : Option Addr) (n c : Nat) (z : List Int) (v : Int) (w : World) (ha : RI w A n z) (hn : n ≤ 9223372036854775807) (v1 : 1 ≤ v) (v2 : v ≤ 32) :
    Calls Tryz.prog 110 #[.slice A n c, .int .i64 v] w fun e w' => e = .returned (.bool (tB (Rises z 0 (v - 1)))) ∧ w = w' := by
  have hla := Lib.hid ha.len
  have hv := Lib.hid (inB_mk (a := v) (lo := 0) (hi := 32) (by omega))
  go_enter Tryz.func110, Tryz.ntmps110
  go_wp2
  go_loop [5, 10] (fun l i => ∃ (k : Nat) (x : Int), k ≤ n ∧ i = .int .i64 k ∧ l = .int .i64 x ∧ -1 ≤ x ∧ x ≤ 31 ∧ Hid ((k = 0 ∧ x = -1) ∨ (0 < k ∧ x = nth z (k - 1))) ∧ risesTo z 0 (v - 1) k) (fun _ i => n - (intOf i).toNat)
  case atStart => exact ⟨0, -1, Nat.zero_le _, rfl, rfl, by omega, by omega, Lib.hid (.inl ⟨rfl, rfl⟩), risesTo_zero _ _ _⟩
  case round =>
    obtain ⟨k, x, hk, rfl, rfl, x1, x2, hx, hr⟩ := hrel
    by_cases hlt : k < n
    · obtain ⟨a, rfl, hca, hia⟩ := ha.get hlt
      by_cases h1 : nth z k ≤ x
      · have H := Lib.hid (show tB (Rises z 0 (v - 1)) = false from tB_no fun hh => by
          rcases hx.out with ⟨_, e⟩ | ⟨e0, e⟩
          · have := (hh.bd k (by rw [hla.out]; exact hlt)).1; omega
          · have := hh.up (k - 1) (by rw [hla.out]; omega)
            rw [show k - 1 + 1 = k by omega] at this
            omega)
        clear hr hx
        go_wp2
        go_ret
        exact ⟨by rw [H.out]; rfl, rfl⟩
      · by_cases h2 : v ≤ nth z k
        · have H := Lib.hid (show tB (Rises z 0 (v - 1)) = false from tB_no fun hh => by
            have := (hh.bd k (by rw [hla.out]; exact hlt)).2; omega)
          clear hr hx
          go_wp2
          go_ret
          exact ⟨by rw [H.out]; rfl, rfl⟩
        · have h3 : 0 ≤ nth z k := by omega
          have H := Lib.hid (risesTo_step hr ⟨h3, by omega⟩ (fun h0 => by
            rcases hx.out with ⟨e, _⟩ | ⟨e0, e⟩
            · omega
            · rw [← e]; omega))
          clear hr hx
          go_wp2
          go_round
          case rel => exact ⟨k + 1, nth z k, by omega, by go_num, rfl, by omega, by omega, Lib.hid (.inr ⟨by omega, by simp⟩), H.out⟩
          case measure => simp [intOf]; omega
    · have H := Lib.hid (show tB (Rises z 0 (v - 1)) = true from tB_yes (risesTo_all hla.out (by rwa [show k = n by omega] at hr)))
      clear hr hx
      go_wp2_with (go_at_call 30; refine (within_any _ _ _ _).mono ?_; rintro e w' ⟨rfl, rfl⟩)
      go_ret
      exact ⟨by rw [H.out]; exact ret_bool hv.out, rfl⟩
set_option maxHeartbeats 400000 in
theorem isBlock_any (A : Option Addr) (n c : Nat) (z : List Int) (v : Int) (w : World) (ha : RI w A n z) (hn : n ≤ 9223372036854775807) (v1 : 1 ≤ v) (v2 : v ≤ 32) :
    Calls Tryz.prog 66 #[.slice A n c, .int .i64 v] w fun e w' => e = .returned (.bool (tB (Block z v))) ∧ w = w' := by
  have hla := Lib.hid ha.len
  by_cases h0 : 0 < n
  · have H := Lib.hid (show tB (Rises z 0 (v - 1)) = tB (Block z v) from tB_congr ⟨fun h => ⟨by rw [hla.out]; exact h0, h⟩, fun h => h.2⟩)
    go_enter Tryz.func66, Tryz.ntmps66
    go_wp2_with (go_at_call 110; refine (validSet_any _ _ _ z _ _ ha hn v1 v2).mono ?_; rintro e w' ⟨rfl, rfl⟩)
    go_ret
    exact ⟨by rw [← H.out]; rfl, rfl⟩
  · have H := Lib.hid (show tB (Block z v) = false from tB_no fun h => h0 (by rw [← hla.out]; exact h.1))
    go_enter Tryz.func66, Tryz.ntmps66
    go_wp2
    go_ret
    exact ⟨by rw [H.out]; rfl, rfl⟩
set_option maxHeartbeats 400000 in
theorem l10Block_any (A : Option Addr) (n c : Nat) (z : List Int) (v : Int) (w : World) (ha : RI w A n z) (hn : n ≤ 9223372036854775807) (v1 : 1 ≤ v) (v2 : v ≤ 64) :
    Calls Tryz.prog 133 #[.slice A n c, .int .i64 v] w (Quiet w (.bool (tB (Block z v)))) := by
  have hla := Lib.hid ha.len
  by_cases h0 : 0 < n
  · have H := Lib.hid (show tB (Rises z 0 (v - 1)) = tB (Block z v) from tB_congr ⟨fun h => ⟨by rw [hla.out]; exact h0, h⟩, fun h => h.2⟩)
    go_enter Tryz.func133, Tryz.ntmps133
    go_wp2_with (go_at_call 173; refine (l00Rises_any _ _ _ z _ _ _ ha hn).mono ?_; rintro e w1 ⟨rfl, hd1⟩)
    go_ret
    exact ⟨by rw [← H.out]; rfl, hd1⟩
  · have H := Lib.hid (show tB (Block z v) = false from tB_no fun h => h0 (by rw [← hla.out]; exact h.1))
    go_enter Tryz.func133, Tryz.ntmps133
    go_wp2
    go_ret
    exact ⟨by rw [H.out]; rfl, Drawn.refl _⟩
/-- all lists are blocks -/
def allBlk (bs : List (List Int)) (v : Int) : Prop := ∀ i, i < bs.length → Block (row bs i) v
noncomputable def noBlk (v : Int) (z : List Int) : Bool := !tB (Block z v)
theorem noBlk_any (bs : List (List Int)) (v : Int) : (!bs.any (noBlk v)) = tB (allBlk bs v) := by
  cases h : bs.any (noBlk v) with
  | true =>
    obtain ⟨x, hx, hb⟩ := List.any_eq_true.1 h
    obtain ⟨k, hk, rfl⟩ := List.mem_iff_getElem.1 hx
    rw [tB_no (p := allBlk bs v) fun hh => ?_]
    · rfl
    · have := hh k hk
      rw [row_get hk] at this
      simp [noBlk, tB_yes this] at hb
  | false =>
    rw [tB_yes (p := allBlk bs v) fun i hi => ?_]
    · rfl
    · rw [List.any_eq_false] at h
      have := h bs[i] (List.getElem_mem hi)
      rw [row_get hi]
      exact tB_true.1 (by simpa [noBlk] using this)
set_option maxHeartbeats 400000 in
theorem areBlocks1_any (A : Option Addr) (n c : Nat) (z : List Int) (v : Int) (p : Addr) (w : World) (hp : w.cell? p = some (.int .i64 v)) (ha : RI w A n z) (hn : n ≤ 9223372036854775807) (v1 : 1 ≤ v) (v2 : v ≤ 32) :
    Calls Tryz.prog 65 #[.slice A n c, .pointer (some p)] w fun e w' => e = .returned (.bool (noBlk v z)) ∧ w = w' := by
  go_enter Tryz.func65, Tryz.ntmps65
  go_wp2_with (go_at_call 66; refine (isBlock_any _ _ _ z _ _ ha hn v1 v2).mono ?_; rintro e w' ⟨rfl, rfl⟩)
  go_ret
  exact ⟨rfl, rfl⟩
set_option maxHeartbeats 400000 in
theorem areBlocks_any (A : Option Addr) (n c : Nat) (bs : List (List Int)) (v : Int) (w : World) (ha : RR w A n bs) (hn : n ≤ 9223372036854775807) :
    Calls Tryz.prog 44 #[.slice A n c, .int .i64 v] w (RetB w (inB v 1 32 && tB (allBlk bs v))) := by
  have eg : ∀ (args : Array Value) (w : World), (callFunc 65 args).run Tryz.prog w = .ok (.enter 65 args) w := fun _ _ => by kernel_rfl
  have hb1 := below_alloc w (.cells #[.int .i64 v] 2)
  have hcell : (w.alloc (.cells #[.int .i64 v] 2)).cell? ⟨w.heap.size, 0, none⟩ = some (.int .i64 v) := (Blk.new w 2 #[.int .i64 v]).cell 0
  cases h1 : inB v 1 32 with
  | true =>
    obtain ⟨v1, v2⟩ := inB_true h1
    have hask : AskR 65 #[.pointer (some ⟨w.heap.size, 0, none⟩)] (noBlk v) (w.alloc (.cells #[.int .i64 v] 2)) := fun A' n' c' z W hW hz h2 h3 =>
      (areBlocks1_any A' n' c' z v _ W (below_cell hW hcell) hz (by omega) v1 v2).mono fun _ _ h => RetB.of_same h
    have H := Lib.hid (noBlk_any bs v)
    go_enter Tryz.func44, Tryz.ntmps44
    go_wp2_with (first
      | (go_at_call 30; refine (within_any _ _ _ _).mono ?_; rintro e w' ⟨rfl, rfl⟩; rw [h1])
      | (go_at_call 64; refine (containsFuncR _ _ eg (noBlk v) A n c bs _ (ha.keep hb1) hn hask).mono ?_; rintro e w2 ⟨rfl, hb2⟩))
    go_ret
    exact ⟨by rw [← H.out]; rfl, below_then hb1 hb2⟩
  | false =>
    go_enter Tryz.func44, Tryz.ntmps44
    go_wp2_with (go_at_call 30; refine (within_any _ _ _ _).mono ?_; rintro e w' ⟨rfl, rfl⟩; rw [h1])
    go_ret
    exact ⟨rfl, hb1⟩

def sortedTo (bs : List (List Int)) (x : Int) : Prop := ∀ j : Nat, x ≤ j → j + 1 < bs.length → cmpL (row bs j) (row bs (j + 1)) ≤ 0
def sortedR (bs : List (List Int)) : Prop := ∀ j : Nat, j + 1 < bs.length → cmpL (row bs j) (row bs (j + 1)) ≤ 0
set_option maxHeartbeats 1000000 in
theorem isSortedFunc_any (A : Option Addr) (n c : Nat) (bs : List (List Int)) (w : World) (ha : RR w A n bs) (hn : n ≤ 9223372036854775807) :
    Calls Tryz.prog 45 #[.slice A n c, .func (.func 43) #[] #[]] w (Quiet w (.bool (tB (sortedR bs)))) := by
  have hla := Lib.hid ha.len
  have e0 : IntKind.i64.wrap ((n : Int) - 1) = (n : Int) - 1 := IntWalk.i64_in _ (by omega)
  go_enter Tryz.func45, Tryz.ntmps45
  go_wp2
  go_loopw [5] (fun i wr => ∃ x : Int, i = .int .i64 x ∧ x < n ∧ -1 ≤ x ∧ Drawn w wr ∧ Hid (sortedTo bs x)) (fun i _ => (intOf i).toNat)
  case atStart => exact ⟨(n : Int) - 1, rfl, by omega, by omega, Drawn.refl _, Lib.hid fun j h1 h2 => absurd h2 (by rw [hla.out]; omega)⟩
  case round =>
    obtain ⟨x, rfl, hx1, hx2, hd, hs⟩ := hrel
    by_cases h0 : 0 < x
    · obtain ⟨k, rfl⟩ : ∃ k : Nat, x = k := ⟨x.toNat, by omega⟩
      obtain ⟨a, A1, n1, c1, rfl, hca, hn1, hc1, ha1⟩ := (ha.drawn hd).get (show k < n by omega)
      obtain ⟨b, A2, n2, c2, hb', hcb, hn2, hc2, ha2⟩ := (ha.drawn hd).get (show k - 1 < n by omega)
      obtain rfl : a = b := by injection hb'
      clear hb'
      have e1 : IntKind.i64.wrap ((k : Int) - 1) = (k : Int) - 1 := IntWalk.i64_in _ (by omega)
      have e2 : ((k : Int) - 1).toNat = k - 1 := by omega
      have e3 : (0 : Int) ≤ (k : Int) - 1 := by omega
      have hcall : ∀ q, Calls Tryz.prog 43 #[.slice A1 n1 c1, .slice A2 n2 c2] (wr.drewN q) (Quiet (wr.drewN q) (.int .i64 (cmpL (row bs k) (row bs (k - 1))))) := fun q =>
        (slicesCompare_any A1 A2 n1 n2 c1 c2 _ _ _ (ha1.drewN q) (ha2.drewN q) (by omega) (by omega)).mono fun _ _ h => Quiet.of_same h
      have hsw := cmpL_swap (row bs (k - 1)) (row bs k)
      by_cases h1 : cmpL (row bs k) (row bs (k - 1)) < 0
      · have H := Lib.hid (show tB (sortedR bs) = false from tB_no fun hh => by
          have := hh (k - 1) (by rw [hla.out]; omega)
          rw [show k - 1 + 1 = k by omega] at this
          omega)
        clear hsw
        go_wp2
        go_quiet ((go_at_call 43; exact Quiet.call (hcall _)))
        clear e0 e1 e2 e3
        go_wp2
        go_ret
        exact ⟨by rw [H.out]; rfl, hd.more _⟩
      · have h1' : 0 ≤ cmpL (row bs k) (row bs (k - 1)) := by omega
        have H := Lib.hid (show sortedTo bs ((k : Int) - 1) from fun j hj1 hj2 => by
          rcases Nat.lt_or_ge j k with h | h
          · have : j = k - 1 := by omega
            rw [this, show k - 1 + 1 = k by omega]
            omega
          · exact hs.out j (by omega) hj2)
        clear hsw hs
        go_wp2
        go_quiet ((go_at_call 43; exact Quiet.call (hcall _)))
        go_wp2
        go_roundw
        case rel => exact ⟨(k : Int) - 1, rfl, by omega, by omega, hd.more _, H⟩
        case measure => simp [intOf]; omega
    · have H := Lib.hid (show tB (sortedR bs) = true from tB_yes fun j hj => hs.out j (by omega) hj)
      clear hs e0
      go_wp2
      go_ret
      exact ⟨by rw [H.out]; rfl, hd⟩
theorem design_iff (v : Int) (bs : List (List Int)) : Design v bs ↔ (1 ≤ v ∧ v ≤ 32) ∧ allBlk bs v ∧ bs.length ≤ 128 ∧ sortedR bs :=
  ⟨fun h => ⟨⟨h.v1, h.v2⟩, h.blk, h.len, h.ord⟩, fun h => ⟨h.1.1, h.1.2, h.2.2.1, h.2.1, h.2.2.2⟩⟩
set_option maxHeartbeats 1000000 in
theorem validDesign_any (v : Int) (A : Option Addr) (n c : Nat) (bs : List (List Int)) (w : World) (ha : RR w A n bs) (hn : n ≤ 9223372036854775807) :
    Calls Tryz.prog 26 #[.agg #[.int .i64 v, .slice A n c]] w (RetB w (tB (Design v bs))) := by
  have hla := Lib.hid ha.len
  have hb1 := below_alloc w (.cells #[.int .i64 v, .slice A n c] 28)
  have B1 := Blk.new w 28 #[.int .i64 v, .slice A n c]
  have HD := Lib.hid (design_iff v bs)
  have hcall := areBlocks_any A n c bs v _ (ha.keep hb1) hn
  cases h1 : inB v 1 32 && tB (allBlk bs v) with
  | false =>
    rw [h1] at hcall
    have H := Lib.hid (show tB (Design v bs) = false from tB_no fun hh => by
      have := HD.out.1 hh
      rw [inB_mk this.1, tB_yes this.2.1] at h1
      cases h1)
    clear h1
    go_enter Tryz.func26, Tryz.ntmps26
    go_wp2_with (go_at_call 44; refine hcall.mono ?_; rintro e w1 ⟨rfl, hb2⟩)
    go_ret
    exact ⟨by rw [H.out]; rfl, below_then hb1 hb2⟩
  | true =>
    rw [h1] at hcall
    have hv := Lib.hid (show (1 ≤ v ∧ v ≤ 32) ∧ allBlk bs v by
      rw [Bool.and_eq_true] at h1
      exact ⟨inB_true h1.1, tB_true.1 h1.2⟩)
    clear h1
    by_cases h2 : n ≤ 128
    · have H := Lib.hid (show tB (sortedR bs) = tB (Design v bs) from tB_congr ⟨fun h => HD.out.2 ⟨hv.out.1, hv.out.2, by rw [hla.out]; exact h2, h⟩, fun h => (HD.out.1 h).2.2.2⟩)
      go_enter Tryz.func26, Tryz.ntmps26
      go_wp2_with fail
      refine hcall.mono ?_
      rintro e w1 ⟨rfl, hb2⟩
      obtain ⟨x0, x1⟩ := (B1.after hb2).cells2
      have hw := below_then hb1 hb2
      clear B1 hb1 hb2
      go_wp2_with (go_at_call 45; refine (isSortedFunc_any A n c bs _ (ha.keep hw) hn).mono ?_; rintro e w2 ⟨rfl, hd2⟩)
      go_ret
      exact ⟨by rw [← H.out]; rfl, hw.trans (hd2.below.mono hw.size)⟩
    · have H := Lib.hid (show tB (Design v bs) = false from tB_no fun hh => h2 (by have := hh.len; rw [hla.out] at this; exact this))
      have h2' : 128 < n := by omega
      go_enter Tryz.func26, Tryz.ntmps26
      go_wp2_with fail
      refine hcall.mono ?_
      rintro e w1 ⟨rfl, hb2⟩
      obtain ⟨x0, x1⟩ := (B1.after hb2).cells2
      have hw := below_then hb1 hb2
      clear B1 hb1 hb2
      go_wp2
      go_ret
      exact ⟨by rw [H.out]; rfl, hw⟩
def blkTo (bs : List (List Int)) (v : Int) (k : Nat) : Prop := (∀ i, i < k → Block (row bs i) v) ∧ ∀ i, i + 1 < k → cmpL (row bs i) (row bs (i + 1)) ≤ 0
theorem blkTo_step {bs : List (List Int)} {v : Int} {k : Nat} (h : blkTo bs v k) (h1 : Block (row bs k) v) (h2 : 0 < k → cmpL (row bs (k - 1)) (row bs k) ≤ 0) : blkTo bs v (k + 1) :=
  ⟨fun j hj => by
    rcases Nat.lt_succ_iff_lt_or_eq.1 hj with h' | h'
    · exact h.1 j h'
    · rw [h']; exact h1,
   fun j hj => by
    rcases Nat.lt_succ_iff_lt_or_eq.1 hj with h' | h'
    · exact h.2 j h'
    · have := h2 (by omega)
      have e : k = j + 1 := h'.symm
      subst e
      simpa using this⟩
set_option maxRecDepth 100000 in
set_option maxHeartbeats 2000000 in
theorem l10Ok_any (g : Nat) (v : Int) (A : Option Addr) (n c : Nat) (bs : List (List Int)) (w : World) (hB : Blk w g 28 #[.int .i64 v, .slice A n c]) (ha : RR w A n bs) (hn : n ≤ 9223372036854775807) :
    Calls Tryz.prog 83 #[.pointer (some ⟨g, 0, none⟩)] w (Quiet w (.bool (tB (Design v bs)))) := by
  have hla := Lib.hid ha.len
  obtain ⟨x0, x1⟩ := hB.cells2
  cases h1 : inB v 1 32 with
  | false =>
    have H := Lib.hid (show tB (Design v bs) = false from tB_no fun hh => by rw [inB_mk ⟨hh.v1, hh.v2⟩] at h1; cases h1)
    go_enter Tryz.func83, Tryz.ntmps83
    go_wp2_with (go_at_call 38; refine (l00In_any _ _ _ _).mono ?_; rintro e w' ⟨rfl, rfl⟩; rw [h1])
    go_ret
    exact ⟨by rw [H.out]; rfl, Drawn.refl _⟩
  | true =>
    obtain ⟨v1, v2⟩ := inB_true h1
    by_cases h2 : n ≤ 128
    · go_enter Tryz.func83, Tryz.ntmps83
      go_wp2_with (go_at_call 38; refine (l00In_any _ _ _ _).mono ?_; rintro e w' ⟨rfl, rfl⟩; rw [h1])
      go_loopw [3] (fun i wr => ∃ k : Nat, k ≤ n ∧ i = .int .i64 k ∧ Drawn w wr ∧ blkTo bs v k) (fun i _ => n - (intOf i).toNat)
      case atStart => exact ⟨0, Nat.zero_le _, rfl, Drawn.refl _, fun _ h => absurd h (by omega), fun _ h => absurd h (by omega)⟩
      case round =>
        obtain ⟨k, hk, rfl, hd, hto⟩ := hrel
        clear x0 x1
        obtain ⟨x0, x1⟩ := (hB.after hd.below).cells2
        by_cases hlt : k < n
        · obtain ⟨a, A1, n1, c1, rfl, hca, hn1, hc1, ha1⟩ := (ha.drawn hd).get hlt
          cases h3 : tB (Block (row bs k) v) with
          | false =>
            have hcall : ∀ q, Calls Tryz.prog 133 #[.slice A1 n1 c1, .int .i64 v] (wr.drewN q) (Quiet (wr.drewN q) (.bool false)) := fun q => by
              rw [← h3]; exact l10Block_any A1 n1 c1 _ v _ (ha1.drewN q) (by omega) v1 (by omega)
            have H := Lib.hid (show tB (Design v bs) = false from tB_no fun hh => by
              rw [tB_yes (hh.blk k (by rw [hla.out]; exact hlt))] at h3; cases h3)
            clear hto h3
            go_wp2
            go_quiet ((go_at_call 133; exact Quiet.call (hcall _)))
            go_wp2
            go_ret
            exact ⟨by rw [H.out]; rfl, hd.more _⟩
          | true =>
            have hcall : ∀ q, Calls Tryz.prog 133 #[.slice A1 n1 c1, .int .i64 v] (wr.drewN q) (Quiet (wr.drewN q) (.bool true)) := fun q => by
              rw [← h3]; exact l10Block_any A1 n1 c1 _ v _ (ha1.drewN q) (by omega) v1 (by omega)
            have hbk := Lib.hid (tB_true.1 h3)
            clear h3
            by_cases h0 : k ≤ 0
            · have g1 : decide ((0 : Int) < (k : Int)) = false := by simp; omega
              have g2 : decide (0 < k) = false := by simp; omega
              have H := Lib.hid (blkTo_step hto hbk.out (fun h => absurd h (by omega)))
              clear hto
              go_wp2
              go_quiet ((go_at_call 133; exact Quiet.call (hcall _)))
              go_wp2
              go_roundw
              case rel => exact ⟨k + 1, by omega, by go_num, hd.more _, H.out⟩
              case measure => simp [intOf]; omega
            · have h0' : 0 < k := by omega
              obtain ⟨b, A2, n2, c2, hb', hcb, hn2, hc2, ha2⟩ := (ha.drawn hd).get (show k - 1 < n by omega)
              obtain rfl : a = b := by injection hb'
              clear hb' h0
              have hcall2 : ∀ q, Calls Tryz.prog 134 #[.slice A2 n2 c2, .slice A1 n1 c1] (wr.drewN q) (Quiet (wr.drewN q) (.int .i64 (cmpL (row bs (k - 1)) (row bs k)))) := fun q =>
                compareLists_any A2 A1 n2 n1 c2 c1 _ _ _ (ha2.drewN q) (ha1.drewN q) (by omega) (by omega)
              have e1 : IntKind.i64.wrap ((k : Int) - 1) = (k : Int) - 1 := IntWalk.i64_in _ (by omega)
              have e2 : ((k : Int) - 1).toNat = k - 1 := by omega
              have e3 : (0 : Int) ≤ (k : Int) - 1 := by omega
              by_cases h4 : cmpL (row bs (k - 1)) (row bs k) ≤ 0
              · have h4' : decide (0 < cmpL (row bs (k - 1)) (row bs k)) = false := by simp; omega
                have H := Lib.hid (blkTo_step hto hbk.out (fun _ => h4))
                clear hto
                go_wp2
                go_quiet ((first | (go_at_call 133; exact Quiet.call (hcall _)) | (go_at_call 134; exact Quiet.call (hcall2 _))))
                clear e1 e2 e3
                go_wp2
                go_roundw
                case rel => exact ⟨k + 1, by omega, by go_num, hd.more _, H.out⟩
                case measure => simp [intOf]; omega
              · have h4' : decide (0 < cmpL (row bs (k - 1)) (row bs k)) = true := by simp; omega
                have H := Lib.hid (show tB (Design v bs) = false from tB_no fun hh => by
                  have := hh.ord (k - 1) (by rw [hla.out]; omega)
                  rw [show k - 1 + 1 = k by omega] at this
                  exact h4 this)
                clear hto
                go_wp2
                go_quiet ((first | (go_at_call 133; exact Quiet.call (hcall _)) | (go_at_call 134; exact Quiet.call (hcall2 _))))
                clear e1 e2 e3
                go_wp2
                go_ret
                exact ⟨by rw [H.out]; rfl, hd.more _⟩
        · have H := Lib.hid (show tB (Design v bs) = true from tB_yes ⟨v1, v2, by rw [hla.out]; exact h2, by rw [hla.out]; rw [show k = n by omega] at hto; exact hto.1, by rw [hla.out]; rw [show k = n by omega] at hto; exact hto.2⟩)
          clear hto
          go_wp2
          go_ret
          exact ⟨by rw [H.out]; rfl, hd⟩
    · have H := Lib.hid (show tB (Design v bs) = false from tB_no fun hh => h2 (by have := hh.len; rw [hla.out] at this; exact this))
      have h2' : 128 < n := by omega
      go_enter Tryz.func83, Tryz.ntmps83
      go_wp2_with (go_at_call 38; refine (l00In_any _ _ _ _).mono ?_; rintro e w' ⟨rfl, rfl⟩; rw [h1])
      go_ret
      exact ⟨by rw [H.out]; rfl, Drawn.refl _⟩
end Go.Proofs.YtnmcmologlgccaaGreat
/- Plain law: the search for transversals finds them in lexicographic order. No program in sight. -/
namespace Go.Proofs.YtnmcmologlgccaaGreat

/-- the state of the search -/
structure TSt where
  left : Nat
  spent : Bool
  found : List (List Int)
/-- the symbols of chosen cells -/
def symT (a : List (List Int)) (cols : List Int) : List Int := (List.range cols.length).map fun i => nth (row a i) (nth cols i).toNat
def freeT (a : List (List Int)) (cols : List Int) (y : Nat) : Bool := !(cols.contains (y : Int)) && !((symT a cols).contains (nth (row a cols.length) y))
def trL (sub : List Int → TSt → TSt) (a : List (List Int)) (lim : Nat) (cols : List Int) : List Nat → TSt → TSt
  | [], s => s
  | y :: r, s => if freeT a cols y then (if s.spent = true ∨ s.found.length = lim then s else if s.left = 0 then { s with spent := true } else trL sub a lim cols r (sub (cols ++ [(y : Int)]) { s with left := s.left - 1 })) else trL sub a lim cols r s
def trS (a : List (List Int)) (lim : Nat) : Nat → List Int → TSt → TSt
  | 0, cols, s => { s with found := s.found ++ [cols] }
  | k + 1, cols, s => trL (trS a lim k) a lim cols (List.range a.length) s
/-- all transversals that begin so, k rows on -/
def allT (a : List (List Int)) : Nat → List Int → List (List Int)
  | 0, cols => [cols]
  | k + 1, cols => (List.range a.length).flatMap fun y => if freeT a cols y then allT a k (cols ++ [(y : Int)]) else []
section
variable {a : List (List Int)} {lim : Nat}
theorem trL_spent {sub : List Int → TSt → TSt} {cols : List Int} : ∀ (r : List Nat) (s : TSt), s.spent = true → trL sub a lim cols r s = s
  | [], s, _ => rfl
  | y :: r, s, h => by
    rw [trL]
    split
    · rw [if_pos (.inl h)]
    · exact trL_spent r s h
theorem take_take_app {l m r : List (List Int)} {n : Nat} : ((l ++ m).take n ++ r).take n = (l ++ (m ++ r)).take n := by
  rw [← List.append_assoc]
  generalize l ++ m = x
  rcases Nat.lt_or_ge x.length n with h | h
  · rw [show x.take n = x from List.take_of_length_le (by omega)]
  · rw [List.take_append_of_le_length (by rw [List.length_take]; omega), List.take_append_of_le_length h, List.take_take, Nat.min_self]
theorem take_full {l m : List (List Int)} {n : Nat} (h : l.length = n) : (l ++ m).take n = l := by
  rw [List.take_append_of_le_length (by omega), List.take_of_length_le (by omega)]
theorem trL_found {sub : List Int → TSt → TSt} {cols : List Int} {F : List Int → List (List Int)}
    (hs : ∀ c s, s.spent = false → s.found.length < lim → (sub c s).spent = false → (sub c s).found = (s.found ++ F c).take lim) :
    ∀ (r : List Nat) (s : TSt), s.spent = false → s.found.length ≤ lim → (trL sub a lim cols r s).spent = false →
      (trL sub a lim cols r s).found = (s.found ++ r.flatMap fun y => if freeT a cols y then F (cols ++ [(y : Int)]) else []).take lim
  | [], s, _, h2, _ => by rw [trL, List.flatMap_nil, List.append_nil, List.take_of_length_le h2]
  | y :: r, s, h1, h2, h3 => by
    rw [trL] at h3 ⊢
    rw [List.flatMap_cons]
    by_cases hf : freeT a cols y = true
    · rw [if_pos hf] at h3 ⊢
      rw [if_pos hf]
      by_cases hl : s.spent = true ∨ s.found.length = lim
      · rw [if_pos hl]
        rcases hl with hl | hl
        · rw [h1] at hl; cases hl
        · exact (take_full hl).symm
      · rw [if_neg hl] at h3 ⊢
        have hl2 : s.found.length < lim := by
          rcases Nat.lt_or_ge s.found.length lim with h | h
          · exact h
          · exact absurd (.inr (by omega)) hl
        by_cases h0 : s.left = 0
        · rw [if_pos h0] at h3; cases h3
        · rw [if_neg h0] at h3 ⊢
          have hsub := hs (cols ++ [(y : Int)]) { s with left := s.left - 1 } h1 hl2
          cases hsp : (sub (cols ++ [(y : Int)]) { s with left := s.left - 1 }).spent with
          | true => rw [trL_spent r _ hsp, hsp] at h3; cases h3
          | false =>
            have e := hsub hsp
            have ih := trL_found hs r _ hsp (by rw [e, List.length_take]; omega) h3
            rw [ih, e]
            exact take_take_app
    · rw [if_neg hf] at h3 ⊢
      rw [if_neg hf, List.nil_append]
      exact trL_found hs r s h1 h2 h3
theorem trS_found : ∀ (k : Nat) (cols : List Int) (s : TSt), s.spent = false → s.found.length < lim → (trS a lim k cols s).spent = false → (trS a lim k cols s).found = (s.found ++ allT a k cols).take lim
  | 0, cols, s, _, h2, _ => by
    rw [trS, allT, List.take_of_length_le (by simp; omega)]
  | k + 1, cols, s, h1, h2, h3 => by
    rw [trS] at h3 ⊢
    rw [allT]
    exact trL_found (fun c s h1 h2 h3 => trS_found k c s h1 h2 h3) _ s h1 (by omega) h3
end
/-! what is found -/
/-- the first rows chosen so that no column and no symbol comes twice -/
structure PartT (a : List (List Int)) (cols : List Int) : Prop where
  len : cols.length ≤ a.length
  bd : ∀ i, i < cols.length → 0 ≤ nth cols i ∧ nth cols i < (a.length : Int)
  col : ∀ i j, i < j → j < cols.length → nth cols i ≠ nth cols j
  sym : ∀ i j, i < j → j < cols.length → nth (row a i) (nth cols i).toNat ≠ nth (row a j) (nth cols j).toNat
theorem nth_snocT {l : List Int} {x : Int} {i : Nat} : nth (l ++ [x]) i = if i < l.length then nth l i else if i = l.length then x else 0 := by
  unfold nth
  simp only [List.getD_eq_getElem?_getD, List.getElem?_append]
  split
  · rfl
  · split
    · rename_i e; subst e; simp
    · rw [List.getElem?_eq_none (by simp; omega)]; rfl
theorem symT_mem {a : List (List Int)} {cols : List Int} {z : Int} : z ∈ symT a cols ↔ ∃ i, i < cols.length ∧ nth (row a i) (nth cols i).toNat = z := by
  unfold symT
  simp only [List.mem_map, List.mem_range]
theorem freeT_iff {a : List (List Int)} {cols : List Int} (h : PartT a cols) (hl : cols.length < a.length) {y : Nat} (hy : y < a.length) : freeT a cols y = true ↔ PartT a (cols ++ [(y : Int)]) := by
  unfold freeT
  rw [Bool.and_eq_true, Bool.not_eq_true', Bool.not_eq_true', ← Bool.not_eq_true, ← Bool.not_eq_true, List.contains_iff_mem, List.contains_iff_mem, symT_mem]
  constructor
  · rintro ⟨h1, h2⟩
    refine ⟨by simp; omega, fun i hi => ?_, fun i j hij hj => ?_, fun i j hij hj => ?_⟩
    · rw [List.length_append, List.length_singleton] at hi
      rw [nth_snocT]
      split
      · exact h.bd i (by assumption)
      · rw [if_pos (by omega)]; omega
    · rw [List.length_append, List.length_singleton] at hj
      rw [nth_snocT, nth_snocT, if_pos (by omega)]
      split
      · exact h.col i j hij (by assumption)
      · rw [if_pos (by omega)]
        intro e
        exact h1 (by rw [← e, nth_get (by omega)]; exact List.getElem_mem _)
    · rw [List.length_append, List.length_singleton] at hj
      rw [nth_snocT, nth_snocT, if_pos (by omega)]
      split
      · exact h.sym i j hij (by assumption)
      · have ej : j = cols.length := by omega
        subst ej
        rw [if_pos rfl, Int.toNat_natCast]
        exact fun e => h2 ⟨i, by omega, e⟩
  · intro k
    have hlen : (cols ++ [(y : Int)]).length = cols.length + 1 := by simp
    refine ⟨fun hm => ?_, ?_⟩
    · obtain ⟨i, hi, e⟩ := mem_nth hm
      have := k.col i cols.length hi (by omega)
      rw [nth_snocT, nth_snocT, if_pos hi, if_neg (by omega), if_pos rfl] at this
      exact this e
    · rintro ⟨i, hi, e⟩
      have := k.sym i cols.length hi (by omega)
      rw [nth_snocT, nth_snocT, if_pos hi, if_neg (by omega), if_pos rfl, Int.toNat_natCast] at this
      exact this e
theorem PartT.prefix_ {a : List (List Int)} {cols : List Int} {y : Int} (h : PartT a (cols ++ [y])) : PartT a cols := by
  have hl : (cols ++ [y]).length = cols.length + 1 := by simp
  have e : ∀ i, i < cols.length → nth (cols ++ [y]) i = nth cols i := fun i hi => by rw [nth_snocT, if_pos hi]
  refine ⟨by have := h.len; omega, fun i hi => ?_, fun i j hij hj => ?_, fun i j hij hj => ?_⟩
  · rw [← e i hi]; exact h.bd i (by omega)
  · rw [← e i (by omega), ← e j hj]; exact h.col i j hij (by omega)
  · rw [← e i (by omega), ← e j hj]; exact h.sym i j hij (by omega)
/-- all of them, and no others -/
theorem allT_mem {a : List (List Int)} : ∀ (k : Nat) (cols : List Int), PartT a cols → cols.length + k = a.length → ∀ c, c ∈ allT a k cols ↔ PartT a c ∧ c.length = a.length ∧ c.take cols.length = cols
  | 0, cols, h, hl, c => by
    rw [allT, List.mem_singleton]
    constructor
    · rintro rfl; exact ⟨h, by omega, List.take_of_length_le (Nat.le_refl _)⟩
    · rintro ⟨-, h2, h3⟩
      rw [List.take_of_length_le (by omega)] at h3
      exact h3
  | k + 1, cols, h, hl, c => by
    rw [allT, List.mem_flatMap]
    constructor
    · rintro ⟨y, hy, hc⟩
      have hy := List.mem_range.1 hy
      split at hc
      · rename_i hf
        have h2 := (freeT_iff h (by omega) hy).1 hf
        obtain ⟨h3, h4, h5⟩ := (allT_mem k _ h2 (by simp; omega) c).1 hc
        refine ⟨h3, h4, ?_⟩
        have := congrArg (List.take cols.length) h5
        rw [List.take_take, List.length_append, List.length_singleton, Nat.min_eq_left (by omega), List.take_append_of_le_length (Nat.le_refl _), List.take_of_length_le (Nat.le_refl _)] at this
        exact this
      · cases hc
    · rintro ⟨h1, h2, h3⟩
      have hb := h1.bd cols.length (by omega)
      have hpre : c.take (cols.length + 1) = cols ++ [nth c cols.length] := by
        rw [List.take_succ_eq_append_getElem (by omega), h3, nth_get (by omega)]
      have hP : ∀ t, t ≤ c.length → PartT a (c.take t) := fun t ht => by
        have hlt : (c.take t).length = t := by rw [List.length_take]; omega
        have e : ∀ i, i < t → nth (c.take t) i = nth c i := fun i hi => by unfold nth; simp [List.getD_eq_getElem?_getD, List.getElem?_take, hi]
        refine ⟨by omega, fun i hi => ?_, fun i j hij hj => ?_, fun i j hij hj => ?_⟩
        · rw [e i (by omega)]; exact h1.bd i (by omega)
        · rw [e i (by omega), e j (by omega)]; exact h1.col i j hij (by omega)
        · rw [e i (by omega), e j (by omega)]; exact h1.sym i j hij (by omega)
      have hy : (nth c cols.length).toNat < a.length := by omega
      have ey : (((nth c cols.length).toNat : Nat) : Int) = nth c cols.length := by omega
      refine ⟨(nth c cols.length).toNat, List.mem_range.2 hy, ?_⟩
      have hP2 := hP (cols.length + 1) (by omega)
      rw [hpre, ← ey] at hP2
      rw [if_pos ((freeT_iff h (by omega) hy).2 hP2)]
      refine (allT_mem k _ hP2 (by simp; omega) c).2 ⟨h1, h2, ?_⟩
      rw [List.length_append, List.length_singleton, hpre, ey]
theorem agree_of_take {x y : List Int} {k : Nat} (h : x.take k = y.take k) (hx : k ≤ x.length) (hy : k ≤ y.length) : agree x y k := by
  refine ⟨hx, hy, fun j hj => ?_⟩
  have e : ∀ l : List Int, nth (l.take k) j = nth l j := fun l => by unfold nth; simp [List.getD_eq_getElem?_getD, List.getElem?_take, hj]
  rw [← e x, ← e y, h]
/-- in lexicographic order -/
theorem allT_strict {a : List (List Int)} : ∀ (k : Nat) (cols : List Int), PartT a cols → cols.length + k = a.length → StrictL cmpL (allT a k cols)
  | 0, cols, _, _ => by rw [allT]; exact List.pairwise_singleton _ _
  | k + 1, cols, h, hl => by
    rw [allT, StrictL, List.pairwise_flatMap]
    refine ⟨fun y hy => ?_, List.Pairwise.imp_of_mem ?_ List.pairwise_lt_range⟩
    · have hy := List.mem_range.1 hy
      split
      · rename_i hf
        exact allT_strict k _ ((freeT_iff h (by omega) hy).1 hf) (by simp; omega)
      · exact List.Pairwise.nil
    · intro y z hy hz hyz u hu v hv
      have hy := List.mem_range.1 hy
      have hz := List.mem_range.1 hz
      split at hu
      · split at hv
        · rename_i f1 f2
          obtain ⟨-, u2, u3⟩ := (allT_mem k _ ((freeT_iff h (by omega) hy).1 f1) (by simp; omega) u).1 hu
          obtain ⟨-, v2, v3⟩ := (allT_mem k _ ((freeT_iff h (by omega) hz).1 f2) (by simp; omega) v).1 hv
          have key : ∀ (c : List Int) (t : Nat), c.length = a.length → c.take (cols ++ [(t : Int)]).length = cols ++ [(t : Int)] → c.take cols.length = cols ∧ nth c cols.length = t := fun c t hc e => by
            rw [List.length_append, List.length_singleton] at e
            constructor
            · have := congrArg (List.take cols.length) e
              rw [List.take_take, Nat.min_eq_left (by omega), List.take_append_of_le_length (Nat.le_refl _), List.take_of_length_le (Nat.le_refl _)] at this
              exact this
            · have := congrArg (fun l => nth l cols.length) e
              simp only [nth_snocT, Nat.lt_irrefl, if_false, if_true] at this
              rw [← this]
              unfold nth
              simp [List.getD_eq_getElem?_getD, List.getElem?_take]
          obtain ⟨p1, p2⟩ := key u y u2 u3
          obtain ⟨q1, q2⟩ := key v z v2 v3
          have hag : agree u v cols.length := agree_of_take (by rw [p1, q1]) (by omega) (by omega)
          rw [cmpL_lt hag (by omega) (by omega) (by rw [p2, q2]; omega)]
          decide
        · cases hv
      · cases hu
theorem PartT.nil (a : List (List Int)) : PartT a [] := ⟨Nat.zero_le _, fun i h => absurd h (by simp), fun i j _ h => absurd h (by simp), fun i j _ h => absurd h (by simp)⟩
/-- what the law asks: a list that is not among those found comes behind them, and there are as many as are asked for -/
theorem first_of {l : List (List Int)} {lim : Nat} (hs : StrictL cmpL l) {p : List Int} (hp : p ∈ l) (hn : p ∉ l.take lim) : (l.take lim).length = lim ∧ ∀ i, i < lim → cmpL (row (l.take lim) i) p < 0 := by
  obtain ⟨j, hj, rfl⟩ := List.mem_iff_getElem.1 hp
  have hjl : lim ≤ j := by
    rcases Nat.lt_or_ge j lim with h | h
    · exact absurd (List.mem_take_iff_getElem.2 ⟨j, by omega, rfl⟩) hn
    · exact h
  have hlen : (l.take lim).length = lim := by rw [List.length_take]; omega
  refine ⟨hlen, fun i hi => ?_⟩
  rw [row_get (by omega), List.getElem_take]
  exact List.pairwise_iff_getElem.1 hs i j (by omega) hj (by omega)
end Go.Proofs.YtnmcmologlgccaaGreat
