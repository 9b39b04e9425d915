/- Arrays: whether rows are one, on both sides. No condition beyond those stated. -/
import Derived.Test.YtainkgckahcdnaaCmp
import Derived.Test.YtainkgckahcdnaaObj
namespace Go.Proofs.Ytainkgckahcdnaa
open Go.RowKit

def rowOk (l c : Int) (z : List Int) : Prop := (z.length : Int) = c ∧ ∀ k, k < z.length → 0 ≤ nth z k ∧ nth z k ≤ l - 1
def rowsTo (l c : Int) (rs : List (List Int)) (k : Nat) : Prop := ∀ i, i < k → rowOk l c (row rs i)
theorem rowsTo_step {l c : Int} {rs : List (List Int)} {k : Nat} (h : rowsTo l c rs k) (h1 : rowOk l c (row rs k)) : rowsTo l c rs (k + 1) := fun j hj => by
  rcases Nat.lt_succ_iff_lt_or_eq.1 hj with h' | h'
  · exact h j h'
  · rw [h']; exact h1
def inTo (l : Int) (z : List Int) (k : Nat) : Prop := ∀ i, i < k → 0 ≤ nth z i ∧ nth z i ≤ l - 1
theorem inTo_step {l : Int} {z : List Int} {k : Nat} (h : inTo l z k) (h1 : 0 ≤ nth z k ∧ nth z k ≤ l - 1) : inTo l z (k + 1) := fun j hj => by
  rcases Nat.lt_succ_iff_lt_or_eq.1 hj with h' | h'
  · exact h j h'
  · rw [h']; exact h1
def shapeB (l c : Int) : Bool := inB l 2 16 && inB c 1 8
def outB (l x : Int) : Bool := !inB x 0 (l - 1)
theorem outB_any {l c : Int} {z : List Int} (hc : (z.length : Int) = c) : (!z.any (outB l)) = tB (rowOk l c z) := by
  cases h : z.any (outB l) with
  | true =>
    obtain ⟨x, hx, hb⟩ := List.any_eq_true.1 h
    obtain ⟨k, hk, rfl⟩ := List.mem_iff_getElem.1 hx
    rw [tB_no (p := rowOk l c z) fun hh => ?_]
    · rfl
    · have := hh.2 k hk
      rw [nth_get hk] at this
      rw [outB, inB_mk this] at hb
      cases hb
  | false =>
    rw [tB_yes (p := rowOk l c z) ⟨hc, fun i hi => ?_⟩]
    · rfl
    · rw [List.any_eq_false] at h
      have := h z[i] (List.getElem_mem hi)
      rw [nth_get hi]
      exact inB_true (by simpa [outB] using this)

set_option maxHeartbeats 400000 in
theorem isShape_any (l c : Int) (w : World) : Calls Try.prog 67 #[.int .i64 l, .int .i64 c] w fun e w' => e = .returned (.bool (shapeB l c)) ∧ w = w' := by
  cases h1 : inB l 2 16 with
  | true =>
    have H := Lib.hid (show shapeB l c = inB c 1 8 by simp [shapeB, h1])
    go_enter Try.func67, Try.ntmps67
    go_wp2_with (first | (go_at_call 62; (with_reducible refine (within_any l _ _ _).mono ?_); rintro e w' ⟨rfl, rfl⟩; rw [h1]) | (go_at_call 62; refine (within_any c _ _ _).mono ?_; rintro e w' ⟨rfl, rfl⟩))
    go_ret
    exact ⟨by rw [H.out]; rfl, rfl⟩
  | false =>
    have H := Lib.hid (show shapeB l c = false by simp [shapeB, h1])
    go_enter Try.func67, Try.ntmps67
    go_wp2_with (go_at_call 62; refine (within_any l _ _ _).mono ?_; rintro e w' ⟨rfl, rfl⟩; rw [h1])
    go_ret
    exact ⟨by rw [H.out]; rfl, rfl⟩
set_option maxHeartbeats 400000 in
theorem l16Shape_any (l c : Int) (w : World) : Calls Try.prog 65 #[.int .i64 l, .int .i64 c] w fun e w' => e = .returned (.bool (shapeB l c)) ∧ w = w' := by
  cases h1 : inB l 2 16 with
  | true =>
    have H := Lib.hid (show shapeB l c = inB c 1 8 by simp [shapeB, h1])
    go_enter Try.func65, Try.ntmps65
    go_wp2_with (first | (go_at_call 66; (with_reducible refine (l00In_any l _ _ _).mono ?_); rintro e w' ⟨rfl, rfl⟩; rw [h1]) | (go_at_call 66; refine (l00In_any c _ _ _).mono ?_; rintro e w' ⟨rfl, rfl⟩))
    go_ret
    exact ⟨by rw [H.out]; rfl, rfl⟩
  | false =>
    have H := Lib.hid (show shapeB l c = false by simp [shapeB, h1])
    go_enter Try.func65, Try.ntmps65
    go_wp2_with (go_at_call 66; refine (l00In_any l _ _ _).mono ?_; rintro e w' ⟨rfl, rfl⟩; rw [h1])
    go_ret
    exact ⟨by rw [H.out]; rfl, rfl⟩
theorem array_iff (l c : Int) (rs : List (List Int)) : Array' l c rs ↔ ((2 ≤ l ∧ l ≤ 16) ∧ 1 ≤ c ∧ c ≤ 8) ∧ rs.length ≤ 256 ∧ rowsTo l c rs rs.length :=
  ⟨fun h => ⟨⟨⟨h.l1, h.l2⟩, h.c1, h.c2⟩, h.len, h.row⟩, fun h => ⟨h.1.1.1, h.1.1.2, h.1.2.1, h.1.2.2, h.2.1, h.2.2⟩⟩
theorem shapeB_true {l c : Int} (h : shapeB l c = true) : (2 ≤ l ∧ l ≤ 16) ∧ 1 ≤ c ∧ c ≤ 8 := by
  rw [shapeB, Bool.and_eq_true] at h
  exact ⟨inB_true h.1, inB_true h.2⟩
theorem shapeB_mk {l c : Int} (h : (2 ≤ l ∧ l ≤ 16) ∧ 1 ≤ c ∧ c ≤ 8) : shapeB l c = true := by
  rw [shapeB, inB_mk h.1, inB_mk h.2]; rfl

set_option maxHeartbeats 400000 in
theorem validArray1_any (x l : Int) (g : Nat) (w : World) (hp : w.cell? ⟨g, 0, none⟩ = some (.int .i64 l)) (l1 : 2 ≤ l) (l2 : l ≤ 16) :
    Calls Try.prog 68 #[.int .i64 x, .pointer (some ⟨g, 0, none⟩)] w fun e w' => e = .returned (.bool (outB l x)) ∧ w = w' := by
  have H := Lib.hid (show (!inB x 0 (l - 1)) = outB l x from rfl)
  go_enter Try.func68, Try.ntmps68
  go_wp2_with (go_at_call 62; refine (within_any _ _ _ _).mono ?_; rintro e w' ⟨rfl, rfl⟩)
  go_ret
  exact ⟨by rw [← H.out]; rfl, rfl⟩
set_option maxRecDepth 100000 in
set_option maxHeartbeats 2000000 in
theorem validArray_any (l k : Int) (A : Option Addr) (n c : Nat) (rs : List (List Int)) (w : World) (ha : RR w A n rs) (hn : n ≤ 9223372036854775807) :
    Calls Try.prog 47 #[.agg #[.int .i64 l, .int .i64 k, .slice A n c]] w (RetB w (tB (Array' l k rs))) := by
  have hla := Lib.hid ha.len
  have eg : ∀ (args : Array Value) (w : World), (callFunc 68 args).run Try.prog w = .ok (.enter 68 args) w := fun _ _ => by kernel_rfl
  have hb1 := below_alloc w (.cells #[.int .i64 l, .int .i64 k, .slice A n c] 37)
  have B1 := Blk.new w 37 #[.int .i64 l, .int .i64 k, .slice A n c]
  have HD := Lib.hid (array_iff l k rs)
  cases h1 : shapeB l k with
  | false =>
    have H := Lib.hid (show tB (Array' l k rs) = false from tB_no fun hh => by
      rw [shapeB_mk (HD.out.1 hh).1] at h1; cases h1)
    go_enter Try.func47, Try.ntmps47
    go_wp2_with (go_at_call 67; refine (isShape_any _ _ _).mono ?_; rintro e w' ⟨rfl, rfl⟩; rw [h1])
    go_ret
    exact ⟨by rw [H.out]; rfl, hb1⟩
  | true =>
    obtain ⟨⟨l1, l2⟩, k1, k2⟩ := shapeB_true h1
    by_cases h2 : n ≤ 256
    · have ha1 := ha.keep hb1
      go_enter Try.func47, Try.ntmps47
      go_wp2_with (go_at_call 67; refine (isShape_any _ _ _).mono ?_; rintro e w' ⟨rfl, rfl⟩; rw [h1])
      go_loopw [20] (fun i wr => ∃ j : Nat, j ≤ n ∧ i = .int .i64 j ∧ Below w.heap.size w wr ∧ Blk wr w.heap.size 37 #[.int .i64 l, .int .i64 k, .slice A n c] ∧ rowsTo l k rs j) (fun i _ => n - (intOf i).toNat)
      case atStart => exact ⟨0, Nat.zero_le _, rfl, hb1, B1, fun _ h => absurd h (by omega)⟩
      case round =>
        clear hb1 B1 ha1
        obtain ⟨j, hj, rfl, hb, hB, hto⟩ := hrel
        obtain ⟨x0, x1, x2⟩ := hB.cells3
        by_cases hlt : j < n
        · obtain ⟨a, A1, n1, c1, rfl, hca, hn1, hc1, ha1⟩ := (ha.keep hb).get hlt
          have hl1 := Lib.hid ha1.len
          by_cases h3 : (n1 : Int) = k
          · have h3' : ((n1 : Int) != k) = false := by simp [h3]
            have hk := Lib.hid (show ((row rs j).length : Int) = k by rw [hl1.out]; exact h3)
            clear h3
            have hask : ∀ q, AskIq 68 #[.pointer (some ⟨w.heap.size, 0, none⟩)] (outB l) (wr.drewN q) := fun q x _ => validArray1_any x l w.heap.size (wr.drewN q) x0 l1 l2
            cases h4 : (row rs j).any (outB l) with
            | false =>
              have hc2 : ∀ q, Calls Try.prog 60 #[.slice A1 n1 c1, .func (.func 68) #[] #[.pointer (some ⟨w.heap.size, 0, none⟩)]] (wr.drewN q) (Quiet (wr.drewN q) (.bool false)) := fun q => by
                rw [← h4]; exact (containsFuncIq _ _ eg (outB l) A1 n1 c1 (row rs j) _ (ha1.drewN q) (by omega) (hask q)).mono fun _ _ h => Quiet.of_same h
              have hc1 : ∀ q, Calls Try.prog 54 #[.slice A1 n1 c1] (wr.drewN q) (Quiet (wr.drewN q) (.int .i64 n1)) := fun q => (sizeI_any A1 n1 c1 _ (by omega)).mono fun _ _ h => Quiet.of_same h
              have H := Lib.hid (rowsTo_step hto (tB_true.1 (by rw [← outB_any hk.out, h4]; rfl)))
              clear hto h4 hask
              go_wp2
              go_quiet ((first | (go_at_call 54; exact Quiet.call (hc1 _)) | (go_at_call 60; exact Quiet.call (hc2 _))))
              go_wp2
              go_roundw
              case rel => exact ⟨j + 1, by omega, by go_num, hb.trans ((below_drewn _ _).mono hb.size), hB.after (below_drewn _ _), H.out⟩
              case measure => simp [intOf]; omega
            | true =>
              have hc2 : ∀ q, Calls Try.prog 60 #[.slice A1 n1 c1, .func (.func 68) #[] #[.pointer (some ⟨w.heap.size, 0, none⟩)]] (wr.drewN q) (Quiet (wr.drewN q) (.bool true)) := fun q => by
                rw [← h4]; exact (containsFuncIq _ _ eg (outB l) A1 n1 c1 (row rs j) _ (ha1.drewN q) (by omega) (hask q)).mono fun _ _ h => Quiet.of_same h
              have hc1 : ∀ q, Calls Try.prog 54 #[.slice A1 n1 c1] (wr.drewN q) (Quiet (wr.drewN q) (.int .i64 n1)) := fun q => (sizeI_any A1 n1 c1 _ (by omega)).mono fun _ _ h => Quiet.of_same h
              have H := Lib.hid (show tB (Array' l k rs) = false from tB_no fun hh => by
                have h5 := tB_yes (hh.row j (by rw [hla.out]; exact hlt))
                have h6 := outB_any (l := l) hk.out
                rw [h4] at h6
                rw [show tB (rowOk l k (row rs j)) = true from h5] at h6
                cases h6)
              clear hto h4 hask
              go_wp2
              go_quiet ((first | (go_at_call 54; exact Quiet.call (hc1 _)) | (go_at_call 60; exact Quiet.call (hc2 _))))
              go_wp2
              go_ret
              exact ⟨by rw [H.out]; rfl, hb.trans ((below_drewn _ _).mono hb.size)⟩
          · have h3' : ((n1 : Int) != k) = true := by simp [h3]
            have hc1 : ∀ q, Calls Try.prog 54 #[.slice A1 n1 c1] (wr.drewN q) (Quiet (wr.drewN q) (.int .i64 n1)) := fun q => (sizeI_any A1 n1 c1 _ (by omega)).mono fun _ _ h => Quiet.of_same h
            have H := Lib.hid (show tB (Array' l k rs) = false from tB_no fun hh => h3 (by
              have := (hh.row j (by rw [hla.out]; exact hlt)).1
              rw [hl1.out] at this; exact this))
            clear hto h3
            go_wp2
            go_quiet ((go_at_call 54; exact Quiet.call (hc1 _)))
            go_wp2
            go_ret
            exact ⟨by rw [H.out]; rfl, hb.trans ((below_drewn _ _).mono hb.size)⟩
        · have H := Lib.hid (show tB (Array' l k rs) = true from tB_yes (HD.out.2 ⟨⟨⟨l1, l2⟩, k1, k2⟩, by rw [hla.out]; exact h2, by rw [hla.out]; rwa [show j = n by omega] at hto⟩))
          clear hto
          go_wp2
          go_ret
          exact ⟨by rw [H.out]; rfl, hb⟩
    · have H := Lib.hid (show tB (Array' l k rs) = false from tB_no fun hh => h2 (by have := hh.len; rw [hla.out] at this; exact this))
      have h2' : 256 < n := by omega
      go_enter Try.func47, Try.ntmps47
      go_wp2_with (go_at_call 67; refine (isShape_any _ _ _).mono ?_; rintro e w' ⟨rfl, rfl⟩; rw [h1])
      go_ret
      exact ⟨by rw [H.out]; rfl, hb1⟩
set_option maxRecDepth 100000 in
set_option maxHeartbeats 4000000 in
theorem l16Ok_any (g : Nat) (l k : Int) (A : Option Addr) (n c : Nat) (rs : List (List Int)) (w : World) (hB : Blk w g 37 #[.int .i64 l, .int .i64 k, .slice A n c]) (ha : RR w A n rs) (hn : n ≤ 9223372036854775807) :
    Calls Try.prog 46 #[.pointer (some ⟨g, 0, none⟩)] w (Quiet w (.bool (tB (Array' l k rs)))) := by
  have hla := Lib.hid ha.len
  obtain ⟨x0, x1, x2⟩ := hB.cells3
  have HD := Lib.hid (array_iff l k rs)
  cases h1 : shapeB l k with
  | false =>
    have H := Lib.hid (show tB (Array' l k rs) = false from tB_no fun hh => by
      rw [shapeB_mk (HD.out.1 hh).1] at h1; cases h1)
    have hc1 : ∀ q, Calls Try.prog 65 #[.int .i64 l, .int .i64 k] (w.drewN q) (Quiet (w.drewN q) (.bool false)) := fun q => by rw [← h1]; exact (l16Shape_any l k _).mono fun _ _ h => Quiet.of_same h
    go_enter Try.func46, Try.ntmps46
    go_wp2
    go_quiet ((go_at_call 65; exact Quiet.call (hc1 _)))
    go_wp2
    go_ret
    exact ⟨by rw [H.out]; rfl, (Drawn.refl _).more _⟩
  | true =>
    obtain ⟨⟨l1, l2⟩, k1, k2⟩ := shapeB_true h1
    have hc1 : ∀ q, Calls Try.prog 65 #[.int .i64 l, .int .i64 k] (w.drewN q) (Quiet (w.drewN q) (.bool true)) := fun q => by rw [← h1]; exact (l16Shape_any l k _).mono fun _ _ h => Quiet.of_same h
    clear h1
    by_cases h2 : n ≤ 256
    · have h2' : decide (256 < n) = false := by simp; omega
      have h2'' : decide ((256 : Int) < (n : Int)) = false := by simp; omega
      go_enter Try.func46, Try.ntmps46
      go_wp2
      go_quiet ((go_at_call 65; exact Quiet.call (hc1 _)))
      go_wp2
      generalize hw1 : w.drewN _ = w1
      have hd0 : Drawn w w1 := ⟨_, hw1.symm⟩
      clear hw1 hc1 h2' h2'' x0 x1 x2
      go_loopw [3] (fun i wr => ∃ j : Nat, j ≤ n ∧ i = .int .i64 j ∧ Drawn w wr ∧ rowsTo l k rs j) (fun i _ => n - (intOf i).toNat)
      case atStart => exact ⟨0, Nat.zero_le _, rfl, hd0, fun _ h => absurd h (by omega)⟩
      case round =>
        obtain ⟨j, hj, rfl, hd, hto⟩ := hrel
        obtain ⟨x0, x1, x2⟩ := (hB.after hd.below).cells3
        by_cases hlt : j < n
        · obtain ⟨a, A1, n1, c1, rfl, hca, hn1, hc1, ha1⟩ := (ha.drawn hd).get hlt
          have hl1 := Lib.hid ha1.len
          by_cases h3 : (n1 : Int) = k
          · have h3' : ((n1 : Int) != k) = false := by simp [h3]
            have hk := Lib.hid (show ((row rs j).length : Int) = k by rw [hl1.out]; exact h3)
            clear h3
            go_wp2
            go_quiet (fail)
            go_wp2
            generalize hw2 : wr.drewN _ = w2
            have hd2 : Drawn w w2 := by rw [← hw2]; exact hd.more _
            have hd3 : Drawn wr w2 := ⟨_, hw2.symm⟩
            clear hw2 h3' x0 x1 x2
            go_loopw [4] (fun i ws => ∃ m : Nat, m ≤ n1 ∧ i = .int .i64 m ∧ Drawn wr ws ∧ inTo l (row rs j) m) (fun i _ => n1 - (intOf i).toNat)
            case atStart => exact ⟨0, Nat.zero_le _, rfl, hd3, fun _ h => absurd h (by omega)⟩
            case round =>
              obtain ⟨m, hm, rfl, hdm, hin⟩ := hrel
              obtain ⟨x0, x1, x2⟩ := (hB.after (hd.trans hdm).below).cells3
              have hca' := below_cell hdm.below hca
              by_cases hm' : m < n1
              · obtain ⟨b, rfl, hcb, hib⟩ := (ha1.drawn hdm).get hm'
                have e1 : IntKind.i64.wrap (l - 1) = l - 1 := IntWalk.i64_in _ (by omega)
                cases h4 : inB (nth (row rs j) m) 0 (l - 1) with
                | true =>
                  have hc1 : ∀ (wx : World) (q : Nat), Calls Try.prog 66 #[.int .i64 (nth (row rs j) m), .int .i64 0, .int .i64 (l - 1)] (wx.drewN q) (Quiet (wx.drewN q) (.bool true)) := fun wx q => by rw [← h4]; exact (l00In_any _ _ _ _).mono fun _ _ h => Quiet.of_same h
                  have H := Lib.hid (inTo_step hin (inB_true h4))
                  clear hin h4
                  go_wp2
                  go_quiet ((go_at_call 66; exact Quiet.call (hc1 _ _)))
                  clear e1
                  go_wp2
                  go_roundw
                  case rel => exact ⟨m + 1, by omega, by go_num, hdm.more _, H.out⟩
                  case measure => simp [intOf]; omega
                | false =>
                  have hc1 : ∀ (wx : World) (q : Nat), Calls Try.prog 66 #[.int .i64 (nth (row rs j) m), .int .i64 0, .int .i64 (l - 1)] (wx.drewN q) (Quiet (wx.drewN q) (.bool false)) := fun wx q => by rw [← h4]; exact (l00In_any _ _ _ _).mono fun _ _ h => Quiet.of_same h
                  have H := Lib.hid (show tB (Array' l k rs) = false from tB_no fun hh => by
                    have := (hh.row j (by rw [hla.out]; exact hlt)).2 m (by rw [hl1.out]; exact hm')
                    rw [inB_mk this] at h4; cases h4)
                  clear hin h4 hto
                  go_wp2
                  go_quiet ((go_at_call 66; exact Quiet.call (hc1 _ _)))
                  clear e1
                  go_wp2
                  go_ret
                  exact ⟨by rw [H.out]; rfl, (hd.trans hdm).more _⟩
              · have H := Lib.hid (rowsTo_step hto ⟨hk.out, by rw [hl1.out]; rwa [show m = n1 by omega] at hin⟩)
                clear hin hto
                go_wp2
                go_roundw
                case rel => exact ⟨j + 1, by omega, by go_num, hd.trans hdm, H.out⟩
                case measure => simp [intOf]; omega
          · have h3' : ((n1 : Int) != k) = true := by simp [h3]
            have H := Lib.hid (show tB (Array' l k rs) = false from tB_no fun hh => h3 (by
              have := (hh.row j (by rw [hla.out]; exact hlt)).1
              rw [hl1.out] at this; exact this))
            clear hto h3
            go_wp2
            go_quiet (fail)
            go_wp2
            go_ret
            exact ⟨by rw [H.out]; rfl, hd.more _⟩
        · have H := Lib.hid (show tB (Array' l k rs) = true from tB_yes (HD.out.2 ⟨⟨⟨l1, l2⟩, k1, k2⟩, by rw [hla.out]; exact h2, by rw [hla.out]; rwa [show j = n by omega] at hto⟩))
          clear hto
          go_wp2
          go_ret
          exact ⟨by rw [H.out]; rfl, hd⟩
    · have H := Lib.hid (show tB (Array' l k rs) = false from tB_no fun hh => h2 (by have := hh.len; rw [hla.out] at this; exact this))
      have h2' : decide (256 < n) = true := by simp; omega
      have h2'' : decide ((256 : Int) < (n : Int)) = true := by simp; omega
      go_enter Try.func46, Try.ntmps46
      go_wp2
      go_quiet ((go_at_call 65; exact Quiet.call (hc1 _)))
      go_wp2
      go_ret
      exact ⟨by rw [H.out]; rfl, (Drawn.refl _).more _⟩
end Go.Proofs.Ytainkgckahcdnaa
