/- Designs: whether blocks are one, on both sides. No condition beyond those stated. -/
import Derived.Test.YtnfddnideaakgaaZAG
import Derived.Test.YtnfddnideaakgaaZAF
set_option linter.unusedVariables false
set_option linter.unusedSimpArgs false
namespace Go.Proofs.Ytnfddnideaakgaa
open Go.RowKit

set_option maxHeartbeats 1000000 in
theorem validSet_any (A : Option Addr) (n c : Nat) (z : List Int) (v : Int) (w : World) (ha : RI w A n z) (hn : n ≤ 9223372036854775807) (v1 : 1 ≤ v) (v2 : v ≤ 32) :
    Calls Try.prog 30 #[.slice A n c, .int .i64 v] w fun e w' => e = .returned (.bool (tB (Rises z 0 (v - 1)))) ∧ w = w' := by
  have hla := Lib.hid ha.len
  have hv := Lib.hid (inB_mk (a := v) (lo := 0) (hi := 32) (by omega))
  go_enter Try.func30, Try.ntmps30
  go_wp2
  go_loop [5, 10] (fun l i => ∃ (k : Nat) (x : Int), k ≤ n ∧ i = .int .i64 k ∧ l = .int .i64 x ∧ -1 ≤ x ∧ x ≤ 31 ∧ Hid ((k = 0 ∧ x = -1) ∨ (0 < k ∧ x = nth z (k - 1))) ∧ risesTo z 0 (v - 1) k) (fun _ i => n - (intOf i).toNat)
  case atStart => exact ⟨0, -1, Nat.zero_le _, rfl, rfl, by omega, by omega, Lib.hid (.inl ⟨rfl, rfl⟩), risesTo_zero _ _ _⟩
  case round =>
    obtain ⟨k, x, hk, rfl, rfl, x1, x2, hx, hr⟩ := hrel
    by_cases hlt : k < n
    · obtain ⟨a, rfl, hca, hia⟩ := ha.get hlt
      by_cases h1 : nth z k ≤ x
      · have H := Lib.hid (show tB (Rises z 0 (v - 1)) = false from tB_no fun hh => by
          rcases hx.out with ⟨_, e⟩ | ⟨e0, e⟩
          · have := (hh.bd k (by rw [hla.out]; exact hlt)).1; omega
          · have := hh.up (k - 1) (by rw [hla.out]; omega)
            rw [show k - 1 + 1 = k by omega] at this
            omega)
        clear hr hx
        go_wp2
        go_ret
        exact ⟨by rw [H.out]; rfl, rfl⟩
      · by_cases h2 : v ≤ nth z k
        · have H := Lib.hid (show tB (Rises z 0 (v - 1)) = false from tB_no fun hh => by
            have := (hh.bd k (by rw [hla.out]; exact hlt)).2; omega)
          clear hr hx
          go_wp2
          go_ret
          exact ⟨by rw [H.out]; rfl, rfl⟩
        · have h3 : 0 ≤ nth z k := by omega
          have H := Lib.hid (risesTo_step hr ⟨h3, by omega⟩ (fun h0 => by
            rcases hx.out with ⟨e, _⟩ | ⟨e0, e⟩
            · omega
            · rw [← e]; omega))
          clear hr hx
          go_wp2
          go_round
          case rel => exact ⟨k + 1, nth z k, by omega, by go_num, rfl, by omega, by omega, Lib.hid (.inr ⟨by omega, by simp⟩), H.out⟩
          case measure => simp [intOf]; omega
    · have H := Lib.hid (show tB (Rises z 0 (v - 1)) = true from tB_yes (risesTo_all hla.out (by rwa [show k = n by omega] at hr)))
      clear hr hx
      go_wp2_with (go_at_call 20; refine (within_any _ _ _ _).mono ?_; rintro e w' ⟨rfl, rfl⟩)
      go_ret
      exact ⟨by rw [H.out]; exact ret_bool hv.out, rfl⟩
set_option maxHeartbeats 400000 in
theorem isBlock_any (A : Option Addr) (n c : Nat) (z : List Int) (v : Int) (w : World) (ha : RI w A n z) (hn : n ≤ 9223372036854775807) (v1 : 1 ≤ v) (v2 : v ≤ 32) :
    Calls Try.prog 45 #[.slice A n c, .int .i64 v] w fun e w' => e = .returned (.bool (tB (Block z v))) ∧ w = w' := by
  have hla := Lib.hid ha.len
  by_cases h0 : 0 < n
  · have H := Lib.hid (show tB (Rises z 0 (v - 1)) = tB (Block z v) from tB_congr ⟨fun h => ⟨by rw [hla.out]; exact h0, h⟩, fun h => h.2⟩)
    go_enter Try.func45, Try.ntmps45
    go_wp2_with (go_at_call 30; refine (validSet_any _ _ _ z _ _ ha hn v1 v2).mono ?_; rintro e w' ⟨rfl, rfl⟩)
    go_ret
    exact ⟨by rw [← H.out]; rfl, rfl⟩
  · have H := Lib.hid (show tB (Block z v) = false from tB_no fun h => h0 (by rw [← hla.out]; exact h.1))
    go_enter Try.func45, Try.ntmps45
    go_wp2
    go_ret
    exact ⟨by rw [H.out]; rfl, rfl⟩
set_option maxHeartbeats 400000 in
theorem l10Block_any (A : Option Addr) (n c : Nat) (z : List Int) (v : Int) (w : World) (ha : RI w A n z) (hn : n ≤ 9223372036854775807) (v1 : 1 ≤ v) (v2 : v ≤ 64) :
    Calls Try.prog 54 #[.slice A n c, .int .i64 v] w (Quiet w (.bool (tB (Block z v)))) := by
  have hla := Lib.hid ha.len
  by_cases h0 : 0 < n
  · have H := Lib.hid (show tB (Rises z 0 (v - 1)) = tB (Block z v) from tB_congr ⟨fun h => ⟨by rw [hla.out]; exact h0, h⟩, fun h => h.2⟩)
    go_enter Try.func54, Try.ntmps54
    go_wp2_with (go_at_call 71; refine (l00Rises_any _ _ _ z _ _ _ ha hn).mono ?_; rintro e w1 ⟨rfl, hd1⟩)
    go_ret
    exact ⟨by rw [← H.out]; rfl, hd1⟩
  · have H := Lib.hid (show tB (Block z v) = false from tB_no fun h => h0 (by rw [← hla.out]; exact h.1))
    go_enter Try.func54, Try.ntmps54
    go_wp2
    go_ret
    exact ⟨by rw [H.out]; rfl, Drawn.refl _⟩
/-- all lists are blocks -/
def allBlk (bs : List (List Int)) (v : Int) : Prop := ∀ i, i < bs.length → Block (row bs i) v
noncomputable def noBlk (v : Int) (z : List Int) : Bool := !tB (Block z v)
theorem noBlk_any (bs : List (List Int)) (v : Int) : (!bs.any (noBlk v)) = tB (allBlk bs v) := by
  cases h : bs.any (noBlk v) with
  | true =>
    obtain ⟨x, hx, hb⟩ := List.any_eq_true.1 h
    obtain ⟨k, hk, rfl⟩ := List.mem_iff_getElem.1 hx
    rw [tB_no (p := allBlk bs v) fun hh => ?_]
    · rfl
    · have := hh k hk
      rw [row_get hk] at this
      simp [noBlk, tB_yes this] at hb
  | false =>
    rw [tB_yes (p := allBlk bs v) fun i hi => ?_]
    · rfl
    · rw [List.any_eq_false] at h
      have := h bs[i] (List.getElem_mem hi)
      rw [row_get hi]
      exact tB_true.1 (by simpa [noBlk] using this)
set_option maxHeartbeats 400000 in
theorem areBlocks1_any (A : Option Addr) (n c : Nat) (z : List Int) (v : Int) (p : Addr) (w : World) (hp : w.cell? p = some (.int .i64 v)) (ha : RI w A n z) (hn : n ≤ 9223372036854775807) (v1 : 1 ≤ v) (v2 : v ≤ 32) :
    Calls Try.prog 44 #[.slice A n c, .pointer (some p)] w fun e w' => e = .returned (.bool (noBlk v z)) ∧ w = w' := by
  go_enter Try.func44, Try.ntmps44
  go_wp2_with (go_at_call 45; refine (isBlock_any _ _ _ z _ _ ha hn v1 v2).mono ?_; rintro e w' ⟨rfl, rfl⟩)
  go_ret
  exact ⟨rfl, rfl⟩
set_option maxHeartbeats 400000 in
theorem areBlocks_any (A : Option Addr) (n c : Nat) (bs : List (List Int)) (v : Int) (w : World) (ha : RR w A n bs) (hn : n ≤ 9223372036854775807) :
    Calls Try.prog 28 #[.slice A n c, .int .i64 v] w (RetB w (inB v 1 32 && tB (allBlk bs v))) := by
  have eg : ∀ (args : Array Value) (w : World), (callFunc 44 args).run Try.prog w = .ok (.enter 44 args) w := fun _ _ => by kernel_rfl
  have hb1 := below_alloc w (.cells #[.int .i64 v] 2)
  have hcell : (w.alloc (.cells #[.int .i64 v] 2)).cell? ⟨w.heap.size, 0, none⟩ = some (.int .i64 v) := (Blk.new w 2 #[.int .i64 v]).cell 0
  cases h1 : inB v 1 32 with
  | true =>
    obtain ⟨v1, v2⟩ := inB_true h1
    have hask : AskR 44 #[.pointer (some ⟨w.heap.size, 0, none⟩)] (noBlk v) (w.alloc (.cells #[.int .i64 v] 2)) := fun A' n' c' z W hW hz h2 h3 =>
      (areBlocks1_any A' n' c' z v _ W (below_cell hW hcell) hz (by omega) v1 v2).mono fun _ _ h => RetB.of_same h
    have H := Lib.hid (noBlk_any bs v)
    go_enter Try.func28, Try.ntmps28
    go_wp2_with (first
      | (go_at_call 20; refine (within_any _ _ _ _).mono ?_; rintro e w' ⟨rfl, rfl⟩; rw [h1])
      | (go_at_call 43; refine (containsFuncR _ _ eg (noBlk v) A n c bs _ (ha.keep hb1) hn hask).mono ?_; rintro e w2 ⟨rfl, hb2⟩))
    go_ret
    exact ⟨by rw [← H.out]; rfl, below_then hb1 hb2⟩
  | false =>
    go_enter Try.func28, Try.ntmps28
    go_wp2_with (go_at_call 20; refine (within_any _ _ _ _).mono ?_; rintro e w' ⟨rfl, rfl⟩; rw [h1])
    go_ret
    exact ⟨rfl, hb1⟩

def sortedTo (bs : List (List Int)) (x : Int) : Prop := ∀ j : Nat, x ≤ j → j + 1 < bs.length → cmpL (row bs j) (row bs (j + 1)) ≤ 0
def sortedR (bs : List (List Int)) : Prop := ∀ j : Nat, j + 1 < bs.length → cmpL (row bs j) (row bs (j + 1)) ≤ 0
theorem design_iff (v : Int) (bs : List (List Int)) : Design v bs ↔ (1 ≤ v ∧ v ≤ 32) ∧ allBlk bs v ∧ bs.length ≤ 128 ∧ sortedR bs :=
  ⟨fun h => ⟨⟨h.v1, h.v2⟩, h.blk, h.len, h.ord⟩, fun h => ⟨h.1.1, h.1.2, h.2.2.1, h.2.1, h.2.2.2⟩⟩
def blkTo (bs : List (List Int)) (v : Int) (k : Nat) : Prop := (∀ i, i < k → Block (row bs i) v) ∧ ∀ i, i + 1 < k → cmpL (row bs i) (row bs (i + 1)) ≤ 0
theorem blkTo_step {bs : List (List Int)} {v : Int} {k : Nat} (h : blkTo bs v k) (h1 : Block (row bs k) v) (h2 : 0 < k → cmpL (row bs (k - 1)) (row bs k) ≤ 0) : blkTo bs v (k + 1) :=
  ⟨fun j hj => by
    rcases Nat.lt_succ_iff_lt_or_eq.1 hj with h' | h'
    · exact h.1 j h'
    · rw [h']; exact h1,
   fun j hj => by
    rcases Nat.lt_succ_iff_lt_or_eq.1 hj with h' | h'
    · exact h.2 j h'
    · have := h2 (by omega)
      have e : k = j + 1 := h'.symm
      subst e
      simpa using this⟩
set_option maxRecDepth 100000 in
set_option maxHeartbeats 2000000 in
theorem l10Ok_any (g : Nat) (v : Int) (A : Option Addr) (n c : Nat) (bs : List (List Int)) (w : World) (hB : Blk w g 32 #[.int .i64 v, .slice A n c]) (ha : RR w A n bs) (hn : n ≤ 9223372036854775807) :
    Calls Try.prog 40 #[.pointer (some ⟨g, 0, none⟩)] w (Quiet w (.bool (tB (Design v bs)))) := by
  have hla := Lib.hid ha.len
  obtain ⟨x0, x1⟩ := hB.cells2
  cases h1 : inB v 1 32 with
  | false =>
    have H := Lib.hid (show tB (Design v bs) = false from tB_no fun hh => by rw [inB_mk ⟨hh.v1, hh.v2⟩] at h1; cases h1)
    go_enter Try.func40, Try.ntmps40
    go_wp2_with (go_at_call 53; refine (l00In_any _ _ _ _).mono ?_; rintro e w' ⟨rfl, rfl⟩; rw [h1])
    go_ret
    exact ⟨by rw [H.out]; rfl, Drawn.refl _⟩
  | true =>
    obtain ⟨v1, v2⟩ := inB_true h1
    by_cases h2 : n ≤ 128
    · go_enter Try.func40, Try.ntmps40
      go_wp2_with (go_at_call 53; refine (l00In_any _ _ _ _).mono ?_; rintro e w' ⟨rfl, rfl⟩; rw [h1])
      go_loopw [3] (fun i wr => ∃ k : Nat, k ≤ n ∧ i = .int .i64 k ∧ Drawn w wr ∧ blkTo bs v k) (fun i _ => n - (intOf i).toNat)
      case atStart => exact ⟨0, Nat.zero_le _, rfl, Drawn.refl _, fun _ h => absurd h (by omega), fun _ h => absurd h (by omega)⟩
      case round =>
        obtain ⟨k, hk, rfl, hd, hto⟩ := hrel
        clear x0 x1
        obtain ⟨x0, x1⟩ := (hB.after hd.below).cells2
        by_cases hlt : k < n
        · obtain ⟨a, A1, n1, c1, rfl, hca, hn1, hc1, ha1⟩ := (ha.drawn hd).get hlt
          cases h3 : tB (Block (row bs k) v) with
          | false =>
            have hcall : ∀ q, Calls Try.prog 54 #[.slice A1 n1 c1, .int .i64 v] (wr.drewN q) (Quiet (wr.drewN q) (.bool false)) := fun q => by
              rw [← h3]; exact l10Block_any A1 n1 c1 _ v _ (ha1.drewN q) (by omega) v1 (by omega)
            have H := Lib.hid (show tB (Design v bs) = false from tB_no fun hh => by
              rw [tB_yes (hh.blk k (by rw [hla.out]; exact hlt))] at h3; cases h3)
            clear hto h3
            go_wp2
            go_quiet ((go_at_call 54; exact Quiet.call (hcall _)))
            go_wp2
            go_ret
            exact ⟨by rw [H.out]; rfl, hd.more _⟩
          | true =>
            have hcall : ∀ q, Calls Try.prog 54 #[.slice A1 n1 c1, .int .i64 v] (wr.drewN q) (Quiet (wr.drewN q) (.bool true)) := fun q => by
              rw [← h3]; exact l10Block_any A1 n1 c1 _ v _ (ha1.drewN q) (by omega) v1 (by omega)
            have hbk := Lib.hid (tB_true.1 h3)
            clear h3
            by_cases h0 : k ≤ 0
            · have g1 : decide ((0 : Int) < (k : Int)) = false := by simp; omega
              have g2 : decide (0 < k) = false := by simp; omega
              have H := Lib.hid (blkTo_step hto hbk.out (fun h => absurd h (by omega)))
              clear hto
              go_wp2
              go_quiet ((go_at_call 54; exact Quiet.call (hcall _)))
              go_wp2
              go_roundw
              case rel => exact ⟨k + 1, by omega, by go_num, hd.more _, H.out⟩
              case measure => simp [intOf]; omega
            · have h0' : 0 < k := by omega
              obtain ⟨b, A2, n2, c2, hb', hcb, hn2, hc2, ha2⟩ := (ha.drawn hd).get (show k - 1 < n by omega)
              obtain rfl : a = b := by injection hb'
              clear hb' h0
              have hcall2 : ∀ q, Calls Try.prog 55 #[.slice A2 n2 c2, .slice A1 n1 c1] (wr.drewN q) (Quiet (wr.drewN q) (.int .i64 (cmpL (row bs (k - 1)) (row bs k)))) := fun q =>
                compareLists_any A2 A1 n2 n1 c2 c1 _ _ _ (ha2.drewN q) (ha1.drewN q) (by omega) (by omega)
              have e1 : IntKind.i64.wrap ((k : Int) - 1) = (k : Int) - 1 := IntWalk.i64_in _ (by omega)
              have e2 : ((k : Int) - 1).toNat = k - 1 := by omega
              have e3 : (0 : Int) ≤ (k : Int) - 1 := by omega
              by_cases h4 : cmpL (row bs (k - 1)) (row bs k) ≤ 0
              · have h4' : decide (0 < cmpL (row bs (k - 1)) (row bs k)) = false := by simp; omega
                have H := Lib.hid (blkTo_step hto hbk.out (fun _ => h4))
                clear hto
                go_wp2
                go_quiet ((first | (go_at_call 54; exact Quiet.call (hcall _)) | (go_at_call 55; exact Quiet.call (hcall2 _))))
                clear e1 e2 e3
                go_wp2
                go_roundw
                case rel => exact ⟨k + 1, by omega, by go_num, hd.more _, H.out⟩
                case measure => simp [intOf]; omega
              · have h4' : decide (0 < cmpL (row bs (k - 1)) (row bs k)) = true := by simp; omega
                have H := Lib.hid (show tB (Design v bs) = false from tB_no fun hh => by
                  have := hh.ord (k - 1) (by rw [hla.out]; omega)
                  rw [show k - 1 + 1 = k by omega] at this
                  exact h4 this)
                clear hto
                go_wp2
                go_quiet ((first | (go_at_call 54; exact Quiet.call (hcall _)) | (go_at_call 55; exact Quiet.call (hcall2 _))))
                clear e1 e2 e3
                go_wp2
                go_ret
                exact ⟨by rw [H.out]; rfl, hd.more _⟩
        · have H := Lib.hid (show tB (Design v bs) = true from tB_yes ⟨v1, v2, by rw [hla.out]; exact h2, by rw [hla.out]; rw [show k = n by omega] at hto; exact hto.1, by rw [hla.out]; rw [show k = n by omega] at hto; exact hto.2⟩)
          clear hto
          go_wp2
          go_ret
          exact ⟨by rw [H.out]; rfl, hd⟩
    · have H := Lib.hid (show tB (Design v bs) = false from tB_no fun hh => h2 (by have := hh.len; rw [hla.out] at this; exact this))
      have h2' : 128 < n := by omega
      go_enter Try.func40, Try.ntmps40
      go_wp2_with (go_at_call 53; refine (l00In_any _ _ _ _).mono ?_; rintro e w' ⟨rfl, rfl⟩; rw [h1])
      go_ret
      exact ⟨by rw [H.out]; rfl, Drawn.refl _⟩
end Go.Proofs.Ytnfddnideaakgaa
/- How often each point is in blocks, and the parameters of a balanced design: the reference's side. No condition beyond those stated. -/
namespace Go.Proofs.Ytnfddnideaakgaa
open Go.RowKit

/-- numbers that say how often each of v numbers is in a list -/
def CntIs (v : Nat) (zs L : List Int) : Prop := zs.length = v ∧ ∀ x, x < v → nth zs x = ((L.count (x : Int) : Nat) : Int)
theorem nth_set' {l : List Int} {i j : Nat} {x : Int} (hj : j < l.length) : nth (l.set i x) j = if i = j then x else nth l j := by
  rw [nth_get (by simpa using hj), List.getElem_set]
  split
  · rfl
  · rw [nth_get hj]
theorem CntIs.step {v : Nat} {zs L : List Int} (h : CntIs v zs L) {y : Nat} (hy : y < v) : CntIs v (zs.set y (nth zs y + 1)) (L ++ [(y : Int)]) := by
  refine ⟨by rw [List.length_set, h.1], fun x hx => ?_⟩
  rw [nth_set' (by rw [h.1]; exact hx), List.count_append, List.count_singleton]
  by_cases e : y = x
  · subst e
    rw [if_pos rfl, h.2 y hy]
    simp
  · rw [if_neg e, h.2 x hx]
    have : ((y : Int) == (x : Int)) = false := by simp; omega
    rw [this]
    simp
noncomputable def repP (v : Nat) (bs : List (List Int)) : List Int := (List.range v).map fun (x : Nat) => ((bs.flatten.count (x : Int) : Nat) : Int)
theorem CntIs.eq {v : Nat} {zs : List Int} {bs : List (List Int)} (h : CntIs v zs bs.flatten) : zs = repP v bs := by
  refine List.ext_getElem (by rw [h.1]; simp [repP]) fun x h1 h2 => ?_
  have hx : x < v := by rw [← h.1]; exact h1
  have := h.2 x hx
  rw [nth_get h1] at this
  rw [this]
  simp [repP]
theorem flat_take {bs : List (List Int)} {i : Nat} (h : i < bs.length) : (bs.take (i + 1)).flatten = (bs.take i).flatten ++ row bs i := by
  rw [List.take_succ_eq_append_getElem h, List.flatten_append, ← row_get h]
  simp
theorem row_take {z : List Int} {k : Nat} (h : k < z.length) : z.take (k + 1) = z.take k ++ [nth z k] := by
  rw [List.take_succ_eq_append_getElem h, nth_get h]
theorem flat_len {bs : List (List Int)} {v : Nat} (h : ∀ i, i < bs.length → (row bs i).length ≤ v) : ∀ k, k ≤ bs.length → (bs.take k).flatten.length ≤ k * v := by
  intro k
  induction k with
  | zero => intro _; simp
  | succ k ih =>
    intro hk
    have := ih (by omega)
    have := h k (by omega)
    rw [flat_take (by omega), List.length_append, Nat.succ_mul]
    omega
theorem des_row {v : Nat} {bs : List (List Int)} (h : Design (v : Int) bs) {i : Nat} (hi : i < bs.length) : (row bs i).length ≤ v ∧ ∀ k, k < (row bs i).length → ∃ y : Nat, nth (row bs i) k = (y : Int) ∧ y < v := by
  have hb := h.blk i hi
  have hbd : ∀ k, k < (row bs i).length → ∃ y : Nat, nth (row bs i) k = (y : Int) ∧ y < v := fun k hk => by
    have := hb.2.bd k hk
    exact ⟨(nth (row bs i) k).toNat, by omega, by omega⟩
  refine ⟨?_, hbd⟩
  have hup : ∀ k, k < (row bs i).length → (k : Int) ≤ nth (row bs i) k := by
    intro k
    induction k with
    | zero => intro hk; have := hb.2.bd 0 hk; omega
    | succ k ih =>
      intro hk
      have h1 := ih (by omega)
      have h2 := hb.2.up k hk
      omega
  have h0 := hb.1
  have h1 := hup ((row bs i).length - 1) (by omega)
  have h2 := hb.2.bd ((row bs i).length - 1) (by omega)
  omega
theorem grown_setB {w : World} {g p : Nat} {u : Value} : w.grownBy (w.setCell ⟨g, p, none⟩ u) (blk (some (⟨g, 0, none⟩ : Addr))) :=
  ⟨rfl, rfl, rfl, by simp [World.setCell], fun k _ hk => Below.heap_setCell _ _ _ _ (fun e => hk (by rw [e]; rfl))⟩
set_option maxRecDepth 100000 in
set_option maxHeartbeats 1000000 in
theorem l10Replications_any (g v : Nat) (A : Option Addr) (n c : Nat) (bs : List (List Int)) (w : World) (hB : Blk w g 32 #[.int .i64 (v : Int), .slice A n c]) (ha : RR w A n bs) (hD : Design (v : Int) bs) :
    Calls Try.prog 57 #[.pointer (some ⟨g, 0, none⟩)] w (RetI w 2 (repP v bs)) := by
  have hla := Lib.hid ha.len
  have hv : v ≤ 32 := by have := hD.v2; omega
  have hn : n ≤ 128 := by rw [← hla.out]; exact hD.len
  have HD := Lib.hid hD
  clear hD
  have hmk := run_make_row' (P := Try.prog) 23 2 (.int .i64 0) 8 Try.underlying23 int_info rfl .i64 .i64 v (by omega) (by omega)
  have ho0 := OI.made w w.heap.size 2 v (Nat.le_refl _) (by omega)
  have hb0 := below_alloc w (.cells (madeCells #[.int .i64 0] v) 2)
  have hX0 := hB.after hb0
  have hC0 : CntIs v (List.replicate v 0) [] := ⟨by simp, fun x hx => by simp [nth, List.getD, hx]⟩
  obtain ⟨y0, y1⟩ := hB.cells2
  go_enter Try.func57, Try.ntmps57
  go_wp2
  clear y0 y1
  go_loopw [4] (fun iv wr => ∃ (i : Nat) (zs : List Int), i ≤ n ∧ iv = .int .i64 i ∧ OI wr w.heap.size 2 (some ⟨w.heap.size, 0, none⟩) v v zs ∧ CntIs v zs (bs.take i).flatten ∧ Below w.heap.size w wr ∧ Blk wr g 32 #[.int .i64 (v : Int), .slice A n c]) (fun iv _ => n - (intOf iv).toNat)
  case atStart => exact ⟨0, _, Nat.zero_le _, rfl, ho0, by simpa using hC0, hb0, hX0⟩
  case round =>
    clear ho0 hb0 hX0 hC0 hmk
    obtain ⟨i, zs, hi, rfl, ho, hC, hw, X⟩ := hrel
    obtain ⟨x0, x1⟩ := X.cells2
    by_cases hlt : i < n
    · have hil : i < bs.length := by rw [hla.out]; exact hlt
      obtain ⟨hm, hent⟩ := des_row HD.out hil
      have HM := Lib.hid hent
      clear hent
      go_wp2
      clear x0 x1
      go_loopw [5] (fun kv wr => ∃ (k : Nat) (zs : List Int), k ≤ (row bs i).length ∧ kv = .int .i64 k ∧ OI wr w.heap.size 2 (some ⟨w.heap.size, 0, none⟩) v v zs ∧ CntIs v zs ((bs.take i).flatten ++ (row bs i).take k) ∧ Below w.heap.size w wr ∧ Blk wr g 32 #[.int .i64 (v : Int), .slice A n c]) (fun kv _ => (row bs i).length - (intOf kv).toNat)
      case atStart => exact ⟨0, zs, Nat.zero_le _, rfl, ho, by simpa using hC, hw, X⟩
      case round =>
        clear ho hC hw X
        obtain ⟨k, zs, hk, rfl, ho, hC, hw, X⟩ := hrel
        obtain ⟨x0, x1⟩ := X.cells2
        obtain ⟨ad, R, m, rc, rfl, cr, hm1, hm2, hri⟩ := (ha.keep hw).get hlt
        have hlr := hri.len
        by_cases hlk : k < (row bs i).length
        · obtain ⟨y, hy, hyv⟩ := HM.out k hlk
          obtain ⟨ra, rfl, ck, -⟩ := hri.get (k := k) (by omega)
          rw [hy] at ck
          obtain ⟨g0, hg0, cz, fz, iz⟩ := ho.cell hyv
          cases hg0
          have hzb : nth zs y ≤ 8192 ∧ 0 ≤ nth zs y := by
            rw [hC.2 y hyv]
            have h1 := List.count_le_length (a := (y : Int)) (l := (bs.take i).flatten ++ (row bs i).take k)
            have h2 := flat_len (fun i hi => (des_row HD.out hi).1) i (by omega)
            have h3 : i * v ≤ 128 * 32 := Nat.mul_le_mul (by omega) hv
            rw [List.length_append, List.length_take] at h1
            omega
          have HC2 := Lib.hid (hC.step hyv)
          rw [List.append_assoc, ← hy, ← row_take hlk] at HC2
          have ho2 := ho.set y (u := nth zs y + 1) ⟨by omega, by omega⟩
          have hw2 := Below.setCell hw (p := ⟨w.heap.size, y, none⟩) (Nat.le_refl _) (.int .i64 (nth zs y + 1))
          have X2 := X.after' (grown_setB (w := wr) (g := w.heap.size) (p := y) (u := .int .i64 (nth zs y + 1))) ho
          have hlk' : (k : Int) < m := by omega
          have hkm : k < m := by omega
          clear ho hC hw X hri
          generalize hzn : zs.set y (nth zs y + 1) = zn at *
          clear hzn
          generalize nth zs y = u at *
          go_wp2
          go_roundw
          case rel => exact ⟨k + 1, zn, by omega, by go_num, ho2, HC2.out, hw2, X2⟩
          case measure => simp [intOf]; omega
        · have hkm : k = m := by omega
          have hlk' : ¬ (k : Int) < m := by omega
          have hC2 : CntIs v zs (bs.take (i + 1)).flatten := by
            rw [show (row bs i).take k = row bs i from List.take_of_length_le (by omega), ← flat_take hil] at hC
            exact hC
          clear hC hri hlr hkm
          go_wp2
          go_roundw
          case rel => exact ⟨i + 1, zs, by omega, by go_num, ho, hC2, hw, X⟩
          case measure => simp [intOf]; omega
    · obtain rfl : i = n := by omega
      rw [List.take_of_length_le (by rw [hla.out]; exact Nat.le_refl _)] at hC
      obtain rfl := hC.eq
      go_wp2
      go_ret
      exact ⟨_, _, _, rfl, ho, hw⟩
end Go.Proofs.Ytnfddnideaakgaa
