/- Permutations and squares: whether lists are such, the reference's side. No condition beyond those stated. -/
import Derived.Test.YtdkbcjdimhgmnaaGreatRGC
import Derived.Test.YtdkbcjdimhgmnaaGreatRGH
import Derived.Deep.RegionHeld3
set_option linter.unusedVariables false
set_option linter.unusedSimpArgs false
namespace Go.Proofs.YtdkbcjdimhgmnaaGreat
open Go.RowKit
theorem RI.take {w : World} {A : Option Addr} {n k : Nat} {zs : List Int} (h : RI w A n zs) (hk : k ≤ n) : RI w A k (zs.take k) :=
  ⟨by rw [List.length_take, h.len]; omega, fun j x hx => by
    rw [List.getElem?_take] at hx
    split at hx
    · exact RS.at_ h j x hx
    · cases hx⟩
theorem nth_take {zs : List Int} {k j : Nat} (h : j < k) : nth (zs.take k) j = nth zs j := by
  simp [nth, List.getD, List.getElem?_take, h]
def noneTo' (zs : List Int) (x : Int) (k : Nat) : Prop := ∀ j, j < k → nth zs j ≠ x
set_option maxHeartbeats 400000 in
theorem l00Has_any (A : Option Addr) (n c : Nat) (zs : List Int) (x : Int) (w : World) (ha : RI w A n zs) (hn : n ≤ 9223372036854775807) :
    Calls Tryz.prog 142 #[.slice A n c, .int .i64 x] w fun e w' => e = .returned (.bool (tB (x ∈ zs))) ∧ w = w' := by
  have hla := Lib.hid ha.len
  go_enter Tryz.func142, Tryz.ntmps142
  go_wp2
  go_loop [5] (fun i => ∃ k : Nat, k ≤ n ∧ i = .int .i64 k ∧ noneTo' zs x k) (fun i => n - (intOf i).toNat)
  case atStart => exact ⟨0, Nat.zero_le _, rfl, fun _ h => absurd h (by omega)⟩
  case round =>
    obtain ⟨k, hk, rfl, hno⟩ := hrel
    by_cases hlt : k < n
    · obtain ⟨a, rfl, hca, hia⟩ := ha.get hlt
      by_cases he : nth zs k = x
      · have he' : (nth zs k == x) = true := by simp [he]
        have H := Lib.hid (show tB (x ∈ zs) = true from tB_yes (by rw [← he]; exact nth_mem (by rw [hla.out]; exact hlt)))
        clear he hno
        go_wp2
        go_ret
        exact ⟨by rw [H.out]; rfl, rfl⟩
      · have he' : (nth zs k == x) = false := by simp [he]
        have H := Lib.hid (show noneTo' zs x (k + 1) from fun j hj => by
          rcases Nat.lt_succ_iff_lt_or_eq.1 hj with h' | h'
          · exact hno j h'
          · rw [h']; exact he)
        clear he hno
        go_wp2
        go_round
        case rel => exact ⟨k + 1, by omega, by go_num, H.out⟩
        case measure => simp [intOf]; omega
    · have H := Lib.hid (show tB (x ∈ zs) = false from tB_no fun hm => by
        obtain ⟨j, hj, e⟩ := mem_nth hm
        exact hno j (by rw [hla.out] at hj; omega) e)
      clear hno
      go_wp2
      go_ret
      exact ⟨by rw [H.out]; rfl, rfl⟩
def permTo (p : List Int) (k : Nat) : Prop := (∀ j, j < k → 0 ≤ nth p j ∧ nth p j < p.length) ∧ ∀ i j, i < j → j < k → nth p i ≠ nth p j
theorem permTo_step {p : List Int} {k : Nat} (h : permTo p k) (hk : k < p.length) (h1 : 0 ≤ nth p k ∧ nth p k ≤ (p.length : Int) - 1) (h2 : nth p k ∉ p.take k) : permTo p (k + 1) :=
  ⟨fun j hj => by
    rcases Nat.lt_succ_iff_lt_or_eq.1 hj with h' | h'
    · exact h.1 j h'
    · rw [h']; omega,
   fun i j hij hj => by
    rcases Nat.lt_succ_iff_lt_or_eq.1 hj with h' | h'
    · exact h.2 i j hij h'
    · rw [h'] at hij ⊢
      intro e
      refine h2 ?_
      rw [← e, ← nth_take (k := k) hij]
      exact nth_mem (by rw [List.length_take]; omega)⟩
set_option maxRecDepth 100000 in
set_option maxHeartbeats 1000000 in
theorem l04Ok_any (A : Option Addr) (n c : Nat) (p : List Int) (w : World) (ha : RI w A n p) (hn : n ≤ c) (hc : c ≤ 9223372036854775807) :
    Calls Tryz.prog 82 #[.slice A n c] w (Quiet w (.bool (tB (PermOk p)))) := by
  have hla := Lib.hid ha.len
  by_cases h0 : n ≤ 32
  · go_enter Tryz.func82, Tryz.ntmps82
    go_wp2
    go_loopw [3] (fun i wr => ∃ k : Nat, k ≤ n ∧ i = .int .i64 k ∧ Drawn w wr ∧ permTo p k) (fun i _ => n - (intOf i).toNat)
    case atStart => exact ⟨0, Nat.zero_le _, rfl, Drawn.refl _, fun _ h => absurd h (by omega), fun _ _ _ h => absurd h (by omega)⟩
    case round =>
      obtain ⟨k, hk, rfl, hd, hto⟩ := hrel
      by_cases hlt : k < n
      · obtain ⟨a, rfl, hca, hia⟩ := (ha.drawn hd).get hlt
        have e1 : IntKind.i64.wrap ((n : Int) - 1) = (n : Int) - 1 := IntWalk.i64_in _ (by omega)
        have e4 : (k : Int) ≤ (c : Int) := by omega
        cases h1 : inB (nth p k) 0 ((n : Int) - 1) with
        | false =>
          have hcall : ∀ q, Calls Tryz.prog 37 #[.int .i64 (nth p k), .int .i64 0, .int .i64 ((n : Int) - 1)] (wr.drewN q) (Quiet (wr.drewN q) (.bool false)) := fun q => by rw [← h1]; exact (l00In_any _ _ _ _).mono fun _ _ h => Quiet.of_same h
          have H := Lib.hid (show tB (PermOk p) = false from tB_no fun hh => by
            have := hh.2.bd k (by rw [hla.out]; exact hlt)
            rw [hla.out] at this
            rw [inB_mk ⟨this.1, by omega⟩] at h1
            cases h1)
          clear hto h1
          go_wp2
          go_quiet ((go_at_call 37; exact Quiet.call (hcall _)))
          clear e1
          go_wp2
          go_ret
          exact ⟨by rw [H.out]; rfl, hd.more _⟩
        | true =>
          have hcall : ∀ q, Calls Tryz.prog 37 #[.int .i64 (nth p k), .int .i64 0, .int .i64 ((n : Int) - 1)] (wr.drewN q) (Quiet (wr.drewN q) (.bool true)) := fun q => by rw [← h1]; exact (l00In_any _ _ _ _).mono fun _ _ h => Quiet.of_same h
          have hin := Lib.hid (inB_true h1)
          clear h1
          by_cases h2 : nth p k ∈ p.take k
          · have hcall2 : ∀ q, Calls Tryz.prog 142 #[.slice (some a) k c, .int .i64 (nth p k)] (wr.drewN q) (Quiet (wr.drewN q) (.bool true)) := fun q => by
              rw [← tB_yes h2]; exact (l00Has_any (some a) k c (p.take k) _ _ ((ha.drawn (hd.more q)).take (by omega)) (by omega)).mono fun _ _ h => Quiet.of_same h
            have H := Lib.hid (show tB (PermOk p) = false from tB_no fun hh => by
              obtain ⟨j, hj, e⟩ := mem_nth h2
              rw [List.length_take] at hj
              rw [nth_take (by omega)] at e
              exact hh.2.ne j k (by omega) (by rw [hla.out]; exact hlt) e)
            clear hto h2
            go_wp2
            go_quiet ((first | (go_at_call 37; exact Quiet.call (hcall _)) | (go_at_call 142; exact Quiet.call (hcall2 _))))
            clear e1 e4
            go_wp2
            go_ret
            exact ⟨by rw [H.out]; rfl, hd.more _⟩
          · have hcall2 : ∀ q, Calls Tryz.prog 142 #[.slice (some a) k c, .int .i64 (nth p k)] (wr.drewN q) (Quiet (wr.drewN q) (.bool false)) := fun q => by
              rw [← tB_no h2]; exact (l00Has_any (some a) k c (p.take k) _ _ ((ha.drawn (hd.more q)).take (by omega)) (by omega)).mono fun _ _ h => Quiet.of_same h
            have H := Lib.hid (permTo_step hto (by rw [hla.out]; exact hlt) (by rw [hla.out]; exact hin.out) h2)
            clear hto h2
            go_wp2
            go_quiet ((first | (go_at_call 37; exact Quiet.call (hcall _)) | (go_at_call 142; exact Quiet.call (hcall2 _))))
            clear e1 e4
            go_wp2
            go_roundw
            case rel => exact ⟨k + 1, by omega, by go_num, hd.more _, H.out⟩
            case measure => simp [intOf]; omega
      · have H := Lib.hid (show tB (PermOk p) = true from tB_yes ⟨by rw [hla.out]; exact h0, by rw [hla.out, ← show k = n by omega]; have := hla.out; rw [show k = n by omega, ← this]; rw [show k = n by omega, ← this] at hto; exact hto.1, by rw [hla.out]; rw [show k = n by omega] at hto; exact fun i j h1 h2 => hto.2 i j h1 h2⟩)
        clear hto
        go_wp2
        go_ret
        exact ⟨by rw [H.out]; rfl, hd⟩
  · have H := Lib.hid (show tB (PermOk p) = false from tB_no fun hh => h0 (by have := hh.1; rw [hla.out] at this; exact this))
    go_enter Tryz.func82, Tryz.ntmps82
    go_wp2
    go_ret
    exact ⟨by rw [H.out]; rfl, Drawn.refl _⟩
def colTo (a : List (List Int)) (y x : Nat) : List Int := (a.take x).map fun r => nth r y
theorem colTo_len {a : List (List Int)} {y x : Nat} (h : x ≤ a.length) : (colTo a y x).length = x := by simp [colTo]; omega
theorem colTo_step {a : List (List Int)} {y x : Nat} (h : x < a.length) : colTo a y (x + 1) = colTo a y x ++ [nth (row a x) y] := by
  unfold colTo
  rw [take_row h, List.map_append]
  rfl
theorem colTo_all (a : List (List Int)) (y : Nat) : colTo a y a.length = a.map fun r => nth r y := by rw [colTo, List.take_length]
def sqRow (a : List (List Int)) (i : Nat) : Prop := (row a i).length = a.length ∧ Perm (row a i)
def sqRows (a : List (List Int)) (k : Nat) : Prop := ∀ i, i < k → sqRow a i
theorem sqRows_step {a : List (List Int)} {k : Nat} (h : sqRows a k) (h1 : sqRow a k) : sqRows a (k + 1) := fun j hj => by
  rcases Nat.lt_succ_iff_lt_or_eq.1 hj with h' | h'
  · exact h j h'
  · rw [h']; exact h1
def sqCols (a : List (List Int)) (k : Nat) : Prop := ∀ y, y < k → Perm (a.map fun r => nth r y)
theorem sqCols_step {a : List (List Int)} {k : Nat} (h : sqCols a k) (h1 : Perm (a.map fun r => nth r k)) : sqCols a (k + 1) := fun j hj => by
  rcases Nat.lt_succ_iff_lt_or_eq.1 hj with h' | h'
  · exact h j h'
  · rw [h']; exact h1
theorem square_iff (a : List (List Int)) : Square a ↔ (1 ≤ a.length ∧ a.length ≤ 10) ∧ sqRows a a.length ∧ sqCols a a.length :=
  ⟨fun h => ⟨⟨h.1, h.2.1⟩, h.2.2.1, h.2.2.2⟩, fun h => ⟨h.1.1, h.1.2, h.2.1, h.2.2⟩⟩
set_option maxRecDepth 100000 in
set_option maxHeartbeats 2000000 in
theorem l06Ok_any (A : Option Addr) (n c : Nat) (a : List (List Int)) (w : World) (ha : RR w A n a) (hn : n ≤ 9223372036854775807) :
    Calls Tryz.prog 63 #[.slice A n c] w (RetB w (tB (Square a))) := by
  have hla := Lib.hid ha.len
  have HS := Lib.hid (square_iff a)
  by_cases h0 : 1 ≤ n
  · by_cases h1 : n ≤ 10
    · go_enter Tryz.func63, Tryz.ntmps63
      go_wp2
      go_loopw [4] (fun i wr => ∃ j : Nat, i = .int .i64 j ∧ j ≤ n ∧ sqRows a j ∧ Drawn w wr) (fun i _ => n - (intOf i).toNat)
      case atStart => exact ⟨0, rfl, Nat.zero_le _, fun _ h => absurd h (by omega), Drawn.refl _⟩
      case round =>
        obtain ⟨j, rfl, hj, hto, hd⟩ := hrel
        by_cases hlt : j < n
        · obtain ⟨ad, A1, n1, c1, rfl, hca, hn1, hc1, ha1⟩ := (ha.drawn hd).get hlt
          have hl1 := Lib.hid ha1.len
          by_cases hn' : n1 = n
          · subst hn'
            cases h3 : tB (PermOk (row a j)) with
            | true =>
              have H := Lib.hid (sqRows_step hto ⟨hl1.out.trans hla.out.symm, (tB_true.1 h3).2⟩)
              have hcall := l04Ok_any A1 n1 c1 (row a j) _ ha1 hn1 hc1
              rw [h3] at hcall
              clear hto h3
              go_wp2_with (go_at_call 82; refine hcall.mono ?_; rintro e w1 ⟨rfl, hd1⟩)
              go_roundw
              case rel => exact ⟨j + 1, by go_num, by omega, H.out, hd.trans hd1⟩
              case measure => simp [intOf]; omega
            | false =>
              have H := Lib.hid (show tB (Square a) = false from tB_no fun hh => by
                have := (HS.out.1 hh).2.1 j (by rw [hla.out]; exact hlt)
                rw [tB_yes ⟨by rw [hl1.out]; omega, this.2⟩] at h3
                cases h3)
              have hcall := l04Ok_any A1 n1 c1 (row a j) _ ha1 hn1 hc1
              rw [h3] at hcall
              clear hto h3
              go_wp2_with (go_at_call 82; refine hcall.mono ?_; rintro e w1 ⟨rfl, hd1⟩)
              go_ret
              exact ⟨by rw [H.out]; rfl, (hd.trans hd1).below⟩
          · have hne : ((n1 : Int) != (n : Int)) = true := by simp; omega
            have H := Lib.hid (show tB (Square a) = false from tB_no fun hh => by
              have := ((HS.out.1 hh).2.1 j (by rw [hla.out]; exact hlt)).1
              rw [hl1.out, hla.out] at this
              exact hn' this)
            clear hto hn'
            go_wp2
            go_ret
            exact ⟨by rw [H.out]; rfl, hd.below⟩
        · have HT := Lib.hid (show sqRows a n by rwa [show j = n by omega] at hto)
          clear hto
          go_wp2
          go_loopw [5] (fun i wr => ∃ y : Nat, i = .int .i64 y ∧ y ≤ n ∧ sqCols a y ∧ Below w.heap.size w wr) (fun i _ => n - (intOf i).toNat)
          case atStart => exact ⟨0, rfl, Nat.zero_le _, fun _ h => absurd h (by omega), hd.below⟩
          case round =>
            obtain ⟨y, rfl, hy, hco, hb⟩ := hrel
            by_cases hlt' : y < n
            · obtain ⟨ws, rfl⟩ : ∃ ws : World, ws = wr := ⟨_, rfl⟩
              have ho0 := OI.lit ws w.heap.size 2 [] hb.size (by simp) All64.nil_
              have hb0 := hb.alloc hb.size (.cells #[] 2)
              go_wp2
              go_loopw [6, 7] (fun v i wr => ∃ (x : Nat) (A' : Option Addr) (c' : Nat), i = .int .i64 x ∧ x ≤ n ∧ v = .slice A' x c' ∧ OI wr w.heap.size 2 A' x c' (colTo a y x) ∧ Below w.heap.size w wr) (fun _ i _ => n - (intOf i).toNat)
              case atStart => exact ⟨0, _, _, rfl, Nat.zero_le _, rfl, ho0, hb0⟩
              case round =>
                clear ho0 hb0 hb
                obtain ⟨x, A', c', rfl, hx, rfl, ho, hb⟩ := hrel
                by_cases hx' : x < n
                · obtain ⟨ad, A1, n1, c1, rfl, hca, hn1, hc1, ha1⟩ := (ha.keep hb).get hx'
                  obtain rfl : n1 = n := by rw [← ha1.len, (HT.out x hx').1, hla.out]
                  obtain ⟨bd, rfl, hcb, hib⟩ := ha1.get hlt'
                  have hst := Lib.hid (colTo_step (a := a) (y := y) (x := x) (by rw [hla.out]; exact hx'))
                  go_wp2_with (at_builtin; refine wpList_app1 _ rfl _ _ 22 rfl 2 (.int .i64 0) 8 Tryz.underlying22 int_info rfl (by omega) w.heap.size A' x c' (ints (colTo a y x)) rfl ho.os (.int .i64 (nth (row a x) y)) rfl rfl (by omega) hb.size ?_; intro A3 c3 w3 ho3 hg3 hn3)
                  have hb3 := below_own hb hg3 hb.size (fun b hb => (ho.os.lt hb).1)
                  have hi3 := OI.snoc ho3 ho.all (z := nth (row a x) y) hib
                  rw [← hst.out] at hi3
                  clear ho ho3 hg3 hn3 hca hcb
                  go_wp2
                  go_roundw
                  case rel => exact ⟨x + 1, A3, c3, by go_num, by omega, rfl, hi3, hb3⟩
                  case measure => simp [intOf]; omega
                · obtain rfl : x = n := by omega
                  have hcl := Lib.hid (show colTo a y x = a.map fun r => nth r y by rw [← hla.out, colTo_all])
                  have hlen := Lib.hid (show (colTo a y x).length = x from colTo_len (by rw [hla.out]; exact Nat.le_refl _))
                  cases h3 : tB (PermOk (colTo a y x)) with
                  | true =>
                    have H := Lib.hid (sqCols_step hco (by rw [← hcl.out]; exact (tB_true.1 h3).2))
                    have hcall := l04Ok_any A' x c' (colTo a y x) _ ho.reads ho.os.cap.1 ho.os.cap.2
                    rw [h3] at hcall
                    clear hco h3
                    go_wp2_with (go_at_call 82; refine hcall.mono ?_; rintro e w1 ⟨rfl, hd1⟩)
                    go_roundw
                    case rel => exact ⟨y + 1, by go_num, by omega, H.out, hb.trans (hd1.below.mono hb.size)⟩
                    case measure => simp [intOf]; omega
                  | false =>
                    have H := Lib.hid (show tB (Square a) = false from tB_no fun hh => by
                      have := (HS.out.1 hh).2.2 y (by rw [hla.out]; exact hlt')
                      rw [← hcl.out] at this
                      rw [tB_yes ⟨by rw [hlen.out]; omega, this⟩] at h3
                      cases h3)
                    have hcall := l04Ok_any A' x c' (colTo a y x) _ ho.reads ho.os.cap.1 ho.os.cap.2
                    rw [h3] at hcall
                    clear hco h3
                    go_wp2_with (go_at_call 82; refine hcall.mono ?_; rintro e w1 ⟨rfl, hd1⟩)
                    go_ret
                    exact ⟨by rw [H.out]; rfl, hb.trans (hd1.below.mono hb.size)⟩
            · have H := Lib.hid (show tB (Square a) = true from tB_yes (HS.out.2 ⟨⟨by rw [hla.out]; exact h0, by rw [hla.out]; exact h1⟩, by rw [hla.out]; exact HT.out, by rw [hla.out]; rwa [show y = n by omega] at hco⟩))
              clear hco
              go_wp2
              go_ret
              exact ⟨by rw [H.out]; rfl, hb⟩
    · have H := Lib.hid (show tB (Square a) = false from tB_no fun hh => h1 (by have := hh.2.1; rw [hla.out] at this; exact this))
      go_enter Tryz.func63, Tryz.ntmps63
      go_wp2
      go_ret
      exact ⟨by rw [H.out]; rfl, Below.refl _ _⟩
  · have H := Lib.hid (show tB (Square a) = false from tB_no fun hh => h0 (by have := hh.1; rw [hla.out] at this; exact this))
    go_enter Tryz.func63, Tryz.ntmps63
    go_wp2
    go_ret
    exact ⟨by rw [H.out]; rfl, Below.refl _ _⟩
set_option maxHeartbeats 1000000 in
theorem validPermutation_any (A : Option Addr) (n c : Nat) (p : List Int) (w : World) (ha : RI w A n p) (hn : n ≤ 1099511627776) :
    Calls Tryz.prog 178 #[.slice A n c] w (RetB w (tB (PermOk p))) := by
  have hla := Lib.hid ha.len
  go_enter Tryz.func178, Tryz.ntmps178
  go_wp2_with fail
  refine (clone_any A n c p _ ha hn).mono ?_
  rintro e w1 ⟨A2, n2, c2, rfl, ho, hb⟩
  obtain rfl : n2 = n := by rw [← ho.len, hla.out]
  go_wp2_with fail
  refine (sort_any w.heap.size _ A2 n2 c2 p _ ho (by omega)).mono ?_
  rintro e w2 ⟨rfl, ho2, hg2⟩
  have hb2 := below_own hb hg2 hb.size (fun b hb => (ho.os.lt hb).1)
  clear ho hb hg2
  have hrd := ho2.reads
  have hsl := Lib.hid (srt_len p)
  clear ho2
  go_wp2
  go_loop [12] (fun i => ∃ k : Nat, k ≤ n2 ∧ i = .int .i64 k ∧ ∀ j : Nat, j < k → nth (srt p) j = (j : Int)) (fun i => n2 - (intOf i).toNat)
  case atStart => exact ⟨0, Nat.zero_le _, rfl, fun _ h => absurd h (by omega)⟩
  case round =>
    obtain ⟨k, hk, rfl, hto⟩ := hrel
    by_cases hlt : k < n2
    · obtain ⟨a, rfl, hca, hia⟩ := hrd.get hlt
      by_cases he : nth (srt p) k = (k : Int)
      · have he' : (nth (srt p) k != (k : Int)) = false := by simp [he]
        have H := Lib.hid (show ∀ j : Nat, j < k + 1 → nth (srt p) j = (j : Int) from fun j hj => by
          rcases Nat.lt_succ_iff_lt_or_eq.1 hj with h' | h'
          · exact hto j h'
          · rw [h']; exact he)
        clear hto he
        go_wp2
        go_round
        case rel => exact ⟨k + 1, by omega, by go_num, H.out⟩
        case measure => simp [intOf]; omega
      · have he' : (nth (srt p) k != (k : Int)) = true := by simp [he]
        have H := Lib.hid (show tB (PermOk p) = false from tB_no fun hh => he ((perm_iff p).1 hh.2 k (by rw [hla.out]; exact hlt)))
        clear hto he
        go_wp2
        go_ret
        exact ⟨by rw [H.out]; rfl, hb2⟩
    · have hperm := Lib.hid ((perm_iff p).2 (show inOrder p from fun j hj => hto j (by rw [hla.out] at hj; omega)))
      clear hto
      by_cases h32 : n2 ≤ 32
      · have H := Lib.hid (show tB (PermOk p) = true from tB_yes ⟨by rw [hla.out]; exact h32, hperm.out⟩)
        go_wp2
        go_ret
        exact ⟨by rw [H.out]; exact ret_bool (by simp; omega), hb2⟩
      · have H := Lib.hid (show tB (PermOk p) = false from tB_no fun hh => h32 (by have := hh.1; rw [hla.out] at this; exact this))
        go_wp2
        go_ret
        exact ⟨by rw [H.out]; exact ret_bool (by simp; omega), hb2⟩
noncomputable def noPerm (d : Int) (z : List Int) : Bool := !tB ((z.length : Int) = d ∧ PermOk z)
def allPerm (d : Int) (zs : List (List Int)) : Prop := ∀ i, i < zs.length → ((row zs i).length : Int) = d ∧ PermOk (row zs i)
theorem noPerm_any (zs : List (List Int)) (d : Int) : (!zs.any (noPerm d)) = tB (allPerm d zs) := by
  cases h : zs.any (noPerm d) with
  | true =>
    obtain ⟨x, hx, hb⟩ := List.any_eq_true.1 h
    obtain ⟨k, hk, rfl⟩ := List.mem_iff_getElem.1 hx
    rw [tB_no (p := allPerm d zs) fun hh => ?_]
    · rfl
    · have := hh k hk
      rw [row_get hk] at this
      simp [noPerm, tB_yes this] at hb
  | false =>
    rw [tB_yes (p := allPerm d zs) fun i hi => ?_]
    · rfl
    · rw [List.any_eq_false] at h
      have := h zs[i] (List.getElem_mem hi)
      rw [row_get hi]
      exact tB_true.1 (by simpa [noPerm] using this)
theorem keep1 {W w' : World} {p : Addr} {u : Value} (hb : Below W.heap.size W w') (h1 : W.cell? p = some u) : Below W.heap.size W w' ∧ w'.cell? p = some u := ⟨hb, below_cell hb h1⟩
set_option maxHeartbeats 1000000 in
theorem arePermutations1_any (A : Option Addr) (n c : Nat) (z : List Int) (d : Int) (p : Addr) (w : World) (hp : w.cell? p = some (.int .i64 d)) (ha : RI w A n z) (hn : n ≤ 1099511627776) :
    Calls Tryz.prog 218 #[.slice A n c, .pointer (some p)] w (RetB w (noPerm d z)) := by
  have hla := Lib.hid ha.len
  by_cases h1 : (n : Int) = d
  · have h1' : ((n : Int) != d) = false := by simp [h1]
    have H := Lib.hid (show (!tB (PermOk z)) = noPerm d z by
      unfold noPerm
      congr 1
      exact tB_congr ⟨fun h => ⟨by rw [hla.out]; exact h1, h⟩, fun h => h.2⟩)
    clear h1
    go_enter Tryz.func218, Tryz.ntmps218
    go_wp2
    go_region_held3 (fun w' => Below w.heap.size w w' ∧ w'.cell? p = some (.int .i64 d))
      (first | exact keep1 (below_drewn _ 1) hp | exact keep1 (below_then (And.left (by assumption)) (by assumption)) hp)
      (first
        | (go_at_call 70; (with_reducible refine (sizeI_any A n c _ ?_).mono ?_); (omega); rintro e w2 ⟨rfl, rfl⟩)
        | (go_at_call 178; (with_reducible refine (validPermutation_any A n c z _ ?_ ?_).mono ?_); (exact ha.keep (And.left (by assumption))); (exact hn); rintro e w3 ⟨rfl, hb3⟩))
    have hw : Below w.heap.size w w3 := And.left (by assumption)
    go_wp2
    go_ret
    exact ⟨by rw [← H.out]; rfl, hw⟩
  · have h1' : ((n : Int) != d) = true := by simp [h1]
    have H := Lib.hid (show noPerm d z = true by
      unfold noPerm
      rw [tB_no fun h => h1 (by have := h.1; rw [hla.out] at this; exact this)]
      rfl)
    have hcall : ∀ q, Calls Tryz.prog 70 #[.slice A n c] (w.drewN q) (Quiet (w.drewN q) (.int .i64 n)) := fun q => (sizeI_any A n c _ (by omega)).mono fun _ _ h => Quiet.of_same h
    clear h1
    go_enter Tryz.func218, Tryz.ntmps218
    go_wp2
    go_quiet ((go_at_call 70; exact Quiet.call (hcall _)))
    go_wp2
    go_ret
    exact ⟨by rw [H.out]; rfl, below_drewn _ _⟩
set_option maxHeartbeats 400000 in
theorem arePermutations_any (d : Int) (A : Option Addr) (n c : Nat) (zs : List (List Int)) (w : World) (ha : RR w A n zs) (hn : n ≤ 1099511627776) (hr : cells zs ≤ 1099511627776) :
    Calls Tryz.prog 177 #[.int .i64 d, .slice A n c] w (RetB w (tB (allPerm d zs))) := by
  have eg : ∀ (args : Array Value) (w : World), (callFunc 218 args).run Tryz.prog w = .ok (.enter 218 args) w := fun _ _ => by kernel_rfl
  have hb1 := below_alloc w (.cells #[.int .i64 d] 2)
  have hcell : (w.alloc (.cells #[.int .i64 d] 2)).cell? ⟨w.heap.size, 0, none⟩ = some (.int .i64 d) := (Blk.new w 2 #[.int .i64 d]).cell 0
  have H := Lib.hid (noPerm_any zs d)
  have hask : AskRb 218 #[.pointer (some ⟨w.heap.size, 0, none⟩)] (noPerm d) (w.alloc (.cells #[.int .i64 d] 2)) 1099511627776 := fun A' n' c' z W hW hz h2 h3 h4 =>
    arePermutations1_any A' n' c' z d _ W (below_cell hW hcell) hz h4
  go_enter Tryz.func177, Tryz.ntmps177
  go_wp2_with (go_at_call 75; refine (containsFuncRb _ _ eg (noPerm d) A n c zs _ 1099511627776 (ha.keep hb1) (by omega) (rows_small ha hr) hask).mono ?_; rintro e w2 ⟨rfl, hb2⟩)
  go_ret
  exact ⟨by rw [← H.out]; rfl, below_then hb1 hb2⟩
set_option maxRecDepth 100000 in
set_option maxHeartbeats 2000000 in
theorem validSquare_any (A : Option Addr) (n c : Nat) (a : List (List Int)) (w : World) (ha : RR w A n a) (hn : n ≤ 1099511627776) (hr : cells a ≤ 1099511627776) :
    Calls Tryz.prog 124 #[.slice A n c] w (RetB w (tB (Square a))) := by
  have hla := Lib.hid ha.len
  have HS := Lib.hid (square_iff a)
  cases h0 : inB (n : Int) 1 10 with
  | false =>
    have H := Lib.hid (show tB (Square a) = false from tB_no fun hh => by
      have h1 := hh.1; have h2 := hh.2.1
      rw [hla.out] at h1 h2
      rw [inB_mk ⟨by omega, by omega⟩] at h0
      cases h0)
    go_enter Tryz.func124, Tryz.ntmps124
    go_wp2_with (first | (go_at_call 96; refine (sizeR_any _ _ _ _ (by omega)).mono ?_; rintro e w' ⟨rfl, rfl⟩) | (go_at_call 73; refine (within_any _ _ _ _).mono ?_; rintro e w' ⟨rfl, rfl⟩; rw [h0]))
    go_ret
    exact ⟨by rw [H.out]; rfl, Below.refl _ _⟩
  | true =>
    obtain ⟨i1, i2⟩ := inB_true h0
    have n1 : 1 ≤ n := by omega
    have n2 : n ≤ 10 := by omega
    clear i1 i2
    have hcall := arePermutations_any (n : Int) A n c a w ha hn hr
    cases h1 : tB (allPerm (n : Int) a) with
    | false =>
      have H := Lib.hid (show tB (Square a) = false from tB_no fun hh => by
        rw [tB_yes (p := allPerm (n : Int) a) fun i hi => ?_] at h1
        · cases h1
        · have := (HS.out.1 hh).2.1 i hi
          exact ⟨by rw [this.1, hla.out], by rw [this.1, hla.out]; omega, this.2⟩)
      rw [h1] at hcall
      clear h1
      go_enter Tryz.func124, Tryz.ntmps124
      go_wp2_with (first | (go_at_call 96; refine (sizeR_any _ _ _ _ (by omega)).mono ?_; rintro e w' ⟨rfl, rfl⟩) | (go_at_call 73; refine (within_any _ _ _ _).mono ?_; rintro e w' ⟨rfl, rfl⟩; rw [h0]) | (go_at_call 177; refine hcall.mono ?_; rintro e w1 ⟨rfl, hb1⟩))
      go_ret
      exact ⟨by rw [H.out]; rfl, hb1⟩
    | true =>
      have HT := Lib.hid (show sqRows a n from fun i hi => by
        have := tB_true.1 h1 i (by rw [hla.out]; exact hi)
        exact ⟨by rw [hla.out]; omega, this.2.2⟩)
      rw [h1] at hcall
      clear h1
      go_enter Tryz.func124, Tryz.ntmps124
      go_wp2_with (first | (go_at_call 96; refine (sizeR_any _ _ _ _ (by omega)).mono ?_; rintro e w' ⟨rfl, rfl⟩) | (go_at_call 73; refine (within_any _ _ _ _).mono ?_; rintro e w' ⟨rfl, rfl⟩; rw [h0]) | (go_at_call 177; refine hcall.mono ?_; rintro e w1 ⟨rfl, hb1⟩))
      go_loopw [20] (fun i wr => ∃ y : Nat, i = .int .i64 y ∧ y ≤ n ∧ sqCols a y ∧ Below w.heap.size w wr) (fun i _ => n - (intOf i).toNat)
      case atStart => exact ⟨0, rfl, Nat.zero_le _, fun _ h => absurd h (by omega), hb1⟩
      case round =>
        clear hb1 hcall
        obtain ⟨y, rfl, hy, hco, hb⟩ := hrel
        by_cases hlt' : y < n
        · obtain ⟨ws, rfl⟩ : ∃ ws : World, ws = wr := ⟨_, rfl⟩
          go_wp2
          go_loopw [5, 25] (fun v i wr => ∃ (x : Nat) (A' : Option Addr) (c' : Nat), i = .int .i64 x ∧ x ≤ n ∧ v = .slice A' x c' ∧ OI wr w.heap.size 2 A' x c' (colTo a y x) ∧ Below w.heap.size w wr) (fun _ i _ => n - (intOf i).toNat)
          case atStart => exact ⟨0, _, _, rfl, Nat.zero_le _, rfl, OI.nil_ _ _ _, hb⟩
          case round =>
            clear hb
            obtain ⟨x, A', c', rfl, hx, rfl, ho, hb⟩ := hrel
            by_cases hx' : x < n
            · obtain ⟨ad, A1, m1, c1, rfl, hca, hn1, hc1, ha1⟩ := (ha.keep hb).get hx'
              obtain rfl : m1 = n := by rw [← ha1.len, (HT.out x hx').1, hla.out]
              obtain ⟨bd, rfl, hcb, hib⟩ := ha1.get hlt'
              have hst := Lib.hid (colTo_step (a := a) (y := y) (x := x) (by rw [hla.out]; exact hx'))
              go_wp2_with (at_builtin; refine wpList_app1 _ rfl _ _ 22 rfl 2 (.int .i64 0) 8 Tryz.underlying22 int_info rfl (by omega) w.heap.size A' x c' (ints (colTo a y x)) rfl ho.os (.int .i64 (nth (row a x) y)) rfl rfl (by omega) hb.size ?_; intro A3 c3 w3 ho3 hg3 hn3)
              have hb3 := below_own hb hg3 hb.size (fun b hb => (ho.os.lt hb).1)
              have hi3 := OI.snoc ho3 ho.all (z := nth (row a x) y) hib
              rw [← hst.out] at hi3
              clear ho ho3 hg3 hn3 hca hcb
              go_wp2
              go_roundw
              case rel => exact ⟨x + 1, A3, c3, by go_num, by omega, rfl, hi3, hb3⟩
              case measure => simp [intOf]; omega
            · obtain rfl : x = n := by omega
              have hcl := Lib.hid (show colTo a y x = a.map fun r => nth r y by rw [← hla.out, colTo_all])
              have hlen := Lib.hid (show (colTo a y x).length = x from colTo_len (by rw [hla.out]; exact Nat.le_refl _))
              have hcall := validPermutation_any A' x c' (colTo a y x) _ ho.reads (by omega)
              cases h3 : tB (PermOk (colTo a y x)) with
              | true =>
                have H := Lib.hid (sqCols_step hco (by rw [← hcl.out]; exact (tB_true.1 h3).2))
                rw [h3] at hcall
                clear hco h3
                go_wp2_with (go_at_call 178; refine hcall.mono ?_; rintro e w1 ⟨rfl, hb1⟩)
                go_roundw
                case rel => exact ⟨y + 1, by go_num, by omega, H.out, hb.trans (hb1.mono hb.size)⟩
                case measure => simp [intOf]; omega
              | false =>
                have H := Lib.hid (show tB (Square a) = false from tB_no fun hh => by
                  have := (HS.out.1 hh).2.2 y (by rw [hla.out]; exact hlt')
                  rw [← hcl.out] at this
                  rw [tB_yes ⟨by rw [hlen.out]; omega, this⟩] at h3
                  cases h3)
                rw [h3] at hcall
                clear hco h3
                go_wp2_with (go_at_call 178; refine hcall.mono ?_; rintro e w1 ⟨rfl, hb1⟩)
                go_ret
                exact ⟨by rw [H.out]; rfl, hb.trans (hb1.mono hb.size)⟩
        · have H := Lib.hid (show tB (Square a) = true from tB_yes (HS.out.2 ⟨⟨by rw [hla.out]; exact n1, by rw [hla.out]; exact n2⟩, by rw [hla.out]; exact HT.out, by rw [hla.out]; rwa [show y = n by omega] at hco⟩))
          clear hco
          go_wp2
          go_ret
          exact ⟨by rw [H.out]; rfl, hb⟩
end Go.Proofs.YtdkbcjdimhgmnaaGreat
