/- Permutations and squares: whether lists are such, the reference's side. No condition beyond those stated. -/
import Derived.Test.YtcnjlkabdfcjdaaZAD
import Derived.Test.YtcnjlkabdfcjdaaZAE
set_option linter.unusedVariables false
set_option linter.unusedSimpArgs false
namespace Go.Proofs.Ytcnjlkabdfcjdaa
open Go.RowKit

theorem RI.take {w : World} {A : Option Addr} {n k : Nat} {zs : List Int} (h : RI w A n zs) (hk : k ≤ n) : RI w A k (zs.take k) :=
  ⟨by rw [List.length_take, h.len]; omega, fun j x hx => by
    rw [List.getElem?_take] at hx
    split at hx
    · exact RS.at_ h j x hx
    · cases hx⟩
theorem nth_take {zs : List Int} {k j : Nat} (h : j < k) : nth (zs.take k) j = nth zs j := by
  simp [nth, List.getD, List.getElem?_take, h]
def noneTo' (zs : List Int) (x : Int) (k : Nat) : Prop := ∀ j, j < k → nth zs j ≠ x
set_option maxHeartbeats 400000 in
theorem l00Has_any (A : Option Addr) (n c : Nat) (zs : List Int) (x : Int) (w : World) (ha : RI w A n zs) (hn : n ≤ 9223372036854775807) :
    Calls Try.prog 96 #[.slice A n c, .int .i64 x] w fun e w' => e = .returned (.bool (tB (x ∈ zs))) ∧ w = w' := by
  have hla := Lib.hid ha.len
  go_enter Try.func96, Try.ntmps96
  go_wp2
  go_loop [5] (fun i => ∃ k : Nat, k ≤ n ∧ i = .int .i64 k ∧ noneTo' zs x k) (fun i => n - (intOf i).toNat)
  case atStart => exact ⟨0, Nat.zero_le _, rfl, fun _ h => absurd h (by omega)⟩
  case round =>
    obtain ⟨k, hk, rfl, hno⟩ := hrel
    by_cases hlt : k < n
    · obtain ⟨a, rfl, hca, hia⟩ := ha.get hlt
      by_cases he : nth zs k = x
      · have he' : (nth zs k == x) = true := by simp [he]
        have H := Lib.hid (show tB (x ∈ zs) = true from tB_yes (by rw [← he]; exact nth_mem (by rw [hla.out]; exact hlt)))
        clear he hno
        go_wp2
        go_ret
        exact ⟨by rw [H.out]; rfl, rfl⟩
      · have he' : (nth zs k == x) = false := by simp [he]
        have H := Lib.hid (show noneTo' zs x (k + 1) from fun j hj => by
          rcases Nat.lt_succ_iff_lt_or_eq.1 hj with h' | h'
          · exact hno j h'
          · rw [h']; exact he)
        clear he hno
        go_wp2
        go_round
        case rel => exact ⟨k + 1, by omega, by go_num, H.out⟩
        case measure => simp [intOf]; omega
    · have H := Lib.hid (show tB (x ∈ zs) = false from tB_no fun hm => by
        obtain ⟨j, hj, e⟩ := mem_nth hm
        exact hno j (by rw [hla.out] at hj; omega) e)
      clear hno
      go_wp2
      go_ret
      exact ⟨by rw [H.out]; rfl, rfl⟩
def permTo (p : List Int) (k : Nat) : Prop := (∀ j, j < k → 0 ≤ nth p j ∧ nth p j < p.length) ∧ ∀ i j, i < j → j < k → nth p i ≠ nth p j
theorem permTo_step {p : List Int} {k : Nat} (h : permTo p k) (hk : k < p.length) (h1 : 0 ≤ nth p k ∧ nth p k ≤ (p.length : Int) - 1) (h2 : nth p k ∉ p.take k) : permTo p (k + 1) :=
  ⟨fun j hj => by
    rcases Nat.lt_succ_iff_lt_or_eq.1 hj with h' | h'
    · exact h.1 j h'
    · rw [h']; omega,
   fun i j hij hj => by
    rcases Nat.lt_succ_iff_lt_or_eq.1 hj with h' | h'
    · exact h.2 i j hij h'
    · rw [h'] at hij ⊢
      intro e
      refine h2 ?_
      rw [← e, ← nth_take (k := k) hij]
      exact nth_mem (by rw [List.length_take]; omega)⟩
set_option maxRecDepth 100000 in
set_option maxHeartbeats 1000000 in
theorem l04Ok_any (A : Option Addr) (n c : Nat) (p : List Int) (w : World) (ha : RI w A n p) (hn : n ≤ c) (hc : c ≤ 9223372036854775807) :
    Calls Try.prog 73 #[.slice A n c] w (Quiet w (.bool (tB (PermOk p)))) := by
  have hla := Lib.hid ha.len
  by_cases h0 : n ≤ 32
  · go_enter Try.func73, Try.ntmps73
    go_wp2
    go_loopw [3] (fun i wr => ∃ k : Nat, k ≤ n ∧ i = .int .i64 k ∧ Drawn w wr ∧ permTo p k) (fun i _ => n - (intOf i).toNat)
    case atStart => exact ⟨0, Nat.zero_le _, rfl, Drawn.refl _, fun _ h => absurd h (by omega), fun _ _ _ h => absurd h (by omega)⟩
    case round =>
      obtain ⟨k, hk, rfl, hd, hto⟩ := hrel
      by_cases hlt : k < n
      · obtain ⟨a, rfl, hca, hia⟩ := (ha.drawn hd).get hlt
        have e1 : IntKind.i64.wrap ((n : Int) - 1) = (n : Int) - 1 := IntWalk.i64_in _ (by omega)
        have e4 : (k : Int) ≤ (c : Int) := by omega
        cases h1 : inB (nth p k) 0 ((n : Int) - 1) with
        | false =>
          have hcall : ∀ q, Calls Try.prog 40 #[.int .i64 (nth p k), .int .i64 0, .int .i64 ((n : Int) - 1)] (wr.drewN q) (Quiet (wr.drewN q) (.bool false)) := fun q => by rw [← h1]; exact (l00In_any _ _ _ _).mono fun _ _ h => Quiet.of_same h
          have H := Lib.hid (show tB (PermOk p) = false from tB_no fun hh => by
            have := hh.2.bd k (by rw [hla.out]; exact hlt)
            rw [hla.out] at this
            rw [inB_mk ⟨this.1, by omega⟩] at h1
            cases h1)
          clear hto h1
          go_wp2
          go_quiet ((go_at_call 40; exact Quiet.call (hcall _)))
          clear e1
          go_wp2
          go_ret
          exact ⟨by rw [H.out]; rfl, hd.more _⟩
        | true =>
          have hcall : ∀ q, Calls Try.prog 40 #[.int .i64 (nth p k), .int .i64 0, .int .i64 ((n : Int) - 1)] (wr.drewN q) (Quiet (wr.drewN q) (.bool true)) := fun q => by rw [← h1]; exact (l00In_any _ _ _ _).mono fun _ _ h => Quiet.of_same h
          have hin := Lib.hid (inB_true h1)
          clear h1
          by_cases h2 : nth p k ∈ p.take k
          · have hcall2 : ∀ q, Calls Try.prog 96 #[.slice (some a) k c, .int .i64 (nth p k)] (wr.drewN q) (Quiet (wr.drewN q) (.bool true)) := fun q => by
              rw [← tB_yes h2]; exact (l00Has_any (some a) k c (p.take k) _ _ ((ha.drawn (hd.more q)).take (by omega)) (by omega)).mono fun _ _ h => Quiet.of_same h
            have H := Lib.hid (show tB (PermOk p) = false from tB_no fun hh => by
              obtain ⟨j, hj, e⟩ := mem_nth h2
              rw [List.length_take] at hj
              rw [nth_take (by omega)] at e
              exact hh.2.ne j k (by omega) (by rw [hla.out]; exact hlt) e)
            clear hto h2
            go_wp2
            go_quiet ((first | (go_at_call 40; exact Quiet.call (hcall _)) | (go_at_call 96; exact Quiet.call (hcall2 _))))
            clear e1 e4
            go_wp2
            go_ret
            exact ⟨by rw [H.out]; rfl, hd.more _⟩
          · have hcall2 : ∀ q, Calls Try.prog 96 #[.slice (some a) k c, .int .i64 (nth p k)] (wr.drewN q) (Quiet (wr.drewN q) (.bool false)) := fun q => by
              rw [← tB_no h2]; exact (l00Has_any (some a) k c (p.take k) _ _ ((ha.drawn (hd.more q)).take (by omega)) (by omega)).mono fun _ _ h => Quiet.of_same h
            have H := Lib.hid (permTo_step hto (by rw [hla.out]; exact hlt) (by rw [hla.out]; exact hin.out) h2)
            clear hto h2
            go_wp2
            go_quiet ((first | (go_at_call 40; exact Quiet.call (hcall _)) | (go_at_call 96; exact Quiet.call (hcall2 _))))
            clear e1 e4
            go_wp2
            go_roundw
            case rel => exact ⟨k + 1, by omega, by go_num, hd.more _, H.out⟩
            case measure => simp [intOf]; omega
      · have H := Lib.hid (show tB (PermOk p) = true from tB_yes ⟨by rw [hla.out]; exact h0, by rw [hla.out, ← show k = n by omega]; have := hla.out; rw [show k = n by omega, ← this]; rw [show k = n by omega, ← this] at hto; exact hto.1, by rw [hla.out]; rw [show k = n by omega] at hto; exact fun i j h1 h2 => hto.2 i j h1 h2⟩)
        clear hto
        go_wp2
        go_ret
        exact ⟨by rw [H.out]; rfl, hd⟩
  · have H := Lib.hid (show tB (PermOk p) = false from tB_no fun hh => h0 (by have := hh.1; rw [hla.out] at this; exact this))
    go_enter Try.func73, Try.ntmps73
    go_wp2
    go_ret
    exact ⟨by rw [H.out]; rfl, Drawn.refl _⟩
end Go.Proofs.Ytcnjlkabdfcjdaa
/- Squares: whether rows are one, the reference's side. No condition beyond those stated. -/
namespace Go.Proofs.Ytcnjlkabdfcjdaa
open Go.RowKit

def colTo (a : List (List Int)) (y x : Nat) : List Int := (a.take x).map fun r => nth r y
theorem colTo_len {a : List (List Int)} {y x : Nat} (h : x ≤ a.length) : (colTo a y x).length = x := by simp [colTo]; omega
theorem colTo_step {a : List (List Int)} {y x : Nat} (h : x < a.length) : colTo a y (x + 1) = colTo a y x ++ [nth (row a x) y] := by
  unfold colTo
  rw [take_row h, List.map_append]
  rfl
theorem colTo_all (a : List (List Int)) (y : Nat) : colTo a y a.length = a.map fun r => nth r y := by rw [colTo, List.take_length]
def sqRow (a : List (List Int)) (i : Nat) : Prop := (row a i).length = a.length ∧ Perm (row a i)
def sqRows (a : List (List Int)) (k : Nat) : Prop := ∀ i, i < k → sqRow a i
theorem sqRows_step {a : List (List Int)} {k : Nat} (h : sqRows a k) (h1 : sqRow a k) : sqRows a (k + 1) := fun j hj => by
  rcases Nat.lt_succ_iff_lt_or_eq.1 hj with h' | h'
  · exact h j h'
  · rw [h']; exact h1
def sqCols (a : List (List Int)) (k : Nat) : Prop := ∀ y, y < k → Perm (a.map fun r => nth r y)
theorem sqCols_step {a : List (List Int)} {k : Nat} (h : sqCols a k) (h1 : Perm (a.map fun r => nth r k)) : sqCols a (k + 1) := fun j hj => by
  rcases Nat.lt_succ_iff_lt_or_eq.1 hj with h' | h'
  · exact h j h'
  · rw [h']; exact h1
theorem permOk_iff {p : List Int} (h : p.length ≤ 32) : PermOk p ↔ Perm p := ⟨fun h => h.2, fun k => ⟨h, k⟩⟩
theorem square_iff (a : List (List Int)) : Square a ↔ (1 ≤ a.length ∧ a.length ≤ 10) ∧ sqRows a a.length ∧ sqCols a a.length :=
  ⟨fun h => ⟨⟨h.1, h.2.1⟩, h.2.2.1, h.2.2.2⟩, fun h => ⟨h.1.1, h.1.2, h.2.1, h.2.2⟩⟩
set_option maxRecDepth 100000 in
set_option maxHeartbeats 2000000 in
theorem l06Ok_any (A : Option Addr) (n c : Nat) (a : List (List Int)) (w : World) (ha : RR w A n a) (hn : n ≤ 9223372036854775807) :
    Calls Try.prog 38 #[.slice A n c] w (RetB w (tB (Square a))) := by
  have hla := Lib.hid ha.len
  have HS := Lib.hid (square_iff a)
  by_cases h0 : 1 ≤ n
  · by_cases h1 : n ≤ 10
    · go_enter Try.func38, Try.ntmps38
      go_wp2
      go_loopw [4] (fun i wr => ∃ j : Nat, i = .int .i64 j ∧ j ≤ n ∧ sqRows a j ∧ Drawn w wr) (fun i _ => n - (intOf i).toNat)
      case atStart => exact ⟨0, rfl, Nat.zero_le _, fun _ h => absurd h (by omega), Drawn.refl _⟩
      case round =>
        obtain ⟨j, rfl, hj, hto, hd⟩ := hrel
        by_cases hlt : j < n
        · obtain ⟨ad, A1, n1, c1, rfl, hca, hn1, hc1, ha1⟩ := (ha.drawn hd).get hlt
          have hl1 := Lib.hid ha1.len
          by_cases hn' : n1 = n
          · subst hn'
            cases h3 : tB (PermOk (row a j)) with
            | true =>
              have H := Lib.hid (sqRows_step hto ⟨hl1.out.trans hla.out.symm, (tB_true.1 h3).2⟩)
              have hcall := l04Ok_any A1 n1 c1 (row a j) _ ha1 hn1 hc1
              rw [h3] at hcall
              clear hto h3
              go_wp2_with (go_at_call 73; refine hcall.mono ?_; rintro e w1 ⟨rfl, hd1⟩)
              go_roundw
              case rel => exact ⟨j + 1, by go_num, by omega, H.out, hd.trans hd1⟩
              case measure => simp [intOf]; omega
            | false =>
              have H := Lib.hid (show tB (Square a) = false from tB_no fun hh => by
                have := (HS.out.1 hh).2.1 j (by rw [hla.out]; exact hlt)
                rw [tB_yes ⟨by rw [hl1.out]; omega, this.2⟩] at h3
                cases h3)
              have hcall := l04Ok_any A1 n1 c1 (row a j) _ ha1 hn1 hc1
              rw [h3] at hcall
              clear hto h3
              go_wp2_with (go_at_call 73; refine hcall.mono ?_; rintro e w1 ⟨rfl, hd1⟩)
              go_ret
              exact ⟨by rw [H.out]; rfl, (hd.trans hd1).below⟩
          · have hne : ((n1 : Int) != (n : Int)) = true := by simp; omega
            have H := Lib.hid (show tB (Square a) = false from tB_no fun hh => by
              have := ((HS.out.1 hh).2.1 j (by rw [hla.out]; exact hlt)).1
              rw [hl1.out, hla.out] at this
              exact hn' this)
            clear hto hn'
            go_wp2
            go_ret
            exact ⟨by rw [H.out]; rfl, hd.below⟩
        · have HT := Lib.hid (show sqRows a n by rwa [show j = n by omega] at hto)
          clear hto
          go_wp2
          go_loopw [5] (fun i wr => ∃ y : Nat, i = .int .i64 y ∧ y ≤ n ∧ sqCols a y ∧ Below w.heap.size w wr) (fun i _ => n - (intOf i).toNat)
          case atStart => exact ⟨0, rfl, Nat.zero_le _, fun _ h => absurd h (by omega), hd.below⟩
          case round =>
            obtain ⟨y, rfl, hy, hco, hb⟩ := hrel
            by_cases hlt' : y < n
            · obtain ⟨ws, rfl⟩ : ∃ ws : World, ws = wr := ⟨_, rfl⟩
              have ho0 := OI.lit ws w.heap.size 2 [] hb.size (by simp) All64.nil_
              have hb0 := hb.alloc hb.size (.cells #[] 2)
              go_wp2
              go_loopw [6, 7] (fun v i wr => ∃ (x : Nat) (A' : Option Addr) (c' : Nat), i = .int .i64 x ∧ x ≤ n ∧ v = .slice A' x c' ∧ OI wr w.heap.size 2 A' x c' (colTo a y x) ∧ Below w.heap.size w wr) (fun _ i _ => n - (intOf i).toNat)
              case atStart => exact ⟨0, _, _, rfl, Nat.zero_le _, rfl, ho0, hb0⟩
              case round =>
                clear ho0 hb0 hb
                obtain ⟨x, A', c', rfl, hx, rfl, ho, hb⟩ := hrel
                by_cases hx' : x < n
                · obtain ⟨ad, A1, n1, c1, rfl, hca, hn1, hc1, ha1⟩ := (ha.keep hb).get hx'
                  obtain rfl : n1 = n := by rw [← ha1.len, (HT.out x hx').1, hla.out]
                  obtain ⟨bd, rfl, hcb, hib⟩ := ha1.get hlt'
                  have hst := Lib.hid (colTo_step (a := a) (y := y) (x := x) (by rw [hla.out]; exact hx'))
                  go_wp2_with (at_builtin; refine wpList_app1 _ rfl _ _ 30 rfl 2 (.int .i64 0) 8 Try.underlying30 int_info rfl (by omega) w.heap.size A' x c' (ints (colTo a y x)) rfl ho.os (.int .i64 (nth (row a x) y)) rfl rfl (by omega) hb.size ?_; intro A3 c3 w3 ho3 hg3 hn3)
                  have hb3 := below_own hb hg3 hb.size (fun b hb => (ho.os.lt hb).1)
                  have hi3 := OI.snoc ho3 ho.all (z := nth (row a x) y) hib
                  rw [← hst.out] at hi3
                  clear ho ho3 hg3 hn3 hca hcb
                  go_wp2
                  go_roundw
                  case rel => exact ⟨x + 1, A3, c3, by go_num, by omega, rfl, hi3, hb3⟩
                  case measure => simp [intOf]; omega
                · obtain rfl : x = n := by omega
                  have hcl := Lib.hid (show colTo a y x = a.map fun r => nth r y by rw [← hla.out, colTo_all])
                  have hlen := Lib.hid (show (colTo a y x).length = x from colTo_len (by rw [hla.out]; exact Nat.le_refl _))
                  cases h3 : tB (PermOk (colTo a y x)) with
                  | true =>
                    have H := Lib.hid (sqCols_step hco (by rw [← hcl.out]; exact (tB_true.1 h3).2))
                    have hcall := l04Ok_any A' x c' (colTo a y x) _ ho.reads ho.os.cap.1 ho.os.cap.2
                    rw [h3] at hcall
                    clear hco h3
                    go_wp2_with (go_at_call 73; refine hcall.mono ?_; rintro e w1 ⟨rfl, hd1⟩)
                    go_roundw
                    case rel => exact ⟨y + 1, by go_num, by omega, H.out, hb.trans (hd1.below.mono hb.size)⟩
                    case measure => simp [intOf]; omega
                  | false =>
                    have H := Lib.hid (show tB (Square a) = false from tB_no fun hh => by
                      have := (HS.out.1 hh).2.2 y (by rw [hla.out]; exact hlt')
                      rw [← hcl.out] at this
                      rw [tB_yes ⟨by rw [hlen.out]; omega, this⟩] at h3
                      cases h3)
                    have hcall := l04Ok_any A' x c' (colTo a y x) _ ho.reads ho.os.cap.1 ho.os.cap.2
                    rw [h3] at hcall
                    clear hco h3
                    go_wp2_with (go_at_call 73; refine hcall.mono ?_; rintro e w1 ⟨rfl, hd1⟩)
                    go_ret
                    exact ⟨by rw [H.out]; rfl, hb.trans (hd1.below.mono hb.size)⟩
            · have H := Lib.hid (show tB (Square a) = true from tB_yes (HS.out.2 ⟨⟨by rw [hla.out]; exact h0, by rw [hla.out]; exact h1⟩, by rw [hla.out]; exact HT.out, by rw [hla.out]; rwa [show y = n by omega] at hco⟩))
              clear hco
              go_wp2
              go_ret
              exact ⟨by rw [H.out]; rfl, hb⟩
    · have H := Lib.hid (show tB (Square a) = false from tB_no fun hh => h1 (by have := hh.2.1; rw [hla.out] at this; exact this))
      go_enter Try.func38, Try.ntmps38
      go_wp2
      go_ret
      exact ⟨by rw [H.out]; rfl, Below.refl _ _⟩
  · have H := Lib.hid (show tB (Square a) = false from tB_no fun hh => h0 (by have := hh.1; rw [hla.out] at this; exact this))
    go_enter Try.func38, Try.ntmps38
    go_wp2
    go_ret
    exact ⟨by rw [H.out]; rfl, Below.refl _ _⟩
end Go.Proofs.Ytcnjlkabdfcjdaa
/- Lists compared, and rising lists, on both sides. No condition beyond those stated. -/
namespace Go.Proofs.Ytcnjlkabdfcjdaa
open Go.RowKit

def sgnI (x y : Int) : Int := if x < y then -1 else if y < x then 1 else 0
set_option maxHeartbeats 400000 in
theorem isNaN_any (x : Int) (w : World) : Calls Try.prog 97 #[.int .i64 x] w fun e w' => e = .returned (.bool false) ∧ w = w' := by
  go_enter Try.func97, Try.ntmps97
  go_wp2
  go_ret
  exact ⟨ret_bool (by simp), rfl⟩
set_option maxHeartbeats 400000 in
theorem cmpCompare_any (x y : Int) (w : World) : Calls Try.prog 76 #[.int .i64 x, .int .i64 y] w fun e w' => e = .returned (.int .i64 (sgnI x y)) ∧ w = w' := by
  by_cases h1 : x < y
  · have H := Lib.hid (show sgnI x y = -1 by simp [sgnI, h1])
    go_enter Try.func76, Try.ntmps76
    go_wp2_with (go_at_call 97; refine (isNaN_any _ _).mono ?_; rintro e w' ⟨rfl, rfl⟩)
    go_ret
    exact ⟨by rw [H.out]; rfl, rfl⟩
  · by_cases h2 : y < x
    · have H := Lib.hid (show sgnI x y = 1 by simp [sgnI, h1, h2])
      have h1' : y ≤ x := by omega
      go_enter Try.func76, Try.ntmps76
      go_wp2_with (go_at_call 97; refine (isNaN_any _ _).mono ?_; rintro e w' ⟨rfl, rfl⟩)
      go_ret
      exact ⟨by rw [H.out]; rfl, rfl⟩
    · have H := Lib.hid (show sgnI x y = 0 by simp [sgnI, h1, h2])
      go_enter Try.func76, Try.ntmps76
      go_wp2_with (go_at_call 97; refine (isNaN_any _ _).mono ?_; rintro e w' ⟨rfl, rfl⟩)
      go_ret
      exact ⟨by rw [H.out]; rfl, rfl⟩
set_option maxHeartbeats 1000000 in
theorem slicesCompare_any (A B : Option Addr) (n m c d : Nat) (xs ys : List Int) (w : World) (ha : RI w A n xs) (hb : RI w B m ys) (hn : n ≤ 9223372036854775807) (hm : m ≤ 9223372036854775807) :
    Calls Try.prog 43 #[.slice A n c, .slice B m d] w fun e w' => e = .returned (.int .i64 (cmpL xs ys)) ∧ w = w' := by
  have hla := Lib.hid ha.len
  have hlb := Lib.hid hb.len
  go_enter Try.func43, Try.ntmps43
  go_wp2
  go_loop [11] (fun i => ∃ k : Nat, k ≤ n ∧ i = .int .i64 k ∧ agree xs ys k) (fun i => n - (intOf i).toNat)
  case atStart => exact ⟨0, Nat.zero_le _, rfl, agree_zero _ _⟩
  case round =>
    obtain ⟨k, hk, rfl, hag⟩ := hrel
    by_cases hlt : k < n
    · obtain ⟨a, rfl, hca, hia⟩ := ha.get hlt
      by_cases hltm : k < m
      · obtain ⟨b, rfl, hcb, hib⟩ := hb.get hltm
        have l1 : k < xs.length := by rw [hla.out]; exact hlt
        have l2 : k < ys.length := by rw [hlb.out]; exact hltm
        by_cases h1 : nth xs k < nth ys k
        · have H := Lib.hid (cmpL_lt hag l1 l2 h1)
          have HS := Lib.hid (show sgnI (nth xs k) (nth ys k) = -1 by simp [sgnI, h1])
          clear hag h1 l1 l2
          go_wp2_with (go_at_call 76; refine (cmpCompare_any _ _ _).mono ?_; rintro e w' ⟨rfl, rfl⟩; rw [HS.out])
          go_ret
          exact ⟨by rw [H.out]; rfl, rfl⟩
        · by_cases h2 : nth ys k < nth xs k
          · have H := Lib.hid (cmpL_gt hag l1 l2 h2)
            have HS := Lib.hid (show sgnI (nth xs k) (nth ys k) = 1 by simp [sgnI, h1, h2])
            clear hag h1 h2 l1 l2
            go_wp2_with (go_at_call 76; refine (cmpCompare_any _ _ _).mono ?_; rintro e w' ⟨rfl, rfl⟩; rw [HS.out])
            go_ret
            exact ⟨by rw [H.out]; rfl, rfl⟩
          · have H := Lib.hid (agree_step hag l1 l2 (by omega))
            have HS := Lib.hid (show sgnI (nth xs k) (nth ys k) = 0 by simp [sgnI, h1, h2])
            clear hag h1 h2 l1 l2
            go_wp2_with (go_at_call 76; refine (cmpCompare_any _ _ _).mono ?_; rintro e w' ⟨rfl, rfl⟩; rw [HS.out])
            go_round
            case rel => exact ⟨k + 1, by omega, by go_num, H.out⟩
            case measure => simp [intOf]; omega
      · have hkm : m ≤ k := by omega
        have H := Lib.hid (show cmpL xs ys = 1 by
          have : k = m := by have := hag.2.1; rw [hlb.out] at this; omega
          refine cmpL_long ?_ (by rw [hla.out, hlb.out]; omega)
          rw [hlb.out, ← this]; exact hag)
        clear hag
        go_wp2
        go_ret
        exact ⟨by rw [H.out]; rfl, rfl⟩
    · obtain rfl : k = n := by omega
      by_cases hltm : k < m
      · have H := Lib.hid (show cmpL xs ys = -1 from cmpL_short (by rw [hla.out]; exact hag) (by rw [hla.out, hlb.out]; exact hltm))
        clear hag
        go_wp2
        go_ret
        exact ⟨by rw [H.out]; rfl, rfl⟩
      · have hkm : m ≤ k := by omega
        have H := Lib.hid (show cmpL xs ys = 0 from cmpL_same (by rw [hla.out]; exact hag) (by rw [hla.out, hlb.out]; have := hag.2.1; rw [hlb.out] at this; omega))
        clear hag
        go_wp2
        go_ret
        exact ⟨by rw [H.out]; rfl, rfl⟩

/-- the first k places rise -/
def risesTo (z : List Int) (lo hi : Int) (k : Nat) : Prop := (∀ j, j < k → lo ≤ nth z j ∧ nth z j ≤ hi) ∧ ∀ j, j + 1 < k → nth z j < nth z (j + 1)
theorem risesTo_zero (z : List Int) (lo hi : Int) : risesTo z lo hi 0 := ⟨fun _ h => absurd h (by omega), fun _ h => absurd h (by omega)⟩
theorem risesTo_step {z : List Int} {lo hi : Int} {k : Nat} (h : risesTo z lo hi k) (h1 : lo ≤ nth z k ∧ nth z k ≤ hi) (h2 : 0 < k → nth z (k - 1) < nth z k) : risesTo z lo hi (k + 1) :=
  ⟨fun j hj => by
    rcases Nat.lt_succ_iff_lt_or_eq.1 hj with h' | h'
    · exact h.1 j h'
    · rw [h']; exact h1,
   fun j hj => by
    rcases Nat.lt_succ_iff_lt_or_eq.1 hj with h' | h'
    · exact h.2 j h'
    · have := h2 (by omega)
      have e : k = j + 1 := h'.symm
      subst e
      simpa using this⟩
theorem risesTo_all {z : List Int} {lo hi : Int} {k : Nat} (hk : z.length = k) (h : risesTo z lo hi k) : Rises z lo hi := ⟨by rw [hk]; exact h.1, by rw [hk]; exact h.2⟩
end Go.Proofs.Ytcnjlkabdfcjdaa
