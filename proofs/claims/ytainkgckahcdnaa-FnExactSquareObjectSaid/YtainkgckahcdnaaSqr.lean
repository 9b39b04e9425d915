/- Squares: whether rows are one, the reference's side. No condition beyond those stated. -/
import Derived.Test.YtainkgckahcdnaaPerm
namespace Go.Proofs.Ytainkgckahcdnaa
open Go.RowKit

def colTo (a : List (List Int)) (y x : Nat) : List Int := (a.take x).map fun r => nth r y
theorem colTo_len {a : List (List Int)} {y x : Nat} (h : x ≤ a.length) : (colTo a y x).length = x := by simp [colTo]; omega
theorem colTo_step {a : List (List Int)} {y x : Nat} (h : x < a.length) : colTo a y (x + 1) = colTo a y x ++ [nth (row a x) y] := by
  unfold colTo
  rw [take_row h, List.map_append]
  rfl
theorem colTo_all (a : List (List Int)) (y : Nat) : colTo a y a.length = a.map fun r => nth r y := by rw [colTo, List.take_length]
def sqRow (a : List (List Int)) (i : Nat) : Prop := (row a i).length = a.length ∧ Perm (row a i)
def sqRows (a : List (List Int)) (k : Nat) : Prop := ∀ i, i < k → sqRow a i
theorem sqRows_step {a : List (List Int)} {k : Nat} (h : sqRows a k) (h1 : sqRow a k) : sqRows a (k + 1) := fun j hj => by
  rcases Nat.lt_succ_iff_lt_or_eq.1 hj with h' | h'
  · exact h j h'
  · rw [h']; exact h1
def sqCols (a : List (List Int)) (k : Nat) : Prop := ∀ y, y < k → Perm (a.map fun r => nth r y)
theorem sqCols_step {a : List (List Int)} {k : Nat} (h : sqCols a k) (h1 : Perm (a.map fun r => nth r k)) : sqCols a (k + 1) := fun j hj => by
  rcases Nat.lt_succ_iff_lt_or_eq.1 hj with h' | h'
  · exact h j h'
  · rw [h']; exact h1
theorem permOk_iff {p : List Int} (h : p.length ≤ 32) : PermOk p ↔ Perm p := ⟨fun h => h.2, fun k => ⟨h, k⟩⟩
theorem square_iff (a : List (List Int)) : Square a ↔ (1 ≤ a.length ∧ a.length ≤ 10) ∧ sqRows a a.length ∧ sqCols a a.length :=
  ⟨fun h => ⟨⟨h.1, h.2.1⟩, h.2.2.1, h.2.2.2⟩, fun h => ⟨h.1.1, h.1.2, h.2.1, h.2.2⟩⟩
set_option maxRecDepth 100000 in
set_option maxHeartbeats 2000000 in
theorem l06Ok_any (A : Option Addr) (n c : Nat) (a : List (List Int)) (w : World) (ha : RR w A n a) (hn : n ≤ 9223372036854775807) :
    Calls Try.prog 82 #[.slice A n c] w (RetB w (tB (Square a))) := by
  have hla := Lib.hid ha.len
  have HS := Lib.hid (square_iff a)
  by_cases h0 : 1 ≤ n
  · by_cases h1 : n ≤ 10
    · go_enter Try.func82, Try.ntmps82
      go_wp2
      go_loopw [4] (fun i wr => ∃ j : Nat, i = .int .i64 j ∧ j ≤ n ∧ sqRows a j ∧ Drawn w wr) (fun i _ => n - (intOf i).toNat)
      case atStart => exact ⟨0, rfl, Nat.zero_le _, fun _ h => absurd h (by omega), Drawn.refl _⟩
      case round =>
        obtain ⟨j, rfl, hj, hto, hd⟩ := hrel
        by_cases hlt : j < n
        · obtain ⟨ad, A1, n1, c1, rfl, hca, hn1, hc1, ha1⟩ := (ha.drawn hd).get hlt
          have hl1 := Lib.hid ha1.len
          by_cases hn' : n1 = n
          · subst hn'
            cases h3 : tB (PermOk (row a j)) with
            | true =>
              have H := Lib.hid (sqRows_step hto ⟨hl1.out.trans hla.out.symm, (tB_true.1 h3).2⟩)
              have hcall := l04Ok_any A1 n1 c1 (row a j) _ ha1 hn1 hc1
              rw [h3] at hcall
              clear hto h3
              go_wp2_with (go_at_call 101; refine hcall.mono ?_; rintro e w1 ⟨rfl, hd1⟩)
              go_roundw
              case rel => exact ⟨j + 1, by go_num, by omega, H.out, hd.trans hd1⟩
              case measure => simp [intOf]; omega
            | false =>
              have H := Lib.hid (show tB (Square a) = false from tB_no fun hh => by
                have := (HS.out.1 hh).2.1 j (by rw [hla.out]; exact hlt)
                rw [tB_yes ⟨by rw [hl1.out]; omega, this.2⟩] at h3
                cases h3)
              have hcall := l04Ok_any A1 n1 c1 (row a j) _ ha1 hn1 hc1
              rw [h3] at hcall
              clear hto h3
              go_wp2_with (go_at_call 101; refine hcall.mono ?_; rintro e w1 ⟨rfl, hd1⟩)
              go_ret
              exact ⟨by rw [H.out]; rfl, (hd.trans hd1).below⟩
          · have hne : ((n1 : Int) != (n : Int)) = true := by simp; omega
            have H := Lib.hid (show tB (Square a) = false from tB_no fun hh => by
              have := ((HS.out.1 hh).2.1 j (by rw [hla.out]; exact hlt)).1
              rw [hl1.out, hla.out] at this
              exact hn' this)
            clear hto hn'
            go_wp2
            go_ret
            exact ⟨by rw [H.out]; rfl, hd.below⟩
        · have HT := Lib.hid (show sqRows a n by rwa [show j = n by omega] at hto)
          clear hto
          go_wp2
          go_loopw [5] (fun i wr => ∃ y : Nat, i = .int .i64 y ∧ y ≤ n ∧ sqCols a y ∧ Below w.heap.size w wr) (fun i _ => n - (intOf i).toNat)
          case atStart => exact ⟨0, rfl, Nat.zero_le _, fun _ h => absurd h (by omega), hd.below⟩
          case round =>
            obtain ⟨y, rfl, hy, hco, hb⟩ := hrel
            by_cases hlt' : y < n
            · obtain ⟨ws, rfl⟩ : ∃ ws : World, ws = wr := ⟨_, rfl⟩
              have ho0 := OI.lit ws w.heap.size 2 [] hb.size (by simp) All64.nil_
              have hb0 := hb.alloc hb.size (.cells #[] 2)
              go_wp2
              go_loopw [6, 7] (fun v i wr => ∃ (x : Nat) (A' : Option Addr) (c' : Nat), i = .int .i64 x ∧ x ≤ n ∧ v = .slice A' x c' ∧ OI wr w.heap.size 2 A' x c' (colTo a y x) ∧ Below w.heap.size w wr) (fun _ i _ => n - (intOf i).toNat)
              case atStart => exact ⟨0, _, _, rfl, Nat.zero_le _, rfl, ho0, hb0⟩
              case round =>
                clear ho0 hb0 hb
                obtain ⟨x, A', c', rfl, hx, rfl, ho, hb⟩ := hrel
                by_cases hx' : x < n
                · obtain ⟨ad, A1, n1, c1, rfl, hca, hn1, hc1, ha1⟩ := (ha.keep hb).get hx'
                  obtain rfl : n1 = n := by rw [← ha1.len, (HT.out x hx').1, hla.out]
                  obtain ⟨bd, rfl, hcb, hib⟩ := ha1.get hlt'
                  have hst := Lib.hid (colTo_step (a := a) (y := y) (x := x) (by rw [hla.out]; exact hx'))
                  go_wp2_with (at_builtin; refine wpList_app1 _ rfl _ _ 51 rfl 2 (.int .i64 0) 8 Try.underlying51 int_info rfl (by omega) w.heap.size A' x c' (ints (colTo a y x)) rfl ho.os (.int .i64 (nth (row a x) y)) rfl rfl (by omega) hb.size ?_; intro A3 c3 w3 ho3 hg3 hn3)
                  have hb3 := below_own hb hg3 hb.size (fun b hb => (ho.os.lt hb).1)
                  have hi3 := OI.snoc ho3 ho.all (z := nth (row a x) y) hib
                  rw [← hst.out] at hi3
                  clear ho ho3 hg3 hn3 hca hcb
                  go_wp2
                  go_roundw
                  case rel => exact ⟨x + 1, A3, c3, by go_num, by omega, rfl, hi3, hb3⟩
                  case measure => simp [intOf]; omega
                · obtain rfl : x = n := by omega
                  have hcl := Lib.hid (show colTo a y x = a.map fun r => nth r y by rw [← hla.out, colTo_all])
                  have hlen := Lib.hid (show (colTo a y x).length = x from colTo_len (by rw [hla.out]; exact Nat.le_refl _))
                  cases h3 : tB (PermOk (colTo a y x)) with
                  | true =>
                    have H := Lib.hid (sqCols_step hco (by rw [← hcl.out]; exact (tB_true.1 h3).2))
                    have hcall := l04Ok_any A' x c' (colTo a y x) _ ho.reads ho.os.cap.1 ho.os.cap.2
                    rw [h3] at hcall
                    clear hco h3
                    go_wp2_with (go_at_call 101; refine hcall.mono ?_; rintro e w1 ⟨rfl, hd1⟩)
                    go_roundw
                    case rel => exact ⟨y + 1, by go_num, by omega, H.out, hb.trans (hd1.below.mono hb.size)⟩
                    case measure => simp [intOf]; omega
                  | false =>
                    have H := Lib.hid (show tB (Square a) = false from tB_no fun hh => by
                      have := (HS.out.1 hh).2.2 y (by rw [hla.out]; exact hlt')
                      rw [← hcl.out] at this
                      rw [tB_yes ⟨by rw [hlen.out]; omega, this⟩] at h3
                      cases h3)
                    have hcall := l04Ok_any A' x c' (colTo a y x) _ ho.reads ho.os.cap.1 ho.os.cap.2
                    rw [h3] at hcall
                    clear hco h3
                    go_wp2_with (go_at_call 101; refine hcall.mono ?_; rintro e w1 ⟨rfl, hd1⟩)
                    go_ret
                    exact ⟨by rw [H.out]; rfl, hb.trans (hd1.below.mono hb.size)⟩
            · have H := Lib.hid (show tB (Square a) = true from tB_yes (HS.out.2 ⟨⟨by rw [hla.out]; exact h0, by rw [hla.out]; exact h1⟩, by rw [hla.out]; exact HT.out, by rw [hla.out]; rwa [show y = n by omega] at hco⟩))
              clear hco
              go_wp2
              go_ret
              exact ⟨by rw [H.out]; rfl, hb⟩
    · have H := Lib.hid (show tB (Square a) = false from tB_no fun hh => h1 (by have := hh.2.1; rw [hla.out] at this; exact this))
      go_enter Try.func82, Try.ntmps82
      go_wp2
      go_ret
      exact ⟨by rw [H.out]; rfl, Below.refl _ _⟩
  · have H := Lib.hid (show tB (Square a) = false from tB_no fun hh => h0 (by have := hh.1; rw [hla.out] at this; exact this))
    go_enter Try.func82, Try.ntmps82
    go_wp2
    go_ret
    exact ⟨by rw [H.out]; rfl, Below.refl _ _⟩
end Go.Proofs.Ytainkgckahcdnaa
