/- Graphs: whether one is valid, on both sides. No condition beyond those stated. -/
import Derived.Test.YtncknfhfkmmhbaaGreatZAL
import Derived.Test.YtncknfhfkmmhbaaGreatZAH
import Derived.Test.YtncknfhfkmmhbaaGreatZAF
import Derived.Deep.RegionHeld3
set_option linter.unusedVariables false
set_option linter.unusedSimpArgs false
namespace Go.Proofs.YtncknfhfkmmhbaaGreat
open Go.RowKit

def orI (x y : Int) : Int := if x = 0 then y else x
def cmpE (a b : Ed) : Int := orI (sgnI a.1 b.1) (sgnI a.2 b.2)
def lessE (a b : Ed) : Prop := a.1 < b.1 ∨ (a.1 = b.1 ∧ a.2 < b.2)
theorem cmpE_neg (a b : Ed) : cmpE a b < 0 ↔ lessE a b := by
  unfold cmpE orI lessE
  rcases sgnI_cases a.1 b.1 with ⟨h, e⟩ | ⟨h, e⟩ | ⟨h, e⟩ <;> rcases sgnI_cases a.2 b.2 with ⟨h', e'⟩ | ⟨h', e'⟩ | ⟨h', e'⟩ <;> rw [e, e'] <;> simp <;> omega
structure GraphOk (cs : List Int) (es : List Ed) : Prop where
  clen : cs.length ≤ 64
  elen : es.length ≤ 512
  col : ∀ k, k < cs.length → 0 ≤ nth cs k ∧ nth cs k ≤ 63
  edge : ∀ i, i < es.length → 0 ≤ (nthE es i).1 ∧ (nthE es i).1 < (nthE es i).2 ∧ (nthE es i).2 < cs.length
  ord : ∀ i, i + 1 < es.length → lessE (nthE es i) (nthE es (i + 1))
set_option maxHeartbeats 400000 in
theorem cmpOr_any (g c : Nat) (x y : Int) (w : World) (h0 : w.cell? ⟨g, 0, none⟩ = some (.int .i64 x)) (h1 : w.cell? ⟨g, 1, none⟩ = some (.int .i64 y)) :
    Calls Tryz.prog 80 #[.slice (some ⟨g, 0, none⟩) 2 c] w fun e w' => e = .returned (.int .i64 (orI x y)) ∧ w = w' := by
  by_cases hx : x = 0
  · have hx' : (x != 0) = false := by simp [hx]
    have HX := Lib.hid (show orI x y = y by rw [orI, if_pos hx])
    by_cases hy : y = 0
    · have hy' : (y != 0) = false := by simp [hy]
      have HY := Lib.hid hy
      clear hx hy
      go_enter Tryz.func80, Tryz.ntmps80
      go_wp2
      go_loop [8] (fun i => ∃ k : Nat, k ≤ 2 ∧ i = .int .i64 k) (fun i => 2 - (intOf i).toNat)
      case atStart => exact ⟨0, by omega, rfl⟩
      case round =>
        obtain ⟨k, hk, rfl⟩ := hrel
        have : k = 0 ∨ k = 1 ∨ k = 2 := by omega
        rcases this with rfl | rfl | rfl
        · go_wp2
          go_round
          case rel => exact ⟨1, by omega, by go_num⟩
          case measure => simp [intOf]
        · go_wp2
          go_round
          case rel => exact ⟨2, by omega, by go_num⟩
          case measure => simp [intOf]
        · go_wp2
          go_ret
          exact ⟨by rw [HX.out, HY.out]; rfl, rfl⟩
    · have hy' : (y != 0) = true := by simp [hy]
      clear hx hy
      go_enter Tryz.func80, Tryz.ntmps80
      go_wp2
      go_loop [8] (fun i => ∃ k : Nat, k ≤ 1 ∧ i = .int .i64 k) (fun i => 2 - (intOf i).toNat)
      case atStart => exact ⟨0, by omega, rfl⟩
      case round =>
        obtain ⟨k, hk, rfl⟩ := hrel
        have : k = 0 ∨ k = 1 := by omega
        rcases this with rfl | rfl
        · go_wp2
          go_round
          case rel => exact ⟨1, by omega, by go_num⟩
          case measure => simp [intOf]
        · go_wp2
          go_ret
          exact ⟨by rw [HX.out]; rfl, rfl⟩
  · have hx' : (x != 0) = true := by simp [hx]
    have HX := Lib.hid (show orI x y = x by rw [orI, if_neg hx])
    clear hx
    go_enter Tryz.func80, Tryz.ntmps80
    go_wp2
    go_loop [8] (fun i => i = .int .i64 ((0 : Nat) : Int)) (fun i => 2 - (intOf i).toNat)
    case atStart => rfl
    case round =>
      obtain rfl := hrel
      go_wp2
      go_ret
      exact ⟨by rw [HX.out]; rfl, rfl⟩
theorem keep4 {W w' : World} {p1 p2 p3 p4 : Addr} {u1 u2 u3 u4 : Value} (hb : Below W.heap.size W w') (h1 : W.cell? p1 = some u1) (h2 : W.cell? p2 = some u2) (h3 : W.cell? p3 = some u3) (h4 : W.cell? p4 = some u4) :
    Below W.heap.size W w' ∧ w'.cell? p1 = some u1 ∧ w'.cell? p2 = some u2 ∧ w'.cell? p3 = some u3 ∧ w'.cell? p4 = some u4 := ⟨hb, below_cell hb h1, below_cell hb h2, below_cell hb h3, below_cell hb h4⟩
set_option maxHeartbeats 1000000 in
theorem compareEdges_any (a b c d : Int) (w : World) (ia : I64 a) (ib : I64 b) (ic : I64 c) (id : I64 d) :
    Calls Tryz.prog 51 #[.agg #[.int .i64 a, .int .i64 b], .agg #[.int .i64 c, .int .i64 d]] w fun e w' => e = .returned (.int .i64 (cmpE (a, b) (c, d))) ∧ Below w.heap.size w w' := by
  have hb1 := below_then (below_alloc w (.cells #[.int .i64 a, .int .i64 b] 48)) (below_alloc (w.alloc (.cells #[.int .i64 a, .int .i64 b] 48)) (.cells #[.int .i64 c, .int .i64 d] 48))
  have X := (Blk.new w 48 #[.int .i64 a, .int .i64 b]).alloc (.cells #[.int .i64 c, .int .i64 d] 48)
  have Y : Blk ((w.alloc (.cells #[.int .i64 a, .int .i64 b] 48)).alloc (.cells #[.int .i64 c, .int .i64 d] 48)) (w.heap.size + 1) 48 #[.int .i64 c, .int .i64 d] := by
    have := Blk.new (w.alloc (.cells #[.int .i64 a, .int .i64 b] 48)) 48 #[.int .i64 c, .int .i64 d]
    simpa using this
  have H := Lib.hid (show orI (sgnI a c) (sgnI b d) = cmpE (a, b) (c, d) from rfl)
  go_enter Tryz.func51, Tryz.ntmps51
  go_wp2
  generalize hW : (w.alloc (.cells #[.int .i64 a, .int .i64 b] 48)).alloc (.cells #[.int .i64 c, .int .i64 d] 48) = W at *
  clear hW
  obtain ⟨x0, x1⟩ := X.cells2
  obtain ⟨y0, y1⟩ := Y.cells2
  go_region_held3 (fun w' => Below W.heap.size W w' ∧ w'.cell? ⟨w.heap.size, 0, none⟩ = some (.int .i64 a) ∧ w'.cell? ⟨w.heap.size, 1, none⟩ = some (.int .i64 b) ∧ w'.cell? ⟨w.heap.size + 1, 0, none⟩ = some (.int .i64 c) ∧ w'.cell? ⟨w.heap.size + 1, 1, none⟩ = some (.int .i64 d))
    (first | exact keep4 (below_drewn _ 1) x0 x1 y0 y1 | exact keep4 ((below_alloc W _).trans (below_drewn' _ _ 1)) x0 x1 y0 y1)
    (first
      | (go_at_call 44; (with_reducible refine (cmpCompare_any a c _).mono ?_); rintro e w2 ⟨rfl, rfl⟩)
      | (go_at_call 44; (with_reducible refine (cmpCompare_any b d _).mono ?_); rintro e w2 ⟨rfl, rfl⟩)
      | (go_at_call 80; (with_reducible refine (cmpOr_any _ _ (sgnI a c) (sgnI b d) _ ?_ ?_).mono ?_); (exact Blk.cell (Blk.new _ _ _) 0); (exact Blk.cell (Blk.new _ _ _) 1); rintro e w3 ⟨rfl, rfl⟩))
  have hw : Below w.heap.size w (W.alloc (.cells #[.int .i64 (sgnI a c), .int .i64 (sgnI b d)] 3)).drew := below_then hb1 ((below_alloc W _).trans (below_drewn' _ _ 1))
  go_wp2
  go_ret
  exact ⟨by rw [← H.out]; rfl, hw⟩

def colB (x : Int) : Bool := !inB x 0 63
def colsOk (cs : List Int) : Prop := cs.length ≤ 64 ∧ ∀ k, k < cs.length → 0 ≤ nth cs k ∧ nth cs k ≤ 63
theorem colB_any (cs : List Int) : (!cs.any colB) = tB (∀ k, k < cs.length → 0 ≤ nth cs k ∧ nth cs k ≤ 63) := by
  cases h : cs.any colB with
  | true =>
    obtain ⟨x, hx, hb⟩ := List.any_eq_true.1 h
    obtain ⟨k, hk, rfl⟩ := List.mem_iff_getElem.1 hx
    rw [tB_no (p := ∀ k, k < cs.length → 0 ≤ nth cs k ∧ nth cs k ≤ 63) fun hh => ?_]
    · rfl
    · have := hh k hk
      rw [nth_get hk] at this
      rw [colB, inB_mk this] at hb
      cases hb
  | false =>
    rw [tB_yes (p := ∀ k, k < cs.length → 0 ≤ nth cs k ∧ nth cs k ≤ 63) fun i hi => ?_]
    · rfl
    · rw [List.any_eq_false] at h
      have := h cs[i] (List.getElem_mem hi)
      rw [nth_get hi]
      exact inB_true (by simpa [colB] using this)
set_option maxHeartbeats 400000 in
theorem areColors1_any (x : Int) (w : World) : Calls Tryz.prog 82 #[.int .i64 x] w fun e w' => e = .returned (.bool (colB x)) ∧ w = w' := by
  have hc : Calls Tryz.prog 83 #[.int .i64 x] w fun e w' => e = .returned (.bool (inB x 0 63)) ∧ w = w' := by
    go_enter Tryz.func83, Tryz.ntmps83
    go_wp2_with (go_at_call 14; refine (within_any _ _ _ _).mono ?_; rintro e w' ⟨rfl, rfl⟩)
    go_ret
    exact ⟨rfl, rfl⟩
  go_enter Tryz.func82, Tryz.ntmps82
  go_wp2_with (go_at_call 83; refine hc.mono ?_; rintro e w' ⟨rfl, rfl⟩)
  go_ret
  exact ⟨rfl, rfl⟩
set_option maxHeartbeats 400000 in
theorem areColors_any (A : Option Addr) (n c : Nat) (cs : List Int) (w : World) (ha : RI w A n cs) (hn : n ≤ 9223372036854775807) :
    Calls Tryz.prog 52 #[.slice A n c] w fun e w' => e = .returned (.bool (tB (colsOk cs))) ∧ w = w' := by
  have hla := Lib.hid ha.len
  have eg : ∀ (args : Array Value) (w : World), (callFunc 82 args).run Tryz.prog w = .ok (.enter 82 args) w := fun _ _ => by kernel_rfl
  have hask : AskIq 82 #[] colB w := fun x _ => areColors1_any x w
  by_cases h0 : n ≤ 64
  · have H := Lib.hid (show (!cs.any colB) = tB (colsOk cs) by
      rw [colB_any]
      exact tB_congr ⟨fun h => ⟨by rw [hla.out]; exact h0, h⟩, fun h => h.2⟩)
    go_enter Tryz.func52, Tryz.ntmps52
    go_wp2_with (go_at_call 81; refine (containsFuncIq _ _ eg colB A n c cs _ ha hn hask).mono ?_; rintro e w1 ⟨rfl, rfl⟩)
    go_ret
    exact ⟨by rw [← H.out]; rfl, rfl⟩
  · have H := Lib.hid (show tB (colsOk cs) = false from tB_no fun h => h0 (by have := h.1; rw [hla.out] at this; exact this))
    go_enter Tryz.func52, Tryz.ntmps52
    go_wp2
    go_ret
    exact ⟨by rw [H.out]; rfl, rfl⟩
end Go.Proofs.YtncknfhfkmmhbaaGreat
