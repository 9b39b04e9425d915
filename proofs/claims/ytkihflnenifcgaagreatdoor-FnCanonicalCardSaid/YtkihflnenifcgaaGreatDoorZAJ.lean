/- Graphs: whether one is valid, on both sides. No condition beyond those stated. -/
import Derived.Test.YtkihflnenifcgaaGreatDoorZAG
import Derived.Test.YtkihflnenifcgaaGreatDoorZAH
import Derived.Test.YtkihflnenifcgaaGreatDoorZAI
import Derived.Deep.RegionHeld3
import Derived.Test.YtkihflnenifcgaaGreatDoorZAE
set_option linter.unusedVariables false
set_option linter.unusedSimpArgs false
namespace Go.Proofs.YtkihflnenifcgaaGreatDoor
open Go.RowKit

def orI (x y : Int) : Int := if x = 0 then y else x
def cmpE (a b : Ed) : Int := orI (sgnI a.1 b.1) (sgnI a.2 b.2)
def lessE (a b : Ed) : Prop := a.1 < b.1 ∨ (a.1 = b.1 ∧ a.2 < b.2)
theorem cmpE_neg (a b : Ed) : cmpE a b < 0 ↔ lessE a b := by
  unfold cmpE orI lessE
  rcases sgnI_cases a.1 b.1 with ⟨h, e⟩ | ⟨h, e⟩ | ⟨h, e⟩ <;> rcases sgnI_cases a.2 b.2 with ⟨h', e'⟩ | ⟨h', e'⟩ | ⟨h', e'⟩ <;> rw [e, e'] <;> simp <;> omega
structure GraphOk (cs : List Int) (es : List Ed) : Prop where
  clen : cs.length ≤ 64
  elen : es.length ≤ 512
  col : ∀ k, k < cs.length → 0 ≤ nth cs k ∧ nth cs k ≤ 63
  edge : ∀ i, i < es.length → 0 ≤ (nthE es i).1 ∧ (nthE es i).1 < (nthE es i).2 ∧ (nthE es i).2 < cs.length
  ord : ∀ i, i + 1 < es.length → lessE (nthE es i) (nthE es (i + 1))
set_option maxHeartbeats 400000 in
theorem cmpOr_any (g c : Nat) (x y : Int) (w : World) (h0 : w.cell? ⟨g, 0, none⟩ = some (.int .i64 x)) (h1 : w.cell? ⟨g, 1, none⟩ = some (.int .i64 y)) :
    Calls Tryz.prog 76 #[.slice (some ⟨g, 0, none⟩) 2 c] w fun e w' => e = .returned (.int .i64 (orI x y)) ∧ w = w' := by
  by_cases hx : x = 0
  · have hx' : (x != 0) = false := by simp [hx]
    have HX := Lib.hid (show orI x y = y by rw [orI, if_pos hx])
    by_cases hy : y = 0
    · have hy' : (y != 0) = false := by simp [hy]
      have HY := Lib.hid hy
      clear hx hy
      go_enter Tryz.func76, Tryz.ntmps76
      go_wp2
      go_loop [8] (fun i => ∃ k : Nat, k ≤ 2 ∧ i = .int .i64 k) (fun i => 2 - (intOf i).toNat)
      case atStart => exact ⟨0, by omega, rfl⟩
      case round =>
        obtain ⟨k, hk, rfl⟩ := hrel
        have : k = 0 ∨ k = 1 ∨ k = 2 := by omega
        rcases this with rfl | rfl | rfl
        · go_wp2
          go_round
          case rel => exact ⟨1, by omega, by go_num⟩
          case measure => simp [intOf]
        · go_wp2
          go_round
          case rel => exact ⟨2, by omega, by go_num⟩
          case measure => simp [intOf]
        · go_wp2
          go_ret
          exact ⟨by rw [HX.out, HY.out]; rfl, rfl⟩
    · have hy' : (y != 0) = true := by simp [hy]
      clear hx hy
      go_enter Tryz.func76, Tryz.ntmps76
      go_wp2
      go_loop [8] (fun i => ∃ k : Nat, k ≤ 1 ∧ i = .int .i64 k) (fun i => 2 - (intOf i).toNat)
      case atStart => exact ⟨0, by omega, rfl⟩
      case round =>
        obtain ⟨k, hk, rfl⟩ := hrel
        have : k = 0 ∨ k = 1 := by omega
        rcases this with rfl | rfl
        · go_wp2
          go_round
          case rel => exact ⟨1, by omega, by go_num⟩
          case measure => simp [intOf]
        · go_wp2
          go_ret
          exact ⟨by rw [HX.out]; rfl, rfl⟩
  · have hx' : (x != 0) = true := by simp [hx]
    have HX := Lib.hid (show orI x y = x by rw [orI, if_neg hx])
    clear hx
    go_enter Tryz.func76, Tryz.ntmps76
    go_wp2
    go_loop [8] (fun i => i = .int .i64 ((0 : Nat) : Int)) (fun i => 2 - (intOf i).toNat)
    case atStart => rfl
    case round =>
      obtain rfl := hrel
      go_wp2
      go_ret
      exact ⟨by rw [HX.out]; rfl, rfl⟩
theorem keep4 {W w' : World} {p1 p2 p3 p4 : Addr} {u1 u2 u3 u4 : Value} (hb : Below W.heap.size W w') (h1 : W.cell? p1 = some u1) (h2 : W.cell? p2 = some u2) (h3 : W.cell? p3 = some u3) (h4 : W.cell? p4 = some u4) :
    Below W.heap.size W w' ∧ w'.cell? p1 = some u1 ∧ w'.cell? p2 = some u2 ∧ w'.cell? p3 = some u3 ∧ w'.cell? p4 = some u4 := ⟨hb, below_cell hb h1, below_cell hb h2, below_cell hb h3, below_cell hb h4⟩
set_option maxHeartbeats 1000000 in
theorem compareEdges_any (a b c d : Int) (w : World) (ia : I64 a) (ib : I64 b) (ic : I64 c) (id : I64 d) :
    Calls Tryz.prog 48 #[.agg #[.int .i64 a, .int .i64 b], .agg #[.int .i64 c, .int .i64 d]] w fun e w' => e = .returned (.int .i64 (cmpE (a, b) (c, d))) ∧ Below w.heap.size w w' := by
  have hb1 := below_then (below_alloc w (.cells #[.int .i64 a, .int .i64 b] 65)) (below_alloc (w.alloc (.cells #[.int .i64 a, .int .i64 b] 65)) (.cells #[.int .i64 c, .int .i64 d] 65))
  have X := (Blk.new w 65 #[.int .i64 a, .int .i64 b]).alloc (.cells #[.int .i64 c, .int .i64 d] 65)
  have Y : Blk ((w.alloc (.cells #[.int .i64 a, .int .i64 b] 65)).alloc (.cells #[.int .i64 c, .int .i64 d] 65)) (w.heap.size + 1) 65 #[.int .i64 c, .int .i64 d] := by
    have := Blk.new (w.alloc (.cells #[.int .i64 a, .int .i64 b] 65)) 65 #[.int .i64 c, .int .i64 d]
    simpa using this
  have H := Lib.hid (show orI (sgnI a c) (sgnI b d) = cmpE (a, b) (c, d) from rfl)
  go_enter Tryz.func48, Tryz.ntmps48
  go_wp2
  generalize hW : (w.alloc (.cells #[.int .i64 a, .int .i64 b] 65)).alloc (.cells #[.int .i64 c, .int .i64 d] 65) = W at *
  clear hW
  obtain ⟨x0, x1⟩ := X.cells2
  obtain ⟨y0, y1⟩ := Y.cells2
  go_region_held3 (fun w' => Below W.heap.size W w' ∧ w'.cell? ⟨w.heap.size, 0, none⟩ = some (.int .i64 a) ∧ w'.cell? ⟨w.heap.size, 1, none⟩ = some (.int .i64 b) ∧ w'.cell? ⟨w.heap.size + 1, 0, none⟩ = some (.int .i64 c) ∧ w'.cell? ⟨w.heap.size + 1, 1, none⟩ = some (.int .i64 d))
    (first | exact keep4 (below_drewn _ 1) x0 x1 y0 y1 | exact keep4 ((below_alloc W _).trans (below_drewn' _ _ 1)) x0 x1 y0 y1)
    (first
      | (go_at_call 77; (with_reducible refine (cmpCompare_any a c _).mono ?_); rintro e w2 ⟨rfl, rfl⟩)
      | (go_at_call 77; (with_reducible refine (cmpCompare_any b d _).mono ?_); rintro e w2 ⟨rfl, rfl⟩)
      | (go_at_call 76; (with_reducible refine (cmpOr_any _ _ (sgnI a c) (sgnI b d) _ ?_ ?_).mono ?_); (exact Blk.cell (Blk.new _ _ _) 0); (exact Blk.cell (Blk.new _ _ _) 1); rintro e w3 ⟨rfl, rfl⟩))
  have hw : Below w.heap.size w (W.alloc (.cells #[.int .i64 (sgnI a c), .int .i64 (sgnI b d)] 3)).drew := below_then hb1 ((below_alloc W _).trans (below_drewn' _ _ 1))
  go_wp2
  go_ret
  exact ⟨by rw [← H.out]; rfl, hw⟩
set_option maxHeartbeats 1000000 in
theorem l21Less_any (a b c d : Int) (w : World) :
    Calls Tryz.prog 90 #[.agg #[.int .i64 a, .int .i64 b], .agg #[.int .i64 c, .int .i64 d]] w fun e w' => e = .returned (.bool (tB (lessE (a, b) (c, d)))) ∧ Below w.heap.size w w' := by
  have hb1 := below_then (below_alloc w (.cells #[.int .i64 a, .int .i64 b] 65)) (below_alloc (w.alloc (.cells #[.int .i64 a, .int .i64 b] 65)) (.cells #[.int .i64 c, .int .i64 d] 65))
  by_cases h1 : a < c
  · have H := Lib.hid (show tB (lessE (a, b) (c, d)) = true from tB_yes (.inl h1))
    go_enter Tryz.func90, Tryz.ntmps90
    go_wp2
    go_ret
    exact ⟨by rw [H.out]; rfl, hb1⟩
  · by_cases h2 : a = c
    · have h2' : (a == c) = true := by simp [h2]
      by_cases h3 : b < d
      · have H := Lib.hid (show tB (lessE (a, b) (c, d)) = true from tB_yes (.inr ⟨h2, h3⟩))
        clear h2
        go_enter Tryz.func90, Tryz.ntmps90
        go_wp2
        go_ret
        exact ⟨by rw [H.out]; exact ret_bool (by first | (simp; done) | (simp; omega) | simp [h3]), hb1⟩
      · have H := Lib.hid (show tB (lessE (a, b) (c, d)) = false from tB_no fun h => by
          rcases h with h | ⟨_, h⟩
          · exact h1 h
          · exact h3 h)
        clear h2
        go_enter Tryz.func90, Tryz.ntmps90
        go_wp2
        go_ret
        exact ⟨by rw [H.out]; exact ret_bool (by first | (simp; done) | (simp; omega)), hb1⟩
    · have h2' : (a == c) = false := by simp [h2]
      have H := Lib.hid (show tB (lessE (a, b) (c, d)) = false from tB_no fun h => by
        rcases h with h | ⟨h, _⟩
        · exact h1 h
        · exact h2 h)
      clear h2
      go_enter Tryz.func90, Tryz.ntmps90
      go_wp2
      go_ret
      exact ⟨by rw [H.out]; rfl, hb1⟩

def colB (x : Int) : Bool := !inB x 0 63
def colsOk (cs : List Int) : Prop := cs.length ≤ 64 ∧ ∀ k, k < cs.length → 0 ≤ nth cs k ∧ nth cs k ≤ 63
theorem colB_any (cs : List Int) : (!cs.any colB) = tB (∀ k, k < cs.length → 0 ≤ nth cs k ∧ nth cs k ≤ 63) := by
  cases h : cs.any colB with
  | true =>
    obtain ⟨x, hx, hb⟩ := List.any_eq_true.1 h
    obtain ⟨k, hk, rfl⟩ := List.mem_iff_getElem.1 hx
    rw [tB_no (p := ∀ k, k < cs.length → 0 ≤ nth cs k ∧ nth cs k ≤ 63) fun hh => ?_]
    · rfl
    · have := hh k hk
      rw [nth_get hk] at this
      rw [colB, inB_mk this] at hb
      cases hb
  | false =>
    rw [tB_yes (p := ∀ k, k < cs.length → 0 ≤ nth cs k ∧ nth cs k ≤ 63) fun i hi => ?_]
    · rfl
    · rw [List.any_eq_false] at h
      have := h cs[i] (List.getElem_mem hi)
      rw [nth_get hi]
      exact inB_true (by simpa [colB] using this)
set_option maxHeartbeats 400000 in
theorem areColors1_any (x : Int) (w : World) : Calls Tryz.prog 78 #[.int .i64 x] w fun e w' => e = .returned (.bool (colB x)) ∧ w = w' := by
  have hc : Calls Tryz.prog 79 #[.int .i64 x] w fun e w' => e = .returned (.bool (inB x 0 63)) ∧ w = w' := by
    go_enter Tryz.func79, Tryz.ntmps79
    go_wp2_with (go_at_call 57; refine (within_any _ _ _ _).mono ?_; rintro e w' ⟨rfl, rfl⟩)
    go_ret
    exact ⟨rfl, rfl⟩
  go_enter Tryz.func78, Tryz.ntmps78
  go_wp2_with (go_at_call 79; refine hc.mono ?_; rintro e w' ⟨rfl, rfl⟩)
  go_ret
  exact ⟨rfl, rfl⟩
set_option maxHeartbeats 400000 in
theorem areColors_any (A : Option Addr) (n c : Nat) (cs : List Int) (w : World) (ha : RI w A n cs) (hn : n ≤ 9223372036854775807) :
    Calls Tryz.prog 49 #[.slice A n c] w fun e w' => e = .returned (.bool (tB (colsOk cs))) ∧ w = w' := by
  have hla := Lib.hid ha.len
  have eg : ∀ (args : Array Value) (w : World), (callFunc 78 args).run Tryz.prog w = .ok (.enter 78 args) w := fun _ _ => by kernel_rfl
  have hask : AskIq 78 #[] colB w := fun x _ => areColors1_any x w
  by_cases h0 : n ≤ 64
  · have H := Lib.hid (show (!cs.any colB) = tB (colsOk cs) by
      rw [colB_any]
      exact tB_congr ⟨fun h => ⟨by rw [hla.out]; exact h0, h⟩, fun h => h.2⟩)
    go_enter Tryz.func49, Tryz.ntmps49
    go_wp2_with (go_at_call 55; refine (containsFuncIq _ _ eg colB A n c cs _ ha hn hask).mono ?_; rintro e w1 ⟨rfl, rfl⟩)
    go_ret
    exact ⟨by rw [← H.out]; rfl, rfl⟩
  · have H := Lib.hid (show tB (colsOk cs) = false from tB_no fun h => h0 (by have := h.1; rw [hla.out] at this; exact this))
    go_enter Tryz.func49, Tryz.ntmps49
    go_wp2
    go_ret
    exact ⟨by rw [H.out]; rfl, rfl⟩
set_option maxHeartbeats 1000000 in
theorem l21Colors_any (A : Option Addr) (n c : Nat) (cs : List Int) (w : World) (ha : RI w A n cs) (hn : n ≤ 9223372036854775807) :
    Calls Tryz.prog 88 #[.slice A n c] w fun e w' => e = .returned (.bool (tB (colsOk cs))) ∧ w = w' := by
  have hla := Lib.hid ha.len
  by_cases h0 : n ≤ 64
  · go_enter Tryz.func88, Tryz.ntmps88
    go_wp2
    go_loop [3] (fun i => ∃ k : Nat, k ≤ n ∧ i = .int .i64 k ∧ ∀ j, j < k → 0 ≤ nth cs j ∧ nth cs j ≤ 63) (fun i => n - (intOf i).toNat)
    case atStart => exact ⟨0, Nat.zero_le _, rfl, fun _ h => absurd h (by omega)⟩
    case round =>
      obtain ⟨k, hk, rfl, hto⟩ := hrel
      by_cases hlt : k < n
      · obtain ⟨a, rfl, hca, hia⟩ := ha.get hlt
        cases h1 : inB (nth cs k) 0 63 with
        | true =>
          have H := Lib.hid (show ∀ j, j < k + 1 → 0 ≤ nth cs j ∧ nth cs j ≤ 63 from fun j hj => by
            rcases Nat.lt_succ_iff_lt_or_eq.1 hj with h' | h'
            · exact hto j h'
            · rw [h']; exact inB_true h1)
          clear hto
          go_wp2_with (go_at_call 89; refine (l00In_any _ _ _ _).mono ?_; rintro e w' ⟨rfl, rfl⟩; rw [h1])
          go_round
          case rel => exact ⟨k + 1, by omega, by go_num, H.out⟩
          case measure => simp [intOf]; omega
        | false =>
          have H := Lib.hid (show tB (colsOk cs) = false from tB_no fun h => by
            rw [inB_mk (h.2 k (by rw [hla.out]; exact hlt))] at h1; cases h1)
          clear hto
          go_wp2_with (go_at_call 89; refine (l00In_any _ _ _ _).mono ?_; rintro e w' ⟨rfl, rfl⟩; rw [h1])
          go_ret
          exact ⟨by rw [H.out]; rfl, rfl⟩
      · have H := Lib.hid (show tB (colsOk cs) = true from tB_yes ⟨by rw [hla.out]; exact h0, by rw [hla.out]; rwa [show k = n by omega] at hto⟩)
        clear hto
        go_wp2
        go_ret
        exact ⟨by rw [H.out]; rfl, rfl⟩
  · have H := Lib.hid (show tB (colsOk cs) = false from tB_no fun h => h0 (by have := h.1; rw [hla.out] at this; exact this))
    go_enter Tryz.func88, Tryz.ntmps88
    go_wp2
    go_ret
    exact ⟨by rw [H.out]; rfl, rfl⟩
end Go.Proofs.YtkihflnenifcgaaGreatDoor
/- Texts of lists: the program's side. No condition beyond those stated. -/
namespace Go.Proofs.YtkihflnenifcgaaGreatDoor
open Go.RowKit Go.Shelf

theorem str_info : (Tryz.prog.info? 9).map (fun i => (i.zero, i.size, i.bytes)) = some (some (.string ⟨#[]⟩), 1, 16) := by kernel_rfl
section
variable {ops : Array Oper} {rest : List Oper} {o : Oper} {a : Act} {Q : Exit → Act → World → Prop}
/-- one string more -/
theorem app_str (w : World) (hgd : o.guard = none) (s x : Operand) (ho : o.op = .call { callee := .builtin .append, args := #[s, x], argTypes := #[66, 66] })
    (B : Nat) (A : Option Addr) (n c : Nat) (ss : List ByteArray) (hs : a.eval s = .slice A n c) (hown : OS w B 9 1 A n c (strV ss)) (u : ByteArray) (g : Nat) (hx : a.eval x = .slice (some ⟨g, 0, none⟩) 1 1) (hgx : g = w.heap.size)
    (hbig : n + 1 ≤ 2199023255552) (hB : B ≤ w.heap.size)
    (h : ∀ A' c' w', OS w' B 9 1 A' (n + 1) c' (strV (ss ++ [u])) → w.grownBy w' (blk A) → wpList Tryz.prog ops Q rest (a.put o.dst (.slice A' (n + 1) c')) w') :
    wpList Tryz.prog ops Q (o :: rest) a (w.alloc (.cells #[.string u] 9)) :=
  wpList_app1' w hgd s x 66 ho 9 (.string ⟨#[]⟩) 16 Tryz.underlying66 str_info rfl (by omega) B A n c (strV ss) hs hown (.string u) g hx hgx rfl hbig hB
    fun A' c' w' h1 h2 _ => h A' c' w' (by simpa [strV] using h1) h2
end
theorem nth_take_map (zs : List Int) {k : Nat} (h : k < zs.length) : (zs.take k).map dcS ++ [dcS (nth zs k)] = (zs.take (k + 1)).map dcS := by
  rw [List.take_succ_eq_append_getElem h, List.map_append, ← nth_get h]
  rfl
def farB (x : Int) : Bool := !inB x (-999999999) 999999999
set_option maxHeartbeats 1000000 in
theorem listText1_any (x : Int) (w : World) : Calls Tryz.prog 56 #[.int .i64 x] w fun e w' => e = .returned (.bool (farB x)) ∧ w = w' := by
  go_enter Tryz.func56, Tryz.ntmps56
  go_wp2_with (go_at_call 57; refine (within_any _ _ _ _).mono ?_; rintro e w' ⟨rfl, rfl⟩)
  go_ret
  exact ⟨rfl, rfl⟩
set_option maxRecDepth 100000 in
set_option maxHeartbeats 400000 in
theorem listText_any (A : Option Addr) (n c : Nat) (zs : List Int) (w : World) (ha : RI w A n zs) (hn : n ≤ 64) (hz : ∀ k, k < n → 0 ≤ nth zs k ∧ nth zs k ≤ 63) :
    Calls Tryz.prog 29 #[.slice A n c] w fun e w' => e = .returned (.string (listT zs)) ∧ Below w.heap.size w w' := by
  have hla := ha.len
  have eg : ∀ (args : Array Value) (w : World), (callFunc 56 args).run Tryz.prog w = .ok (.enter 56 args) w := fun _ _ => by kernel_rfl
  have hask : AskIq 56 #[] farB w := fun x _ => listText1_any x w
  have hcf := containsFuncIq _ _ eg farB A n c zs w ha (by omega) hask
  have hany : zs.any farB = false := by
    rw [List.any_eq_false]
    intro x hx
    obtain ⟨k, hk, rfl⟩ := mem_nth hx
    rw [farB, inB_mk (by have := hz k (by omega); omega)]
    simp
  rw [hany] at hcf
  by_cases h0 : n = 0
  · subst h0
    have H := Lib.hid (show listT zs = minus by unfold listT; rw [if_pos (List.length_eq_zero_iff.1 hla)])
    clear hany ha
    go_enter Tryz.func29, Tryz.ntmps29
    go_wp2_with (go_at_call 55; refine hcf.mono ?_; rintro e w1 ⟨rfl, rfl⟩)
    go_ret
    exact ⟨by rw [H.out]; rfl, Below.refl _ _⟩
  · have H := Lib.hid (show listT zs = joinS (zs.map dcS) comma by unfold listT; rw [if_neg (fun e => h0 (by rw [← hla, e]; rfl))])
    have hne : ((n : Int) == 0) = false := by simp; omega
    have hsz : (Lib.join (bts (zs.map dcS)) comma.data.toList).length ≤ 140737488355328 := by
      have := join_size comma.data.toList 2 (bts (zs.map dcS)) (fun x hx => by
        obtain ⟨b, hb, rfl⟩ := List.mem_map.1 hx
        obtain ⟨z, hz2, rfl⟩ := List.mem_map.1 hb
        obtain ⟨k, hk, rfl⟩ := mem_nth hz2
        have := hz k (by omega)
        show ((Lib.decDigits (nth zs k).toNat).toArray).toList.length ≤ 2
        exact dc_len _ (by omega))
      have e1 : (bts (zs.map dcS)).length = n := by simp [bts, hla]
      have e2 : comma.data.toList.length = 1 := rfl
      rw [e1, e2] at this
      omega
    have HSZ := Lib.hid hsz
    have HZ := Lib.hid hz
    have HA := Lib.hid ha
    clear hany h0 hsz hz ha
    go_enter Tryz.func29, Tryz.ntmps29
    go_wp2_with (go_at_call 55; refine hcf.mono ?_; rintro e w1 ⟨rfl, rfl⟩)
    clear hcf
    go_loopw [3, 18] (fun r i wr => ∃ (k : Nat) (WA : Option Addr) (wc : Nat), k ≤ n ∧ i = .int .i64 k ∧ r = .slice WA k wc ∧ OS wr w.heap.size 9 1 WA k wc (strV ((zs.take k).map dcS)) ∧ Below w.heap.size w wr) (fun _ i _ => n - (intOf i).toNat)
    case atStart => exact ⟨0, none, 0, Nat.zero_le _, rfl, rfl, OS.nil_ _ _ _ 1, Below.refl _ _⟩
    case round =>
      obtain ⟨k, WA, wc, hk, rfl, rfl, ho, hb⟩ := hrel
      by_cases hlt : k < n
      · obtain ⟨ad, rfl, hcz, -⟩ := (HA.out.keep hb).get hlt
        have hzk := HZ.out k hlt
        have HST := Lib.hid (nth_take_map zs (k := k) (by omega))
        have HO := Lib.hid ho
        have HB := Lib.hid hb
        have hbs := hb.size
        clear ho hb
        generalize nth zs k = z at *
        have hdc := decimal_any z hzk.1 (by omega)
        go_wp2_with (first | (go_at_call 28; refine (hdc _).mono ?_; rintro e w2 ⟨rfl, rfl⟩) | (at_builtin; refine app_str _ rfl (.tmp 22) (.tmp 25) rfl w.heap.size WA k wc _ rfl HO.out (dcS z) w2.heap.size rfl rfl (by omega) hbs ?_; intro A4 c4 w4 ho4 hg4; have hb4 := below_own HB.out hg4 hbs (fun q hq => (HO.out.lt hq).1)))
        go_roundw
        case rel => exact ⟨k + 1, A4, c4, by omega, by go_num, rfl, HST.out ▸ ho4, hb4⟩
        case measure => simp [intOf]; omega
      · obtain rfl : k = n := by omega
        rw [List.take_of_length_le (by omega)] at ho
        have hj := join_any w.heap.size WA k wc _ comma wr ho (by omega) HSZ.out
        have HB := Lib.hid hb
        clear ho hb
        go_wp2_with (go_at_call 30; refine hj.mono ?_; rintro e w5 ⟨rfl, hb5⟩)
        go_ret
        exact ⟨by rw [H.out]; rfl, HB.out.trans (hb5.mono HB.out.size)⟩
end Go.Proofs.YtkihflnenifcgaaGreatDoor
