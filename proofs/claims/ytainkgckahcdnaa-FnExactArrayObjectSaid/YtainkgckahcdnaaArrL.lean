/- The law on ArrayObject. No condition. -/
import Derived.Test.YtainkgckahcdnaaObjL
import Derived.Test.YtainkgckahcdnaaArr
import Derived.Deep.RegionHeld3
namespace Go.Proofs.Ytainkgckahcdnaa
open Go.RowKit

theorem cells_nil' : cells [] = 0 := rfl

/-- such a struct, its rows in memory of the call's own -/
def RetArray (w : World) (lv co : Int) (zss : List (List Int)) (en : Ending) (w' : World) : Prop :=
  ∃ A n c, en = .returned (.agg #[.int .i64 lv, .int .i64 co, .slice A n c]) ∧ OR w' w.heap.size 51 2 A n c zss ∧ Below w.heap.size w w'

set_option maxHeartbeats 400000 in
theorem szArray_any (lv co l : Int) (A : Option Addr) (n c : Nat) (xs : List (List Int)) (w : World) (ha : RR w A n xs) (hn : n ≤ 9223372036854775807) (h0 : 0 ≤ l) (hl : l ≤ 1048576) :
    Calls Try.prog 17 #[.agg #[.int .i64 lv, .int .i64 co, .slice A n c], .int .i64 l] w fun e w' => e = .returned (.int .i64 (szF l (bulk xs))) ∧ Below w.heap.size w w' := by
  have hb1 := below_alloc w (.cells #[.int .i64 lv, .int .i64 co, .slice A n c] 34)
  have ha' := ha.keep hb1
  clear ha
  by_cases h : (bulk xs : Int) ≤ l
  · have H := Lib.hid (show szF l (bulk xs) = l - bulk xs by simp [szF, h])
    go_enter Try.func17, Try.ntmps17
    go_wp2_with (go_at_call 8; refine (szInt64SS_any _ _ _ _ xs _ ha' hn h0 hl).mono ?_; rintro e w1 ⟨rfl, rfl⟩; rw [H.out])
    go_ret
    exact ⟨by rw [H.out]; rfl, hb1⟩
  · have H := Lib.hid (show szF l (bulk xs) = -1 by simp [szF, h])
    clear h
    go_enter Try.func17, Try.ntmps17
    go_wp2_with (go_at_call 8; refine (szInt64SS_any _ _ _ _ xs _ ha' hn h0 hl).mono ?_; rintro e w1 ⟨rfl, rfl⟩; rw [H.out])
    go_ret
    exact ⟨by rw [H.out]; rfl, hb1⟩
set_option maxHeartbeats 400000 in
theorem toArray_any (lv co : Int) (A : Option Addr) (n c : Nat) (xs : List (List Int)) (w : World) (ha : RR w A n xs) (hn : n ≤ 1099511627776) (hr : lens xs n ≤ 1099511627776) :
    Calls Try.prog 19 #[.agg #[.int .i64 lv, .int .i64 co, .slice A n c]] w (RetArray w lv co xs) := by
  have hb1 := below_alloc w (.cells #[.int .i64 lv, .int .i64 co, .slice A n c] 34)
  go_enter Try.func19, Try.ntmps19
  go_wp2_with fail
  refine (toInt64SS_any A n c xs _ (ha.keep ((hb1.alloc (by simp) _).alloc (by simp; omega) _)) hn hr).mono ?_
  rintro e w1 ⟨A2, n2, c2, rfl, ho, hb⟩
  obtain ⟨hc, hf⟩ := bcell hb
  have hz : w.heap.size + 1 + 1 < w1.heap.size := by have := hb.size; simp at this; omega
  go_wp2
  refine bodyPost_ret (v := .agg #[.int .i64 lv, .int .i64 co, .slice A2 n2 c2]) (by simp [results, Try.results19, go_sem, hc]) rfl ⟨A2, n2, c2, rfl, ?_, ?_⟩
  · have ho' : OR w1 (w.heap.size + 1 + 1 + 1) 51 2 A2 n2 c2 xs := by simpa using ho
    refine OR.more (B := w.heap.size + 1 + 1 + 1) ?_ (by omega)
    repeat (refine OR.setLow ?_ (by simp) _)
    exact ho'
  · repeat (refine Below.setCell ?_ (by simp; try omega) _)
    exact ((hb1.alloc (by simp) _).alloc (by simp; omega) _).trans (hb.mono (by simp; omega))
set_option maxHeartbeats 400000 in
theorem eqArray_same (lv co : Int) (A B : Option Addr) (n m c d : Nat) (xs : List (List Int)) (w : World) (ha : RR w A n xs) (hb : RR w B m xs) (hn : n ≤ 9223372036854775807) (hm : m ≤ 9223372036854775807) :
    Calls Try.prog 21 #[.agg #[.int .i64 lv, .int .i64 co, .slice A n c], .agg #[.int .i64 lv, .int .i64 co, .slice B m d]] w fun e w' => e = .returned (.bool true) ∧ Below w.heap.size w w' := by
  have hb2 := below_then (below_alloc w (.cells #[.int .i64 lv, .int .i64 co, .slice A n c] 37)) (below_alloc (w.alloc (.cells #[.int .i64 lv, .int .i64 co, .slice A n c] 37)) (.cells #[.int .i64 lv, .int .i64 co, .slice B m d] 37))
  have ha' := ha.keep hb2
  have hb' := hb.keep hb2
  clear ha hb
  go_enter Try.func21, Try.ntmps21
  go_wp2_with (go_at_call 13; refine (eqInt64SS_any _ _ _ _ _ _ xs xs _ ha' hb' hn hm).mono ?_; rintro e w1 ⟨rfl, hd1⟩; rw [show decide (xs = xs) = true from by simp])
  go_ret
  exact ⟨rfl, hb2.trans (hd1.below.mono hb2.size)⟩
set_option maxHeartbeats 400000 in
theorem markArray_any (lv co : Int) (B D : Nat) (A : Option Addr) (n c k : Nat) (zss : List (List Int)) (w : World) (ha : ORd w B D 51 2 A n c zss) (hc : n ≤ 1099511627776) (hn : k + cells zss ≤ 4611686018427387904) :
    Calls Try.prog 22 #[.agg #[.int .i64 lv, .int .i64 co, .slice A n c], .int .i64 k] w fun en w' => en = .returned (.int .i64 ((k + cells zss : Nat) : Int)) ∧ ORd w' B D 51 2 A n c (marksR k zss) ∧ Mid w w' B D := by
  have hb := below_alloc w (.cells #[.int .i64 lv, .int .i64 co, .slice A n c] 37)
  go_enter Try.func22, Try.ntmps22
  go_wp2_with fail
  refine (markInt64SS_any B D _ _ A n c k zss _ (ha.below hb) hc hn).mono ?_
  rintro e w1 ⟨rfl, ho, hm⟩
  go_wp2
  go_ret
  exact ⟨rfl, ho, (Mid.of_below hb (Nat.le_refl _) B D).trans hm⟩

theorem keep2 {W w' : World} {p q : Addr} {u x : Value} (hb : Below W.heap.size W w') (h1 : W.cell? p = some u) (h2 : W.cell? q = some x) : Below W.heap.size W w' ∧ w'.cell? p = some u ∧ w'.cell? q = some x := ⟨hb, below_cell hb h1, below_cell hb h2⟩
set_option maxHeartbeats 2000000 in
theorem l30Array_any (g : Nat) (K s : Int) (A : Option Addr) (n c : Nat) (rs : List (List Int)) (w : World) (hB : Blk w g 25 #[.int .i64 K, .int .i64 s, .slice A n c]) (ha : RR w A n rs) (h0 : 0 < n) (hn : n ≤ c) (hc : c ≤ 9223372036854775807) :
    Calls Try.prog 85 #[.pointer (some ⟨g, 0, none⟩)] w fun e w' => e = .returned (.agg #[.int .i64 s, .int .i64 (row rs 0).length, .slice A n c]) ∧ Below w.heap.size w w' := by
  obtain ⟨k1, k2, k3⟩ := hB.cells3
  obtain ⟨a, A1, n1, c1, rfl, hca, hn1, hc1, ha1⟩ := ha.get h0
  have hl1 := Lib.hid ha1.len
  go_enter Try.func85, Try.ntmps85
  go_wp2
  go_region_held3 (fun w' => Below w.heap.size w w' ∧ w'.cell? ⟨g, 1, none⟩ = some (.int .i64 s) ∧ w'.cell? ⟨g, 2, none⟩ = some (.slice (some a) n c))
    (first | exact keep2 ((below_alloc w _).trans (below_drewn' _ _ 1)) k2 k3 | exact keep2 (((below_alloc w _).alloc (by simp) _).trans (below_drewn' _ _ 1)) k2 k3)
    (fail)
  generalize hw1 : World.drew _ = w1
  have hb1 : Below w.heap.size w w1 := by rw [← hw1]; exact ((below_alloc w _).alloc (by simp) _).trans (below_drewn' _ _ 1)
  have Y1 : Blk w1 w.heap.size 37 #[.int .i64 0, .int .i64 0, .slice none 0 0] := by rw [← hw1]; exact (Blk.new w _ _).alloc _
  have X1 : Blk w1 (w.heap.size + 1) 37 #[.int .i64 s, .int .i64 0, .slice (some a) n c] := by
    rw [← hw1]
    have := Blk.new (w.alloc (.cells #[.int .i64 0, .int .i64 0, .slice none 0 0] 37)) 37 #[.int .i64 s, .int .i64 0, .slice (some a) n c]
    simp at this
    exact this
  clear hw1 k1 k2 k3
  have hca1 := below_cell hb1 hca
  have hca2 : w1.cell? a = some (.slice A1 n1 c1) := by simpa [Addr.add] using hca1
  obtain ⟨k1, k2, k3⟩ := (hB.after hb1).cells3
  obtain ⟨x0, x1, x2⟩ := X1.cells3
  obtain ⟨y0, y1, y2⟩ := Y1.cells3
  have f1 := X1.frozen 1
  have g0 := Y1.frozen 0
  have g1 := Y1.frozen 1
  have g2 := Y1.frozen 2
  have X2 : Blk (w1.setCell ⟨w.heap.size + 1, 1, none⟩ (.int .i64 n1)) (w.heap.size + 1) 37 #[.int .i64 s, .int .i64 n1, .slice (some a) n c] := X1.set_ 1 _
  obtain ⟨v0, v1, v2⟩ := X2.cells3
  go_wp2
  refine bodyPost_ret (v := .agg #[.int .i64 s, .int .i64 n1, .slice (some a) n c]) (by simp [results, Try.results85, go_sem, y0, y1, y2]) rfl ⟨by rw [hl1.out], ?_⟩
  repeat (refine Below.setCell ?_ (by simp <;> omega) _)
  exact hb1
set_option maxHeartbeats 2000000 in
theorem judgeArr (s : Int) (zss : List (List Int)) (w : World) (h0 : 0 < zss.length) (hA : Array' s (row zss 0).length zss) : Judge 4 s zss true w := by
  intro g A n c W _ hB ha hn hc
  obtain ⟨k1, k2, k3⟩ := hB.cells3
  have hn0 : 0 < n := by rw [← ha.len]; exact h0
  go_enter Try.func59, Try.ntmps59
  go_wp2_with fail
  refine (l30Array_any g 4 s A n c zss _ hB ha hn0 hn hc).mono ?_
  rintro e w1 ⟨rfl, hb1⟩
  have X := Blk.new w1 37 #[.int .i64 s, .int .i64 (row zss 0).length, .slice A n c]
  have hb2 := below_then hb1 (below_alloc w1 (.cells #[.int .i64 s, .int .i64 (row zss 0).length, .slice A n c] 37))
  have hcall := l16Ok_any w1.heap.size s (row zss 0).length A n c zss _ X (ha.keep hb2) (by omega)
  rw [tB_yes hA] at hcall
  clear k1 k2 k3
  obtain ⟨k1, k2, k3⟩ := (hB.after hb2).cells3
  go_wp2_with fail
  refine hcall.mono ?_
  rintro e w2 ⟨rfl, hd2⟩
  go_wp2
  go_ret
  exact ⟨rfl, hb2.trans (hd2.below.mono hb2.size)⟩

set_option maxRecDepth 100000 in
set_option maxHeartbeats 1000000 in
theorem spec_ArrayObject_no (lv co : Int) (A : Option Addr) (n c : Nat) (zss : List (List Int)) (w : World) (ha : RR w A n zss) (hn : n ≤ 1099511627776) (hr : cells zss ≤ 1099511627776) (_ : n ≤ c) (_ : c ≤ 9223372036854775807) (hA : ¬ Array' lv co zss) :
    Calls Try.prog 18 #[.agg #[.int .i64 lv, .int .i64 co, .slice A n c]] w (RetOC w 0 0 [] 1) := by
  have hb0 := below_alloc w (.cells #[.int .i64 lv, .int .i64 co, .slice A n c] 37)
  have hb1 := below_then hb0 (below_alloc (w.alloc (.cells #[.int .i64 lv, .int .i64 co, .slice A n c] 37)) (.cells #[.int .i64 0, .int .i64 0, .slice none 0 0] 25))
  have R : Blk ((w.alloc (.cells #[.int .i64 lv, .int .i64 co, .slice A n c] 37)).alloc (.cells #[.int .i64 0, .int .i64 0, .slice none 0 0] 25)) (w.heap.size + 1) 25 #[.int .i64 0, .int .i64 0, .slice none 0 0] := by
    have := Blk.new (w.alloc (.cells #[.int .i64 lv, .int .i64 co, .slice A n c] 37)) 25 #[.int .i64 0, .int .i64 0, .slice none 0 0]
    simpa using this
  have X := (Blk.new w 37 #[.int .i64 lv, .int .i64 co, .slice A n c]).alloc (.cells #[.int .i64 0, .int .i64 0, .slice none 0 0] 25)
  have zs : ((w.alloc (.cells #[.int .i64 lv, .int .i64 co, .slice A n c] 37)).alloc (.cells #[.int .i64 0, .int .i64 0, .slice none 0 0] 25)).heap.size = w.heap.size + 1 + 1 := by simp
  have hv := l16Ok_any w.heap.size lv co A n c zss _ X (ha.keep hb1) (by omega)
  rw [tB_no hA] at hv
  · go_enter Try.func18, Try.ntmps18
    go_wp2_with fail
    refine hv.mono ?_
    rintro e w1 ⟨rfl, hd⟩
    have hb := hd.below
    have R1 := R.after hb
    have X1 := X.after hb
    have hw := below_then hb1 hb
    have z := hb.size
    rw [zs] at z
    clear hb hb1 hv R X zs hb0
    obtain ⟨x0, x1, x2⟩ := X1.cells3
    have R2 := R1
    clear R1 ha
    obtain ⟨z0, z1, z2⟩ := R2.cells3
    have f0 := R2.frozen 0
    have f1 := R2.frozen 1
    have f2 := R2.frozen 2
    go_wp2
    refine bodyPost_ret (v := .tuple #[.agg #[.int .i64 0, .int .i64 0, .slice none 0 0], .int .i64 1]) (by simp [results, Try.results18, go_sem, z0, z1, z2]) rfl ⟨none, 0, 0, rfl, OR.nil_ _ _ (by decide), ?_⟩
    repeat (refine Below.setCell ?_ (by simp <;> omega) _)
    exact hw
set_option maxRecDepth 100000 in
set_option maxHeartbeats 1000000 in
theorem spec_ArrayObject_empty (lv co : Int) (A : Option Addr) (n c : Nat) (zss : List (List Int)) (w : World) (ha : RR w A n zss) (hn : n ≤ 1099511627776) (hr : cells zss ≤ 1099511627776) (_ : n ≤ c) (_ : c ≤ 9223372036854775807) (hA : Array' lv co zss) (h0 : n = 0) :
    Calls Try.prog 18 #[.agg #[.int .i64 lv, .int .i64 co, .slice A n c]] w (RetOC w 0 0 [] 6) := by
  subst h0
  have hb0 := below_alloc w (.cells #[.int .i64 lv, .int .i64 co, .slice A 0 c] 37)
  have hb1 := below_then hb0 (below_alloc (w.alloc (.cells #[.int .i64 lv, .int .i64 co, .slice A 0 c] 37)) (.cells #[.int .i64 0, .int .i64 0, .slice none 0 0] 25))
  have R : Blk ((w.alloc (.cells #[.int .i64 lv, .int .i64 co, .slice A 0 c] 37)).alloc (.cells #[.int .i64 0, .int .i64 0, .slice none 0 0] 25)) (w.heap.size + 1) 25 #[.int .i64 0, .int .i64 0, .slice none 0 0] := by
    have := Blk.new (w.alloc (.cells #[.int .i64 lv, .int .i64 co, .slice A 0 c] 37)) 25 #[.int .i64 0, .int .i64 0, .slice none 0 0]
    simpa using this
  have X := (Blk.new w 37 #[.int .i64 lv, .int .i64 co, .slice A 0 c]).alloc (.cells #[.int .i64 0, .int .i64 0, .slice none 0 0] 25)
  have zs : ((w.alloc (.cells #[.int .i64 lv, .int .i64 co, .slice A 0 c] 37)).alloc (.cells #[.int .i64 0, .int .i64 0, .slice none 0 0] 25)).heap.size = w.heap.size + 1 + 1 := by simp
  have hv := l16Ok_any w.heap.size lv co A 0 c zss _ X (ha.keep hb1) (by omega)
  rw [tB_yes hA] at hv
  · go_enter Try.func18, Try.ntmps18
    go_wp2_with fail
    refine hv.mono ?_
    rintro e w1 ⟨rfl, hd⟩
    have hb := hd.below
    have R1 := R.after hb
    have X1 := X.after hb
    have hw := below_then hb1 hb
    have z := hb.size
    rw [zs] at z
    clear hb hb1 hv R X zs hb0
    obtain ⟨x0, x1, x2⟩ := X1.cells3
    have R2 := R1
    clear R1 ha
    obtain ⟨z0, z1, z2⟩ := R2.cells3
    have f0 := R2.frozen 0
    have f1 := R2.frozen 1
    have f2 := R2.frozen 2
    go_wp2
    refine bodyPost_ret (v := .tuple #[.agg #[.int .i64 0, .int .i64 0, .slice none 0 0], .int .i64 6]) (by simp [results, Try.results18, go_sem, z0, z1, z2]) rfl ⟨none, 0, 0, rfl, OR.nil_ _ _ (by decide), ?_⟩
    repeat (refine Below.setCell ?_ (by simp <;> omega) _)
    exact hw
set_option maxRecDepth 100000 in
set_option maxHeartbeats 1000000 in
theorem spec_ArrayObject_yes (lv co : Int) (A : Option Addr) (n c : Nat) (zss : List (List Int)) (w : World) (ha : RR w A n zss) (hn : n ≤ 1099511627776) (hr : cells zss ≤ 1099511627776) (_ : n ≤ c) (_ : c ≤ 9223372036854775807) (hA : Array' lv co zss) (h0 : 0 < n) :
    Calls Try.prog 18 #[.agg #[.int .i64 lv, .int .i64 co, .slice A n c]] w (RetOC w 4 lv zss 0) := by
  have hb0 := below_alloc w (.cells #[.int .i64 lv, .int .i64 co, .slice A n c] 37)
  have hb1 := below_then hb0 (below_alloc (w.alloc (.cells #[.int .i64 lv, .int .i64 co, .slice A n c] 37)) (.cells #[.int .i64 0, .int .i64 0, .slice none 0 0] 25))
  have R : Blk ((w.alloc (.cells #[.int .i64 lv, .int .i64 co, .slice A n c] 37)).alloc (.cells #[.int .i64 0, .int .i64 0, .slice none 0 0] 25)) (w.heap.size + 1) 25 #[.int .i64 0, .int .i64 0, .slice none 0 0] := by
    have := Blk.new (w.alloc (.cells #[.int .i64 lv, .int .i64 co, .slice A n c] 37)) 25 #[.int .i64 0, .int .i64 0, .slice none 0 0]
    simpa using this
  have X := (Blk.new w 37 #[.int .i64 lv, .int .i64 co, .slice A n c]).alloc (.cells #[.int .i64 0, .int .i64 0, .slice none 0 0] 25)
  have zs : ((w.alloc (.cells #[.int .i64 lv, .int .i64 co, .slice A n c] 37)).alloc (.cells #[.int .i64 0, .int .i64 0, .slice none 0 0] 25)).heap.size = w.heap.size + 1 + 1 := by simp
  have hv := l16Ok_any w.heap.size lv co A n c zss _ X (ha.keep hb1) (by omega)
  rw [tB_yes hA] at hv
  have hla := ha.len
  have hrow := (hA.row 0 (by rw [hla]; exact h0)).1
  have hj := judgeArr lv zss w (by rw [hla]; exact h0) (by rw [hrow]; exact hA)
  · go_enter Try.func18, Try.ntmps18
    go_wp2_with fail
    refine hv.mono ?_
    rintro e w1 ⟨rfl, hd⟩
    have hb := hd.below
    have R1 := R.after hb
    have X1 := X.after hb
    have hw := below_then hb1 hb
    have z := hb.size
    rw [zs] at z
    clear hb hb1 hv R X zs hb0
    obtain ⟨x0, x1, x2⟩ := X1.cells3
    have e0 : ((n : Int) == 0) = false := by simp; omega
    go_wp2_with fail
    refine (l30Make_yes 4 lv A n c zss _ (ha.keep hw) hn hr (fun g A n c W hb => hj g A n c W (below_then hw hb))).mono ?_
    rintro e w2 ⟨A2, n2, c2, rfl, ho, hb⟩
    have R2 := R1.after hb
    have ho' : OR w2 (w.heap.size + 1 + 1) 51 2 A2 n2 c2 zss := ho.more z
    have hw2 := below_then hw hb
    clear ho hb ha hw R1 X1 x0 x1 x2
    obtain ⟨z0, z1, z2⟩ := R2.cells3
    have f0 := R2.frozen 0
    have f1 := R2.frozen 1
    have f2 := R2.frozen 2
    go_wp2
    refine bodyPost_ret (v := .tuple #[.agg #[.int .i64 4, .int .i64 lv, .slice A2 n2 c2], .int .i64 0]) (by simp [results, Try.results18, go_sem, z0, z1, z2]) rfl ⟨A2, n2, c2, rfl, ?_, ?_⟩
    · refine OR.more (B := w.heap.size + 1 + 1) ?_ (by omega)
      repeat (refine OR.setLow ?_ (by simp <;> omega) _)
      exact ho'
    · repeat (refine Below.setCell ?_ (by simp <;> omega) _)
      exact hw2

set_option maxRecDepth 100000 in
set_option maxHeartbeats 1000000 in
theorem impl_ArrayObject_no (lv co : Int) (A : Option Addr) (n c : Nat) (zss : List (List Int)) (w : World) (ha : RR w A n zss) (hn : n ≤ 1099511627776) (hr : cells zss ≤ 1099511627776) (_ : n ≤ c) (_ : c ≤ 9223372036854775807) (hA : ¬ Array' lv co zss) :
    Calls Try.prog 20 #[.agg #[.int .i64 lv, .int .i64 co, .slice A n c]] w (RetOC w 0 0 [] 1) := by
  have hb0 := below_alloc w (.cells #[.int .i64 lv, .int .i64 co, .slice A n c] 37)
  have hb1 := below_then hb0 (below_alloc (w.alloc (.cells #[.int .i64 lv, .int .i64 co, .slice A n c] 37)) (.cells #[.int .i64 0, .int .i64 0, .slice none 0 0] 25))
  have R : Blk ((w.alloc (.cells #[.int .i64 lv, .int .i64 co, .slice A n c] 37)).alloc (.cells #[.int .i64 0, .int .i64 0, .slice none 0 0] 25)) (w.heap.size + 1) 25 #[.int .i64 0, .int .i64 0, .slice none 0 0] := by
    have := Blk.new (w.alloc (.cells #[.int .i64 lv, .int .i64 co, .slice A n c] 37)) 25 #[.int .i64 0, .int .i64 0, .slice none 0 0]
    simpa using this
  have X := (Blk.new w 37 #[.int .i64 lv, .int .i64 co, .slice A n c]).alloc (.cells #[.int .i64 0, .int .i64 0, .slice none 0 0] 25)
  have zs : ((w.alloc (.cells #[.int .i64 lv, .int .i64 co, .slice A n c] 37)).alloc (.cells #[.int .i64 0, .int .i64 0, .slice none 0 0] 25)).heap.size = w.heap.size + 1 + 1 := by simp
  have hv := validArray_any lv co A n c zss _ (ha.keep hb1) (by omega)
  rw [tB_no hA] at hv
  · go_enter Try.func20, Try.ntmps20
    go_wp2_with fail
    refine hv.mono ?_
    rintro e w1 ⟨rfl, hb⟩
    have R1 := R.after hb
    have X1 := X.after hb
    have hw := below_then hb1 hb
    have z := hb.size
    rw [zs] at z
    clear hb hb1 hv R X zs hb0
    obtain ⟨x0, x1, x2⟩ := X1.cells3
    have R2 := R1
    clear R1 ha
    obtain ⟨z0, z1, z2⟩ := R2.cells3
    have f0 := R2.frozen 0
    have f1 := R2.frozen 1
    have f2 := R2.frozen 2
    go_wp2
    refine bodyPost_ret (v := .tuple #[.agg #[.int .i64 0, .int .i64 0, .slice none 0 0], .int .i64 1]) (by simp [results, Try.results20, go_sem, z0, z1, z2]) rfl ⟨none, 0, 0, rfl, OR.nil_ _ _ (by decide), ?_⟩
    repeat (refine Below.setCell ?_ (by simp <;> omega) _)
    exact hw
set_option maxRecDepth 100000 in
set_option maxHeartbeats 1000000 in
theorem impl_ArrayObject_empty (lv co : Int) (A : Option Addr) (n c : Nat) (zss : List (List Int)) (w : World) (ha : RR w A n zss) (hn : n ≤ 1099511627776) (hr : cells zss ≤ 1099511627776) (_ : n ≤ c) (_ : c ≤ 9223372036854775807) (hA : Array' lv co zss) (h0 : n = 0) :
    Calls Try.prog 20 #[.agg #[.int .i64 lv, .int .i64 co, .slice A n c]] w (RetOC w 0 0 [] 6) := by
  subst h0
  have hb0 := below_alloc w (.cells #[.int .i64 lv, .int .i64 co, .slice A 0 c] 37)
  have hb1 := below_then hb0 (below_alloc (w.alloc (.cells #[.int .i64 lv, .int .i64 co, .slice A 0 c] 37)) (.cells #[.int .i64 0, .int .i64 0, .slice none 0 0] 25))
  have R : Blk ((w.alloc (.cells #[.int .i64 lv, .int .i64 co, .slice A 0 c] 37)).alloc (.cells #[.int .i64 0, .int .i64 0, .slice none 0 0] 25)) (w.heap.size + 1) 25 #[.int .i64 0, .int .i64 0, .slice none 0 0] := by
    have := Blk.new (w.alloc (.cells #[.int .i64 lv, .int .i64 co, .slice A 0 c] 37)) 25 #[.int .i64 0, .int .i64 0, .slice none 0 0]
    simpa using this
  have X := (Blk.new w 37 #[.int .i64 lv, .int .i64 co, .slice A 0 c]).alloc (.cells #[.int .i64 0, .int .i64 0, .slice none 0 0] 25)
  have zs : ((w.alloc (.cells #[.int .i64 lv, .int .i64 co, .slice A 0 c] 37)).alloc (.cells #[.int .i64 0, .int .i64 0, .slice none 0 0] 25)).heap.size = w.heap.size + 1 + 1 := by simp
  have hv := validArray_any lv co A 0 c zss _ (ha.keep hb1) (by omega)
  rw [tB_yes hA] at hv
  · go_enter Try.func20, Try.ntmps20
    go_wp2_with fail
    refine hv.mono ?_
    rintro e w1 ⟨rfl, hb⟩
    have R1 := R.after hb
    have X1 := X.after hb
    have hw := below_then hb1 hb
    have z := hb.size
    rw [zs] at z
    clear hb hb1 hv R X zs hb0
    obtain ⟨x0, x1, x2⟩ := X1.cells3
    have R2 := R1
    clear R1 ha
    obtain ⟨z0, z1, z2⟩ := R2.cells3
    have f0 := R2.frozen 0
    have f1 := R2.frozen 1
    have f2 := R2.frozen 2
    go_wp2
    refine bodyPost_ret (v := .tuple #[.agg #[.int .i64 0, .int .i64 0, .slice none 0 0], .int .i64 6]) (by simp [results, Try.results20, go_sem, z0, z1, z2]) rfl ⟨none, 0, 0, rfl, OR.nil_ _ _ (by decide), ?_⟩
    repeat (refine Below.setCell ?_ (by simp <;> omega) _)
    exact hw
set_option maxRecDepth 100000 in
set_option maxHeartbeats 1000000 in
theorem impl_ArrayObject_yes (lv co : Int) (A : Option Addr) (n c : Nat) (zss : List (List Int)) (w : World) (ha : RR w A n zss) (hn : n ≤ 1099511627776) (hr : cells zss ≤ 1099511627776) (_ : n ≤ c) (_ : c ≤ 9223372036854775807) (hA : Array' lv co zss) (h0 : 0 < n) :
    Calls Try.prog 20 #[.agg #[.int .i64 lv, .int .i64 co, .slice A n c]] w (RetOC w 4 lv zss 0) := by
  have hb0 := below_alloc w (.cells #[.int .i64 lv, .int .i64 co, .slice A n c] 37)
  have hb1 := below_then hb0 (below_alloc (w.alloc (.cells #[.int .i64 lv, .int .i64 co, .slice A n c] 37)) (.cells #[.int .i64 0, .int .i64 0, .slice none 0 0] 25))
  have R : Blk ((w.alloc (.cells #[.int .i64 lv, .int .i64 co, .slice A n c] 37)).alloc (.cells #[.int .i64 0, .int .i64 0, .slice none 0 0] 25)) (w.heap.size + 1) 25 #[.int .i64 0, .int .i64 0, .slice none 0 0] := by
    have := Blk.new (w.alloc (.cells #[.int .i64 lv, .int .i64 co, .slice A n c] 37)) 25 #[.int .i64 0, .int .i64 0, .slice none 0 0]
    simpa using this
  have X := (Blk.new w 37 #[.int .i64 lv, .int .i64 co, .slice A n c]).alloc (.cells #[.int .i64 0, .int .i64 0, .slice none 0 0] 25)
  have zs : ((w.alloc (.cells #[.int .i64 lv, .int .i64 co, .slice A n c] 37)).alloc (.cells #[.int .i64 0, .int .i64 0, .slice none 0 0] 25)).heap.size = w.heap.size + 1 + 1 := by simp
  have hv := validArray_any lv co A n c zss _ (ha.keep hb1) (by omega)
  rw [tB_yes hA] at hv
  have hla := ha.len
  · go_enter Try.func20, Try.ntmps20
    go_wp2_with fail
    refine hv.mono ?_
    rintro e w1 ⟨rfl, hb⟩
    have R1 := R.after hb
    have X1 := X.after hb
    have hw := below_then hb1 hb
    have z := hb.size
    rw [zs] at z
    clear hb hb1 hv R X zs hb0
    obtain ⟨x0, x1, x2⟩ := X1.cells3
    have e0 : ((n : Int) == 0) = false := by simp; omega
    go_wp2_with fail
    refine (copyObject_any 4 lv A n c zss _ (ha.keep hw) hn hr).mono ?_
    rintro e w2 ⟨A2, n2, c2, rfl, ho, hb⟩
    have R2 := R1.after hb
    have ho' : OR w2 (w.heap.size + 1 + 1) 51 2 A2 n2 c2 zss := ho.more z
    have hw2 := below_then hw hb
    clear ho hb ha hw R1 X1 x0 x1 x2
    obtain ⟨z0, z1, z2⟩ := R2.cells3
    have f0 := R2.frozen 0
    have f1 := R2.frozen 1
    have f2 := R2.frozen 2
    go_wp2
    refine bodyPost_ret (v := .tuple #[.agg #[.int .i64 4, .int .i64 lv, .slice A2 n2 c2], .int .i64 0]) (by simp [results, Try.results20, go_sem, z0, z1, z2]) rfl ⟨A2, n2, c2, rfl, ?_, ?_⟩
    · refine OR.more (B := w.heap.size + 1 + 1) ?_ (by omega)
      repeat (refine OR.setLow ?_ (by simp <;> omega) _)
      exact ho'
    · repeat (refine Below.setCell ?_ (by simp <;> omega) _)
      exact hw2

/-- the argument's variable and the copy's, behind the copy's rows -/
structure AStArray (w : World) (g1 g6 : Nat) (lv co : Int) (A A3 : Option Addr) (n c n3 c3 : Nat) (zss : List (List Int)) (w' : World) : Prop where
  p1 : Blk w' g1 34 #[.int .i64 lv, .int .i64 co, .slice A n c]
  p6 : Blk w' g6 37 #[.int .i64 lv, .int .i64 co, .slice A3 n3 c3]
  r3 : RR w' A3 n3 zss
theorem AStArray.step {w w' w'' : World} {g1 g6 : Nat} {lv co : Int} {A A3 : Option Addr} {n c n3 c3 : Nat} {zss : List (List Int)} (h : AStArray w g1 g6 lv co A A3 n c n3 c3 zss w') (hb : Below w'.heap.size w' w'') : AStArray w g1 g6 lv co A A3 n c n3 c3 zss w'' :=
  ⟨h.p1.after hb, h.p6.after hb, h.r3.keep hb⟩
theorem AStArray.full {w w' : World} {g1 g6 : Nat} {lv co : Int} {A A3 : Option Addr} {n c n3 c3 : Nat} {zss : List (List Int)} (h : AStArray w g1 g6 lv co A A3 n c n3 c3 zss w') (hb : Below w.heap.size w w') :
    (AStArray w g1 g6 lv co A A3 n c n3 c3 zss w' ∧ Below w.heap.size w w') ∧ w'.cell? ⟨g1, 0, none⟩ = some (.int .i64 lv) ∧ w'.cell? ⟨g1, 1, none⟩ = some (.int .i64 co) ∧ w'.cell? ⟨g1, 2, none⟩ = some (.slice A n c) ∧ w'.cell? ⟨g6, 0, none⟩ = some (.int .i64 lv) ∧ w'.cell? ⟨g6, 1, none⟩ = some (.int .i64 co) ∧ w'.cell? ⟨g6, 2, none⟩ = some (.slice A3 n3 c3) :=
  ⟨⟨h, hb⟩, h.p1.cells3.1, h.p1.cells3.2.1, h.p1.cells3.2.2, h.p6.cells3.1, h.p6.cells3.2.1, h.p6.cells3.2.2⟩
set_option maxRecDepth 100000 in
set_option maxHeartbeats 4000000 in
theorem law_ArrayObject_ok (lv co : Int) (A : Option Addr) (n c : Nat) (zss : List (List Int)) (w : World) (ha : RR w A n zss) (hn : n ≤ c) (hc : c ≤ 9223372036854775807) (hs : (bulk zss : Int) ≤ 1048576)
    (K S C : Int) (Z : List (List Int)) (hz : Z.length ≤ 1048576 ∧ cells Z ≤ 1048576)
    (hspec : ∀ (A : Option Addr) (n c : Nat) (w : World), RR w A n zss → n ≤ 1099511627776 → n ≤ c → c ≤ 9223372036854775807 → Calls Try.prog 18 #[.agg #[.int .i64 lv, .int .i64 co, .slice A n c]] w (RetOC w K S Z C))
    (himpl : ∀ (A : Option Addr) (n c : Nat) (w : World), RR w A n zss → n ≤ 1099511627776 → n ≤ c → c ≤ 9223372036854775807 → Calls Try.prog 20 #[.agg #[.int .i64 lv, .int .i64 co, .slice A n c]] w (RetOC w K S Z C)) :
    Calls Try.prog 4 #[.agg #[.int .i64 lv, .int .i64 co, .slice A n c]] w fun e w' => e = .returned (.bool true) ∧ Below w.heap.size w w' := by
  have hla := Lib.hid ha.len
  have hbc := bulk_cells zss
  obtain ⟨bz1, bz2⟩ : n ≤ 1048576 ∧ cells zss ≤ 1048576 := by have := hla.out; omega
  have hlens : lens zss n ≤ 1099511627776 := by have := bulk_eq ha; omega
  have E1 := Lib.hid (show szF 1048576 (bulk zss) = 1048576 - bulk zss by simp [szF, hs])
  obtain ⟨hz1, hz2⟩ := hz
  have hbp : (0 : Int) ≤ 1048576 - bulk zss := by omega
  clear hbc
  generalize hbk : (1048576 - (bulk zss : Int)) = bk at *
  have HB := Lib.hid hbk; clear hbk
  have p1 := Blk.new w 34 #[.int .i64 lv, .int .i64 co, .slice A n c]
  have b1 := below_alloc w (.cells #[.int .i64 lv, .int .i64 co, .slice A n c] 34)
  go_enter Try.func4, Try.ntmps4
  go_wp2_with fail
  refine (szArray_any lv co 1048576 A n c zss _ (ha.keep b1) (by omega) (by omega) (by omega)).mono ?_
  rintro e w0 ⟨rfl, hb0⟩
  rw [E1.out]
  have q1 := p1.after hb0
  have b0 := below_then b1 hb0
  clear p1 b1 hb0
  obtain ⟨u0, u1, u2⟩ := q1.cells3
  go_wp2_with fail
  refine (toArray_any lv co A n c zss _ (ha.keep b0) (by omega) hlens).mono ?_
  rintro e w1 ⟨A1, n1, c1, rfl, ho1, hb1⟩
  have k1 : n1 ≤ 1048576 := by have := ho1.len; have := hla.out; omega
  have q2 := q1.after hb1
  have b1 := below_then b0 hb1
  clear q1 b0 hb1 u0 u1 u2
  go_wp2_with fail
  refine (hspec A1 n1 c1 _ ho1.reads (by omega) ho1.os_cap.1 ho1.os_cap.2).mono ?_
  rintro e w2 ⟨A2, n2, c2, rfl, ho2, hb2⟩
  have bw2 := below_then b1 hb2
  have r2 := ho2.reads
  have k2 : n2 ≤ 1048576 := by have := ho2.len; omega
  have x4 := Blk.new w2 25 #[.int .i64 K, .int .i64 S, .slice A2 n2 c2]
  have b2 := below_alloc w2 (.cells #[.int .i64 K, .int .i64 S, .slice A2 n2 c2] 25)
  have q3 := (q2.after hb2).after b2
  clear ho1 q2 b1 ho2 hb2
  obtain ⟨u0, u1, u2⟩ := q3.cells3
  go_wp2_with fail
  refine (toArray_any lv co A n c zss _ (ha.keep (below_then bw2 b2)) (by omega) hlens).mono ?_
  rintro e w3 ⟨A3, n3, c3, rfl, ho3, hb3⟩
  have k3 : n3 ≤ 1048576 := by have := ho3.len; have := hla.out; omega
  have k3' := ho3.os_cap
  have od3 := ho3.bound
  have e3 : (w2.alloc (.cells #[.int .i64 K, .int .i64 S, .slice A2 n2 c2] 25)).heap.size = w2.heap.size + 1 := by simp
  rw [e3] at od3
  have b3 := below_then b2 hb3
  have x4' := x4.after hb3
  have z3 := hb3.size
  rw [e3] at z3
  have b6 := below_alloc w3 (.cells #[.int .i64 lv, .int .i64 co, .slice A3 n3 c3] 37)
  have z6 : (w3.alloc (.cells #[.int .i64 lv, .int .i64 co, .slice A3 n3 c3] 37)).heap.size = w3.heap.size + 1 := by simp
  have p6 := Blk.new w3 37 #[.int .i64 lv, .int .i64 co, .slice A3 n3 c3]
  have q4 := (q3.after hb3).after b6
  have od3' := od3.below b6
  have b3' := below_then b3 b6
  have x4 := x4'.after b6
  have hg1 := q3.lt
  rw [e3] at hg1
  clear ho3 hb3 x4' b2 b3 e3 q3 od3 u0 u1 u2
  obtain ⟨u0, u1, u2⟩ := p6.cells3
  go_wp2_with fail
  refine (himpl A3 n3 c3 _ od3'.reads (by omega) k3'.1 k3'.2).mono ?_
  rintro e w4 ⟨A4, n4, c4, rfl, ho4, hb4⟩
  have k4 : n4 ≤ 1048576 := by have := ho4.len; omega
  have od4 := ho4.bound
  rw [z6] at od4
  have b4 := below_then b3' hb4
  have b7 := below_alloc w4 (.cells #[.int .i64 K, .int .i64 S, .slice A4 n4 c4] 25)
  have z4 := hb4.size
  rw [z6] at z4
  have L0 : LSt w w2 (w4.alloc (.cells #[.int .i64 K, .int .i64 S, .slice A4 n4 c4] 25)) 25 K S Z Z w2.heap.size w4.heap.size (w3.heap.size + 1) w4.heap.size A2 A4 n2 c2 n4 c4 :=
    ⟨bw2, below_then b4 b7, r2, (x4.after hb4).after b7, Blk.new _ _ _, od4.below b7, by omega⟩
  have o3 := (od3'.below hb4).below b7
  have M0 : AStArray w w.heap.size w3.heap.size lv co A A3 n c n3 c3 zss (w4.alloc (.cells #[.int .i64 K, .int .i64 S, .slice A4 n4 c4] 25)) := ⟨(q4.after hb4).after b7, (p6.after hb4).after b7, o3.reads⟩
  clear ho4 hb4 od4 od3' b4 b3' x4 bw2 r2 q4 p6 b6 b7 z6 u0 u1 u2
  generalize w3.heap.size = s3 at *
  obtain ⟨v1, v2⟩ := L0.cells
  go_wp2_with fail
  refine (eqObject_same K S A4 A2 n4 n2 c4 c2 Z _ L0.o4.reads L0.rd (by omega) (by omega)).mono ?_
  rintro e w5 ⟨rfl, hb5⟩
  have L1 := L0.step hb5
  have M1 := M0.step hb5
  have o5 := o3.below hb5
  have z5 := hb5.size
  simp at z5
  clear L0 M0 o3 hb5 v1 v2
  have bb5 := L1.below
  go_wp2_with fail
  go_region_held3 (fun w' => (AStArray w w.heap.size s3 lv co A A3 n c n3 c3 zss w' ∧ Below w.heap.size w w') ∧ w'.cell? ⟨w.heap.size, 0, none⟩ = some (.int .i64 lv) ∧ w'.cell? ⟨w.heap.size, 1, none⟩ = some (.int .i64 co) ∧ w'.cell? ⟨w.heap.size, 2, none⟩ = some (.slice A n c) ∧ w'.cell? ⟨s3, 0, none⟩ = some (.int .i64 lv) ∧ w'.cell? ⟨s3, 1, none⟩ = some (.int .i64 co) ∧ w'.cell? ⟨s3, 2, none⟩ = some (.slice A3 n3 c3))
    (first | exact (M1.step (below_drewn _ 1)).full (bb5.trans ((below_drewn _ 1).mono bb5.size)) | exact (AStArray.step (And.left (And.left (by assumption))) (by assumption)).full (below_then (And.right (And.left (by assumption))) (by assumption)))
    (first
      | (go_at_call 19; (with_reducible refine (toArray_any lv co A n c zss _ ?_ (by omega) hlens).mono ?_); (exact ha.keep (And.right (And.left (by assumption)))); rintro e w6 ⟨A6, n6, c6, rfl, ho6, hb6⟩)
      | (go_at_call 21; (with_reducible refine (eqArray_same lv co A3 A6 n3 n6 c3 c6 zss _ ?_ ?_ ?_ ?_).mono ?_); (exact AStArray.r3 (And.left (And.left (by assumption)))); (exact ho6.reads); (omega); (have := ho6.len; have := hla.out; omega); rintro e w7 ⟨rfl, hb7⟩))
  have hh7 : (AStArray w w.heap.size s3 lv co A A3 n c n3 c3 zss w7 ∧ Below w.heap.size w w7) := And.left (by assumption)
  have L3 := (L1.step ((below_drewn w5 1).trans (hb6.mono (Nat.le_refl _)))).step hb7
  have M3 := hh7.1
  have o7 := (o5.below ((below_drewn w5 1).trans (hb6.mono (Nat.le_refl _)))).below hb7
  clear L1 M1 o5 hb6 hb7 hh7 ho6 bb5
  obtain ⟨u0, u1, u2⟩ := M3.p6.cells3
  go_wp2_with fail
  refine (markArray_any lv co _ _ A3 n3 c3 1 zss _ o7 (by omega) (by omega)).mono ?_
  rintro e w8 ⟨rfl, _, hm8⟩
  have L4 := L3.mid hm8 (by omega) (by omega) (by omega) (by omega)
  have M4 := M3.p1.mid hm8 (by omega)
  clear L3 o7 hm8 M3 u0 u1 u2
  obtain ⟨v1, v2⟩ := L4.cells
  go_wp2_with fail
  refine (eqObject_same K S A4 A2 n4 n2 c4 c2 Z _ L4.o4.reads L4.rd (by omega) (by omega)).mono ?_
  rintro e w9 ⟨rfl, hb9⟩
  have L5 := L4.step hb9
  have M5 := M4.after hb9
  clear L4 hb9 v1 v2 M4
  obtain ⟨v1, v2⟩ := L5.cells
  go_wp2_with fail
  refine (markObject_any K S _ _ A4 n4 c4 1 Z _ L5.o4 (by omega) (by omega)).mono ?_
  rintro e w10 ⟨rfl, ho10, hm10⟩
  have L6 := L5.marked hm10 ho10 (by omega) (by omega)
  have M6 := M5.mid hm10 (by omega)
  clear L5 ho10 hm10 v1 v2 M5
  obtain ⟨v1, v2⟩ := L6.cells
  go_wp2_with fail
  refine (heldObject_any K S A4 n4 c4 1 Z _ L6.o4.reads (by omega) (by omega)).mono ?_
  rintro e w11 ⟨rfl, hb11⟩
  have L7 := L6.step hb11
  have M7 := M6.after hb11
  clear L6 hb11 v1 v2 M6
  obtain ⟨u0, u1, u2⟩ := M7.cells3
  go_wp2_with fail
  refine (toArray_any lv co A n c zss _ (ha.keep L7.below) (by omega) hlens).mono ?_
  rintro e w12 ⟨A12, n12, c12, rfl, ho12, hb12⟩
  have k12 : n12 ≤ 1048576 := by have := ho12.len; have := hla.out; omega
  have L8 := L7.step hb12
  clear L7 hb12 M7 u0 u1 u2
  go_wp2_with fail
  refine (himpl A12 n12 c12 _ ho12.reads (by omega) ho12.os_cap.1 ho12.os_cap.2).mono ?_
  rintro e w13 ⟨A13, n13, c13, rfl, ho13, hb13⟩
  have k13 : n13 ≤ 1048576 := by have := ho13.len; omega
  have L9 := (L8.step hb13).step (below_alloc w13 (.cells #[.int .i64 K, .int .i64 S, .slice A13 n13 c13] 25))
  have X13 := (Blk.new w13 25 #[.int .i64 K, .int .i64 S, .slice A13 n13 c13]).cells3
  have r13 := ho13.reads.keep (below_alloc w13 (.cells #[.int .i64 K, .int .i64 S, .slice A13 n13 c13] 25))
  clear L8 hb13 ho13 ho12
  obtain ⟨v1, v2⟩ := L9.cells
  go_wp2_with fail
  refine (eqObject_same K S A13 A2 n13 n2 c13 c2 Z _ r13 L9.rd (by omega) (by omega)).mono ?_
  rintro e w14 ⟨rfl, hb14⟩
  have L10 := L9.step hb14
  clear L9 hb14 v1 v2 X13 r13
  obtain ⟨v1, v2⟩ := L10.cells
  go_wp2_with fail
  refine (heldObject_any K S A4 n4 c4 1 Z _ L10.o4.reads (by omega) (by omega)).mono ?_
  rintro e w15 ⟨rfl, hb15⟩
  have L11 := L10.step hb15
  clear L10 hb15 v1 v2
  go_wp2_with fail
  go_ret
  exact ⟨rfl, L11.below⟩

set_option maxHeartbeats 1000000 in
theorem law_ArrayObject (lv co : Int) (A : Option Addr) (n c : Nat) (zss : List (List Int)) (w : World) (ha : RR w A n zss) (hn : n ≤ c) (hc : c ≤ 9223372036854775807) :
    Calls Try.prog 4 #[.agg #[.int .i64 lv, .int .i64 co, .slice A n c]] w fun e w' => e = .returned (.bool true) ∧ Below w.heap.size w w' := by
  have hla := ha.len
  by_cases hs : (bulk zss : Int) ≤ 1048576
  · have hbc := bulk_cells zss
    by_cases hA : Array' lv co zss
    · rcases Nat.eq_zero_or_pos n with h0 | h0
      · exact law_ArrayObject_ok lv co A n c zss w ha hn hc hs 0 0 6 [] ⟨by simp, by simp [cells_nil']⟩
          (fun A' n' c' w' ha' h1 h2 h3 => spec_ArrayObject_empty lv co A' n' c' zss w' ha' h1 (by omega) h2 h3 hA (by rw [← ha'.len, hla, h0])) (fun A' n' c' w' ha' h1 h2 h3 => impl_ArrayObject_empty lv co A' n' c' zss w' ha' h1 (by omega) h2 h3 hA (by rw [← ha'.len, hla, h0]))
      · exact law_ArrayObject_ok lv co A n c zss w ha hn hc hs 4 lv 0 zss ⟨by omega, by omega⟩
          (fun A' n' c' w' ha' h1 h2 h3 => spec_ArrayObject_yes lv co A' n' c' zss w' ha' h1 (by omega) h2 h3 hA (by rw [← ha'.len, hla]; exact h0)) (fun A' n' c' w' ha' h1 h2 h3 => impl_ArrayObject_yes lv co A' n' c' zss w' ha' h1 (by omega) h2 h3 hA (by rw [← ha'.len, hla]; exact h0))
    · exact law_ArrayObject_ok lv co A n c zss w ha hn hc hs 0 0 1 [] ⟨by simp, by simp [cells_nil']⟩
        (fun A' n' c' w' ha' h1 h2 h3 => spec_ArrayObject_no lv co A' n' c' zss w' ha' h1 (by omega) h2 h3 hA) (fun A' n' c' w' ha' h1 h2 h3 => impl_ArrayObject_no lv co A' n' c' zss w' ha' h1 (by omega) h2 h3 hA)
  · have E1 := Lib.hid (show szF 1048576 (bulk zss) = -1 by simp [szF, hs])
    clear hs
    have b1 := below_alloc w (.cells #[.int .i64 lv, .int .i64 co, .slice A n c] 34)
    go_enter Try.func4, Try.ntmps4
    go_wp2_with fail
    refine (szArray_any lv co 1048576 A n c zss _ (ha.keep b1) (by omega) (by omega) (by omega)).mono ?_
    rintro e w0 ⟨rfl, hb0⟩
    rw [E1.out]
    go_wp2
    go_ret
    exact ⟨rfl, below_then b1 hb0⟩

end Go.Proofs.Ytainkgckahcdnaa
