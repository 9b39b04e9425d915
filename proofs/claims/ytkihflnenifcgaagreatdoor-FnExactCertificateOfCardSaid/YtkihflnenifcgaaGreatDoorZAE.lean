/- What the laws' own helpers do with rows: mark them, hold them against marks, compare two that read alike. No condition beyond those stated. -/
import Derived.Test.YtkihflnenifcgaaGreatDoorZAB
import Derived.Test.YtkihflnenifcgaaGreatDoorZAD
set_option linter.unusedVariables false
set_option linter.unusedSimpArgs false
namespace Go.Proofs.YtkihflnenifcgaaGreatDoor
open Go.RowKit

theorem lens_cells (zss : List (List Int)) {k : Nat} (h : k ≤ zss.length) : lens zss k = cells (zss.take k) := by
  induction k with
  | zero => simp [lens, cells]
  | succ k ih => rw [lens, ih (by omega), cells_take zss h]
theorem bulk_cells (zss : List (List Int)) : bulk zss = zss.length + cells zss := by
  unfold bulk
  rw [lens_cells zss (Nat.le_refl _), List.take_length]
theorem OI.setMid {w : World} {B : Nat} {e : TypeId} {A : Option Addr} {n c : Nat} {zs ys : List Int} {w' : World} (h : OI w B e A n c zs) (_ : OI w' B e A n c ys) (hg : w.grownBy w' (blk A)) {D : Nat} (hD : ∀ b, blk A = some b → b < D) : Mid w w' B D :=
  Mid.grown hg fun b hb => ⟨(h.os.lt hb).1, hD b hb⟩



end Go.Proofs.YtkihflnenifcgaaGreatDoor
/- Graphs: what the laws' own helpers do with them. No condition beyond those stated. -/
namespace Go.Proofs.YtkihflnenifcgaaGreatDoor
open Go.RowKit

/-- a graph in memory of a call's own, from B on and below D -/
structure OG (w : World) (B D : Nat) (A : Option Addr) (n c : Nat) (F : Option Addr) (m d : Nat) (cs : List Int) (es : List Ed) : Prop where
  oi : OI w B 2 A n c cs
  oe : OE w B 65 F m d es
  la : ∀ b, blk A = some b → b < D
  lf : ∀ b, blk F = some b → b < D
/-- a graph that reads so -/
structure RG (w : World) (A : Option Addr) (n : Nat) (F : Option Addr) (m : Nat) (cs : List Int) (es : List Ed) : Prop where
  ri : RI w A n cs
  re : RE w F m es
section
variable {w w' : World} {B D B' D' : Nat} {A F : Option Addr} {n c m d : Nat} {cs : List Int} {es : List Ed}
theorem RG.keep (h : RG w A n F m cs es) (hb : Below w.heap.size w w') : RG w' A n F m cs es := ⟨h.ri.keep hb, h.re.keep hb⟩
theorem OE.setLow {ty : TypeId} (h : OE w B ty F m d es) {p : Addr} (hp : p.block < B) (u : Value) : OE (w.setCell p u) B ty F m d es := ⟨h.os.setLow hp u, h.all⟩
theorem OG.reads (h : OG w B D A n c F m d cs es) : RG w A n F m cs es := ⟨h.oi.reads, h.oe.reads⟩
theorem OG.mid (h : OG w B D A n c F m d cs es) (hm : Mid w w' B' D') (hd : D' ≤ B ∨ D ≤ B') : OG w' B D A n c F m d cs es :=
  ⟨h.oi.mid hm (fun b hb => by have := (h.oi.os.lt hb).1; have := h.la b hb; omega), h.oe.mid hm (fun b hb => by have := (h.oe.os.lt hb).1; have := h.lf b hb; omega), h.la, h.lf⟩
theorem OG.below (h : OG w B D A n c F m d cs es) (hb : Below w.heap.size w w') : OG w' B D A n c F m d cs es := h.mid (Mid.of_below hb (Nat.le_refl _) 0 0) (.inl (Nat.zero_le _))
theorem OG.of (h : OI w B 2 A n c cs) (k : OE w B 65 F m d es) : OG w B w.heap.size A n c F m d cs es := ⟨h, k, fun _ hb => (h.os.lt hb).2, fun _ hb => (k.os.lt hb).2⟩
theorem OG.apart (h : OG w B D A n c F m d cs es) : blk A = none ∨ blk A ≠ blk F := OS.typed h.oi.os h.oe.os (by decide)
theorem OG.apart' (h : OG w B D A n c F m d cs es) : blk F = none ∨ blk F ≠ blk A := OS.typed h.oe.os h.oi.os (by decide)
end

/-! marks -/
def marksE (k m : Nat) : List Ed := (List.range m).map fun i => (((k + 2 * i : Nat) : Int), ((k + 2 * i + 1 : Nat) : Int))
theorem marksE_len (k m : Nat) : (marksE k m).length = m := by simp [marksE]
theorem marksE_nth {k m i : Nat} (h : i < m) : nthE (marksE k m) i = (((k + 2 * i : Nat) : Int), ((k + 2 * i + 1 : Nat) : Int)) := by simp [nthE, marksE, List.getD, h]
def markedE (k : Nat) (es : List Ed) (j : Nat) : List Ed := marksE k j ++ es.drop j
theorem markedE_zero (k : Nat) (es : List Ed) : markedE k es 0 = es := by simp [markedE, marksE]
theorem markedE_all (k : Nat) (es : List Ed) : markedE k es es.length = marksE k es.length := by simp [markedE]
theorem markedE_step {k : Nat} {es : List Ed} {j : Nat} (h : j < es.length) : (markedE k es j).set j (((k + 2 * j : Nat) : Int), ((k + 2 * j + 1 : Nat) : Int)) = markedE k es (j + 1) := by
  unfold markedE
  rw [List.set_append_right _ _ (by rw [marksE_len]; exact Nat.le_refl _), marksE_len, Nat.sub_self, List.drop_eq_getElem_cons h, List.set_cons_zero]
  simp [marksE, List.range_succ]
set_option maxHeartbeats 400000 in
theorem szEdgeS_any (A : Option Addr) (n c : Nat) (l : Int) (w : World) (hn : n ≤ 9223372036854775807) (h0 : 0 ≤ l) (hl : l ≤ 1048576) :
    Calls Tryz.prog 32 #[.slice A n c, .int .i64 l] w fun e w' => e = .returned (.int .i64 (szF l n)) ∧ w = w' := by
  by_cases h : (n : Int) ≤ l
  · have H := Lib.hid (show szF l n = l - n by simp [szF, h])
    go_enter Tryz.func32, Tryz.ntmps32
    go_wp2
    go_ret
    exact ⟨by rw [H.out]; rfl, rfl⟩
  · have H := Lib.hid (show szF l n = -1 by simp [szF, h])
    go_enter Tryz.func32, Tryz.ntmps32
    go_wp2
    go_ret
    exact ⟨by rw [H.out]; rfl, rfl⟩
set_option maxHeartbeats 400000 in
theorem szGraph_any (l : Int) (A : Option Addr) (n c : Nat) (F : Option Addr) (m d : Nat) (w : World) (hn : n ≤ 9223372036854775807) (hm : m ≤ 9223372036854775807) (h0 : 0 ≤ l) (hl : l ≤ 1048576) :
    Calls Tryz.prog 13 #[.agg #[.slice A n c, .slice F m d], .int .i64 l] w fun e w' => e = .returned (.int .i64 (szF l ((n : Int) + m))) ∧ Below w.heap.size w w' := by
  have hb1 := below_alloc w (.cells #[.slice A n c, .slice F m d] 41)
  by_cases h1 : (n : Int) ≤ l
  · have H1 := Lib.hid (show szF l n = l - n by simp [szF, h1])
    by_cases h2 : (m : Int) ≤ l - n
    · have H2 := Lib.hid (show szF (l - n) m = l - n - m by simp [szF, h2])
      have H := Lib.hid (show szF l ((n : Int) + m) = l - n - m by rw [szF, if_pos (by omega)]; omega)
      go_enter Tryz.func13, Tryz.ntmps13
      go_wp2_with (first
        | (go_at_call 31; refine (szInt64S_any _ _ _ _ _ hn h0 hl).mono ?_; rintro e w1 ⟨rfl, rfl⟩; rw [H1.out])
        | (go_at_call 32; refine (szEdgeS_any _ _ _ _ _ hm (by omega) (by omega)).mono ?_; rintro e w1 ⟨rfl, rfl⟩; rw [H2.out]))
      go_ret
      exact ⟨by rw [H.out]; rfl, hb1⟩
    · have H2 := Lib.hid (show szF (l - n) m = -1 by simp [szF, h2])
      have H := Lib.hid (show szF l ((n : Int) + m) = -1 by rw [szF, if_neg (by omega)])
      clear h2
      go_enter Tryz.func13, Tryz.ntmps13
      go_wp2_with (first
        | (go_at_call 31; refine (szInt64S_any _ _ _ _ _ hn h0 hl).mono ?_; rintro e w1 ⟨rfl, rfl⟩; rw [H1.out])
        | (go_at_call 32; refine (szEdgeS_any _ _ _ _ _ hm (by omega) (by omega)).mono ?_; rintro e w1 ⟨rfl, rfl⟩; rw [H2.out]))
      go_ret
      exact ⟨by rw [H.out]; rfl, hb1⟩
  · have H1 := Lib.hid (show szF l n = -1 by simp [szF, h1])
    have H := Lib.hid (show szF l ((n : Int) + m) = -1 by rw [szF, if_neg (by omega)])
    clear h1
    go_enter Tryz.func13, Tryz.ntmps13
    go_wp2_with (go_at_call 31; refine (szInt64S_any _ _ _ _ _ hn h0 hl).mono ?_; rintro e w1 ⟨rfl, rfl⟩; rw [H1.out])
    go_ret
    exact ⟨by rw [H.out]; rfl, hb1⟩
/-- a graph in memory of its own -/
def RetG (w : World) (cs : List Int) (es : List Ed) (en : Ending) (w' : World) : Prop :=
  ∃ A n c F m d, en = .returned (.agg #[.slice A n c, .slice F m d]) ∧ OG w' w.heap.size w'.heap.size A n c F m d cs es ∧ Below w.heap.size w w'
set_option maxHeartbeats 1000000 in
theorem toGraph_any (A : Option Addr) (n c : Nat) (F : Option Addr) (m d : Nat) (cs : List Int) (es : List Ed) (w : World) (ha : RG w A n F m cs es) (hn : n ≤ 1099511627776) (hm : m ≤ 1099511627776) :
    Calls Tryz.prog 15 #[.agg #[.slice A n c, .slice F m d]] w (RetG w cs es) := by
  have hb1 := below_alloc w (.cells #[.slice A n c, .slice F m d] 41)
  go_enter Tryz.func15, Tryz.ntmps15
  go_wp2_with fail
  refine (toInt64S_any A n c cs _ (ha.ri.keep ((hb1.alloc (by simp) _).alloc (by simp; omega) _)) hn).mono ?_
  rintro e w1 ⟨A2, n2, c2, rfl, ho, hb⟩
  have Y := (((Blk.new w 41 #[.slice A n c, .slice F m d]).alloc (.cells #[.slice none 0 0, .slice none 0 0] 27)).alloc (.cells #[.slice none 0 0, .slice none 0 0] 27)).after hb
  have Y1 : Blk w1 (w.heap.size + 1) 27 #[.slice none 0 0, .slice none 0 0] := by
    have := ((Blk.new (w.alloc (.cells #[.slice A n c, .slice F m d] 41)) 27 #[.slice none 0 0, .slice none 0 0]).alloc (.cells #[.slice none 0 0, .slice none 0 0] 27)).after hb
    simpa using this
  have Y2 : Blk w1 (w.heap.size + 1 + 1) 27 #[.slice none 0 0, .slice none 0 0] := by
    have := (Blk.new ((w.alloc (.cells #[.slice A n c, .slice F m d] 41)).alloc (.cells #[.slice none 0 0, .slice none 0 0] 27)) 27 #[.slice none 0 0, .slice none 0 0]).after hb
    simpa using this
  have ho' : OI w1 (w.heap.size + 1 + 1 + 1) 2 A2 n2 c2 cs := by simpa using ho
  have hw : Below w.heap.size w w1 := ((hb1.alloc (by simp) _).alloc (by simp; omega) _).trans (hb.mono (by simp; omega))
  have hz := hb.size
  simp at hz
  clear ho hb hb1
  have ho2 : OI (w1.setCell ⟨w.heap.size + 1 + 1, 0, none⟩ (.slice A2 n2 c2)) (w.heap.size + 1 + 1 + 1) 2 A2 n2 c2 cs := ho'.setLow (by simp) _
  have hw2 : Below w.heap.size w (w1.setCell ⟨w.heap.size + 1 + 1, 0, none⟩ (.slice A2 n2 c2)) := hw.setCell (by simp; omega) _
  have V : Blk (w1.setCell ⟨w.heap.size + 1 + 1, 0, none⟩ (.slice A2 n2 c2)) w.heap.size 41 #[.slice A n c, .slice F m d] := Y.far (by simp; omega) _
  have V1 : Blk (w1.setCell ⟨w.heap.size + 1 + 1, 0, none⟩ (.slice A2 n2 c2)) (w.heap.size + 1) 27 #[.slice none 0 0, .slice none 0 0] := Y1.far (by simp) _
  have V2 : Blk (w1.setCell ⟨w.heap.size + 1 + 1, 0, none⟩ (.slice A2 n2 c2)) (w.heap.size + 1 + 1) 27 #[.slice A2 n2 c2, .slice none 0 0] := Y2.set_ 0 _
  obtain ⟨y0, y1⟩ := Y2.cells2
  obtain ⟨u0, u1⟩ := Y.cells2
  have f0 := Y2.frozen 0
  obtain ⟨v0, v1⟩ := V.cells2
  have hs : (w1.setCell ⟨w.heap.size + 1 + 1, 0, none⟩ (.slice A2 n2 c2)).heap.size = w1.heap.size := by simp [World.setCell]
  clear Y Y1 Y2 ho' hw
  go_wp2_with fail
  refine (toEdgeS_any F m d es _ (ha.re.keep hw2) hm).mono ?_
  rintro e w3 ⟨F3, m3, d3, rfl, ho3, hb3⟩
  have ho4 := ho2.below hb3
  have hw3 := below_then hw2 hb3
  have ho3' : OE w3 (w.heap.size + 1 + 1 + 1) 65 F3 m3 d3 es := ho3.more (by omega)
  have V3 := V2.after hb3
  have X3 := V1.after hb3
  clear ho3 ho2 hb3 V V1 V2 v0 v1 y0 y1 u0 u1 f0 hw2 hs
  have Z3 : Blk (w3.setCell ⟨w.heap.size + 1 + 1, 1, none⟩ (.slice F3 m3 d3)) (w.heap.size + 1 + 1) 27 #[.slice A2 n2 c2, .slice F3 m3 d3] := V3.set_ 1 _
  have Z1 : Blk (w3.setCell ⟨w.heap.size + 1 + 1, 1, none⟩ (.slice F3 m3 d3)) (w.heap.size + 1) 27 #[.slice none 0 0, .slice none 0 0] := X3.far (by simp) _
  obtain ⟨y0, y1⟩ := V3.cells2
  have f1 := V3.frozen 1
  obtain ⟨v0, v1⟩ := Z3.cells2
  obtain ⟨x0, x1⟩ := X3.cells2
  obtain ⟨z0, z1⟩ := Z1.cells2
  have g0 := X3.frozen 0
  have g1 := X3.frozen 1
  go_wp2
  refine bodyPost_ret (v := .agg #[.slice A2 n2 c2, .slice F3 m3 d3]) (by simp [results, Tryz.results15, go_sem, x0, x1]) rfl ⟨A2, n2, c2, F3, m3, d3, rfl, OG.of ?_ ?_, ?_⟩
  · refine OI.more (B := w.heap.size + 1 + 1 + 1) ?_ (by omega)
    repeat (refine OI.setLow ?_ (by simp <;> omega) _)
    exact ho4
  · refine OE.more (B := w.heap.size + 1 + 1 + 1) ?_ (by omega)
    repeat (refine OE.setLow ?_ (by simp <;> omega) _)
    exact ho3'
  · repeat (refine Below.setCell ?_ (by simp <;> omega) _)
    exact hw3
set_option maxHeartbeats 400000 in
theorem eqGraph_same (A F : Option Addr) (n c m d : Nat) (A' F' : Option Addr) (n' c' m' d' : Nat) (cs : List Int) (es : List Ed) (w : World) (ha : RG w A n F m cs es) (hb : RG w A' n' F' m' cs es) (hn : n ≤ 9223372036854775807) (hm : m ≤ 9223372036854775807) (hn' : n' ≤ 9223372036854775807) :
    Calls Tryz.prog 16 #[.agg #[.slice A n c, .slice F m d], .agg #[.slice A' n' c', .slice F' m' d']] w fun e w' => e = .returned (.bool true) ∧ Below w.heap.size w w' := by
  have hb2 := below_then (below_alloc w (.cells #[.slice A n c, .slice F m d] 27)) (below_alloc (w.alloc (.cells #[.slice A n c, .slice F m d] 27)) (.cells #[.slice A' n' c', .slice F' m' d'] 27))
  have ha' := ha.keep hb2
  have hb' := hb.keep hb2
  have X := (Blk.new w 27 #[.slice A n c, .slice F m d]).alloc (.cells #[.slice A' n' c', .slice F' m' d'] 27)
  have Y : Blk ((w.alloc (.cells #[.slice A n c, .slice F m d] 27)).alloc (.cells #[.slice A' n' c', .slice F' m' d'] 27)) (w.heap.size + 1) 27 #[.slice A' n' c', .slice F' m' d'] := by
    have := Blk.new (w.alloc (.cells #[.slice A n c, .slice F m d] 27)) 27 #[.slice A' n' c', .slice F' m' d']
    simpa using this
  clear ha hb
  go_enter Tryz.func16, Tryz.ntmps16
  go_wp2_with fail
  refine (eqInt64S_any _ _ _ _ _ _ cs cs _ ha'.ri hb'.ri hn hn').mono ?_
  rintro e w1 ⟨rfl, hd1⟩
  rw [show decide (cs = cs) = true from by simp]
  obtain ⟨x0, x1⟩ := (X.after hd1.below).cells2
  obtain ⟨y0, y1⟩ := (Y.after hd1.below).cells2
  have ha2 := ha'.keep hd1.below
  have hb3 := hb'.keep hd1.below
  have hw := below_then hb2 hd1.below
  clear X Y ha' hb' hb2
  go_wp2_with fail
  refine (eqEdgeS_same _ _ _ _ _ _ es _ ha2.re hb3.re hm).mono ?_
  rintro e w2 ⟨rfl, hb4⟩
  go_wp2
  go_ret
  exact ⟨rfl, below_then hw hb4⟩
end Go.Proofs.YtkihflnenifcgaaGreatDoor
/- A graph as a law's argument: its variable, and a copy's. No condition beyond those stated. -/
namespace Go.Proofs.YtkihflnenifcgaaGreatDoor
open Go.RowKit

/-- the argument's variable and the copy's, behind the copy's rows -/
structure GSt (g1 g6 : Nat) (A F A3 F3 : Option Addr) (n c m d n3 c3 m3 d3 : Nat) (cs : List Int) (es : List Ed) (w' : World) : Prop where
  p1 : Blk w' g1 41 #[.slice A n c, .slice F m d]
  p6 : Blk w' g6 27 #[.slice A3 n3 c3, .slice F3 m3 d3]
  r1 : RG w' A n F m cs es
  r3 : RG w' A3 n3 F3 m3 cs es
section
variable {w w' w'' : World} {g1 g6 : Nat} {A F A3 F3 : Option Addr} {n c m d n3 c3 m3 d3 : Nat} {cs : List Int} {es : List Ed}
theorem GSt.step (h : GSt g1 g6 A F A3 F3 n c m d n3 c3 m3 d3 cs es w') (hb : Below w'.heap.size w' w'') : GSt g1 g6 A F A3 F3 n c m d n3 c3 m3 d3 cs es w'' :=
  ⟨h.p1.after hb, h.p6.after hb, h.r1.keep hb, h.r3.keep hb⟩
theorem GSt.cells (h : GSt g1 g6 A F A3 F3 n c m d n3 c3 m3 d3 cs es w') :
    (w'.cell? ⟨g1, 0, none⟩ = some (.slice A n c) ∧ w'.cell? ⟨g1, 1, none⟩ = some (.slice F m d)) ∧ w'.cell? ⟨g6, 0, none⟩ = some (.slice A3 n3 c3) ∧ w'.cell? ⟨g6, 1, none⟩ = some (.slice F3 m3 d3) :=
  ⟨h.p1.cells2, h.p6.cells2⟩
theorem GSt.full (h : GSt g1 g6 A F A3 F3 n c m d n3 c3 m3 d3 cs es w') (hb : Below w.heap.size w w') :
    (GSt g1 g6 A F A3 F3 n c m d n3 c3 m3 d3 cs es w' ∧ Below w.heap.size w w') ∧ w'.cell? ⟨g1, 0, none⟩ = some (.slice A n c) ∧ w'.cell? ⟨g1, 1, none⟩ = some (.slice F m d) ∧ w'.cell? ⟨g6, 0, none⟩ = some (.slice A3 n3 c3) ∧ w'.cell? ⟨g6, 1, none⟩ = some (.slice F3 m3 d3) :=
  ⟨⟨h, hb⟩, h.p1.cells2.1, h.p1.cells2.2, h.p6.cells2.1, h.p6.cells2.2⟩
theorem GSt.full2 {K : World → Prop} (h : GSt g1 g6 A F A3 F3 n c m d n3 c3 m3 d3 cs es w') (k : K w') (hb : Below w.heap.size w w') :
    ((GSt g1 g6 A F A3 F3 n c m d n3 c3 m3 d3 cs es w' ∧ K w') ∧ Below w.heap.size w w') ∧ w'.cell? ⟨g1, 0, none⟩ = some (.slice A n c) ∧ w'.cell? ⟨g1, 1, none⟩ = some (.slice F m d) ∧ w'.cell? ⟨g6, 0, none⟩ = some (.slice A3 n3 c3) ∧ w'.cell? ⟨g6, 1, none⟩ = some (.slice F3 m3 d3) :=
  ⟨⟨⟨h, k⟩, hb⟩, h.p1.cells2.1, h.p1.cells2.2, h.p6.cells2.1, h.p6.cells2.2⟩
end
theorem keep4' {W w' : World} {p1 p2 p3 p4 : Addr} {u1 u2 u3 u4 : Value} (hb : Below W.heap.size W w') (h1 : W.cell? p1 = some u1) (h2 : W.cell? p2 = some u2) (h3 : W.cell? p3 = some u3) (h4 : W.cell? p4 = some u4) :
    Below W.heap.size W w' ∧ w'.cell? p1 = some u1 ∧ w'.cell? p2 = some u2 ∧ w'.cell? p3 = some u3 ∧ w'.cell? p4 = some u4 :=
  ⟨hb, below_cell hb h1, below_cell hb h2, below_cell hb h3, below_cell hb h4⟩
theorem szF_parts {l : Int} {n m : Nat} (h : (n : Int) + m ≤ l) : szF l ((n : Int) + m) = l - (n + m) := by simp [szF, h]
end Go.Proofs.YtkihflnenifcgaaGreatDoor
