/- Graphs: what the laws' own helpers do with them. No condition beyond those stated. -/
import Derived.Test.YtainkgckahcdnaaEdge
import Derived.Test.YtainkgckahcdnaaLaw
import Derived.Test.YtainkgckahcdnaaMark
namespace Go.Proofs.Ytainkgckahcdnaa
open Go.RowKit

/-- a graph in memory of a call's own, from B on and below D -/
structure OG (w : World) (B D : Nat) (A : Option Addr) (n c : Nat) (F : Option Addr) (m d : Nat) (cs : List Int) (es : List Ed) : Prop where
  oi : OI w B 2 A n c cs
  oe : OE w B 77 F m d es
  la : ∀ b, blk A = some b → b < D
  lf : ∀ b, blk F = some b → b < D
/-- a graph that reads so -/
structure RG (w : World) (A : Option Addr) (n : Nat) (F : Option Addr) (m : Nat) (cs : List Int) (es : List Ed) : Prop where
  ri : RI w A n cs
  re : RE w F m es
section
variable {w w' : World} {B D B' D' : Nat} {A F : Option Addr} {n c m d : Nat} {cs : List Int} {es : List Ed}
theorem RG.keep (h : RG w A n F m cs es) (hb : Below w.heap.size w w') : RG w' A n F m cs es := ⟨h.ri.keep hb, h.re.keep hb⟩
theorem OE.setLow {ty : TypeId} (h : OE w B ty F m d es) {p : Addr} (hp : p.block < B) (u : Value) : OE (w.setCell p u) B ty F m d es := ⟨h.os.setLow hp u, h.all⟩
theorem OG.reads (h : OG w B D A n c F m d cs es) : RG w A n F m cs es := ⟨h.oi.reads, h.oe.reads⟩
theorem OG.mid (h : OG w B D A n c F m d cs es) (hm : Mid w w' B' D') (hd : D' ≤ B ∨ D ≤ B') : OG w' B D A n c F m d cs es :=
  ⟨h.oi.mid hm (fun b hb => by have := (h.oi.os.lt hb).1; have := h.la b hb; omega), h.oe.mid hm (fun b hb => by have := (h.oe.os.lt hb).1; have := h.lf b hb; omega), h.la, h.lf⟩
theorem OG.below (h : OG w B D A n c F m d cs es) (hb : Below w.heap.size w w') : OG w' B D A n c F m d cs es := h.mid (Mid.of_below hb (Nat.le_refl _) 0 0) (.inl (Nat.zero_le _))
theorem OG.of (h : OI w B 2 A n c cs) (k : OE w B 77 F m d es) : OG w B w.heap.size A n c F m d cs es := ⟨h, k, fun _ hb => (h.os.lt hb).2, fun _ hb => (k.os.lt hb).2⟩
theorem OG.apart (h : OG w B D A n c F m d cs es) : blk A = none ∨ blk A ≠ blk F := OS.typed h.oi.os h.oe.os (by decide)
theorem OG.apart' (h : OG w B D A n c F m d cs es) : blk F = none ∨ blk F ≠ blk A := OS.typed h.oe.os h.oi.os (by decide)
end

theorem grown_set {w : World} {g p : Nat} {u : Value} : w.grownBy (w.setCell ⟨g, p, none⟩ u) (some g) :=
  ⟨rfl, rfl, rfl, by simp [World.setCell], fun k _ hk => Below.heap_setCell _ _ _ _ (fun e => hk (by rw [e]))⟩
/-! marks -/
def marksE (k m : Nat) : List Ed := (List.range m).map fun i => (((k + 2 * i : Nat) : Int), ((k + 2 * i + 1 : Nat) : Int))
theorem marksE_len (k m : Nat) : (marksE k m).length = m := by simp [marksE]
theorem marksE_nth {k m i : Nat} (h : i < m) : nthE (marksE k m) i = (((k + 2 * i : Nat) : Int), ((k + 2 * i + 1 : Nat) : Int)) := by simp [nthE, marksE, List.getD, h]
def markedE (k : Nat) (es : List Ed) (j : Nat) : List Ed := marksE k j ++ es.drop j
theorem markedE_zero (k : Nat) (es : List Ed) : markedE k es 0 = es := by simp [markedE, marksE]
theorem markedE_all (k : Nat) (es : List Ed) : markedE k es es.length = marksE k es.length := by simp [markedE]
theorem markedE_step {k : Nat} {es : List Ed} {j : Nat} (h : j < es.length) : (markedE k es j).set j (((k + 2 * j : Nat) : Int), ((k + 2 * j + 1 : Nat) : Int)) = markedE k es (j + 1) := by
  unfold markedE
  rw [List.set_append_right _ _ (by rw [marksE_len]; exact Nat.le_refl _), marksE_len, Nat.sub_self, List.drop_eq_getElem_cons h, List.set_cons_zero]
  simp [marksE, List.range_succ]
set_option maxHeartbeats 1000000 in
theorem markEdgeS_own (B : Nat) (ty : TypeId) (A : Option Addr) (n c k : Nat) (es : List Ed) (w : World) (ha : OE w B ty A n c es) (hn : k + 2 * n ≤ 4611686018427387904) :
    Calls Try.prog 56 #[.slice A n c, .int .i64 k] w fun en w' => en = .returned (.int .i64 ((k + 2 * n : Nat) : Int)) ∧ OE w' B ty A n c (marksE k n) ∧ w.grownBy w' (blk A) := by
  have hl := Lib.hid ha.len
  go_enter Try.func56, Try.ntmps56
  go_wp2
  go_loopw [1, 5] (fun q i wr => ∃ j : Nat, j ≤ n ∧ i = .int .i64 j ∧ q = .int .i64 ((k + 2 * j : Nat) : Int) ∧ OE wr B ty A n c (markedE k es j) ∧ w.grownBy wr (blk A)) (fun _ i _ => n - (intOf i).toNat)
  case atStart => exact ⟨0, Nat.zero_le _, rfl, by simp, by rw [markedE_zero]; exact ha, World.grownBy.refl _ _⟩
  case round =>
    obtain ⟨j, hj, rfl, rfl, ho, hw⟩ := hrel
    by_cases hlt : j < n
    · obtain ⟨g, rfl, c1, c2, f1, f2, _, _⟩ := ho.cell hlt
      have ho' := ho.set j (a := ((k + 2 * j : Nat) : Int)) (b := ((k + 2 * j + 1 : Nat) : Int)) ⟨by omega, by omega⟩ ⟨by omega, by omega⟩
      rw [markedE_step (by rw [hl.out]; exact hlt)] at ho'
      have hw' : w.grownBy ((wr.setCell ⟨g, j * 2, none⟩ (.int .i64 ((k + 2 * j : Nat) : Int))).setCell ⟨g, j * 2 + 1, none⟩ (.int .i64 ((k + 2 * j + 1 : Nat) : Int))) (blk (some ⟨g, 0, none⟩)) :=
        (hw.trans grown_set).trans grown_set
      have e1 : ((k + 2 * j : Nat) : Int) + 1 = ((k + 2 * j + 1 : Nat) : Int) := by omega
      generalize hk2 : k + 2 * j = q at *
      have HK := Lib.hid hk2; clear hk2
      have ep : ((q + 1 : Nat) : Int) = (q : Int) + 1 := by omega
      rw [ep] at ho' hw'
      have hq : q + 2 ≤ 4611686018427387904 := by have := HK.out; omega
      clear ho hw e1 ep
      go_wp2
      go_roundw
      case rel => exact ⟨j + 1, by omega, by go_num, by rw [show k + 2 * (j + 1) = q + 1 + 1 by have := HK.out; omega]; go_num, ho', hw'⟩
      case measure => simp [intOf]; omega
    · obtain rfl : j = n := by omega
      have ho' : OE wr B ty A j c (marksE k j) := by rw [← hl.out]; rw [← hl.out] at ho; rw [markedE_all] at ho; exact ho
      go_wp2
      go_ret
      exact ⟨rfl, ho', hw⟩
set_option maxHeartbeats 400000 in
theorem szEdgeS_any (A : Option Addr) (n c : Nat) (l : Int) (w : World) (hn : n ≤ 9223372036854775807) (h0 : 0 ≤ l) (hl : l ≤ 1048576) :
    Calls Try.prog 49 #[.slice A n c, .int .i64 l] w fun e w' => e = .returned (.int .i64 (szF l n)) ∧ w = w' := by
  by_cases h : (n : Int) ≤ l
  · have H := Lib.hid (show szF l n = l - n by simp [szF, h])
    go_enter Try.func49, Try.ntmps49
    go_wp2
    go_ret
    exact ⟨by rw [H.out]; rfl, rfl⟩
  · have H := Lib.hid (show szF l n = -1 by simp [szF, h])
    go_enter Try.func49, Try.ntmps49
    go_wp2
    go_ret
    exact ⟨by rw [H.out]; rfl, rfl⟩
set_option maxHeartbeats 400000 in
theorem szGraph_any (l : Int) (A : Option Addr) (n c : Nat) (F : Option Addr) (m d : Nat) (w : World) (hn : n ≤ 9223372036854775807) (hm : m ≤ 9223372036854775807) (h0 : 0 ≤ l) (hl : l ≤ 1048576) :
    Calls Try.prog 29 #[.agg #[.slice A n c, .slice F m d], .int .i64 l] w fun e w' => e = .returned (.int .i64 (szF l ((n : Int) + m))) ∧ Below w.heap.size w w' := by
  have hb1 := below_alloc w (.cells #[.slice A n c, .slice F m d] 54)
  by_cases h1 : (n : Int) ≤ l
  · have H1 := Lib.hid (show szF l n = l - n by simp [szF, h1])
    by_cases h2 : (m : Int) ≤ l - n
    · have H2 := Lib.hid (show szF (l - n) m = l - n - m by simp [szF, h2])
      have H := Lib.hid (show szF l ((n : Int) + m) = l - n - m by rw [szF, if_pos (by omega)]; omega)
      go_enter Try.func29, Try.ntmps29
      go_wp2_with (first
        | (go_at_call 37; refine (szInt64S_any _ _ _ _ _ hn h0 hl).mono ?_; rintro e w1 ⟨rfl, rfl⟩; rw [H1.out])
        | (go_at_call 49; refine (szEdgeS_any _ _ _ _ _ hm (by omega) (by omega)).mono ?_; rintro e w1 ⟨rfl, rfl⟩; rw [H2.out]))
      go_ret
      exact ⟨by rw [H.out]; rfl, hb1⟩
    · have H2 := Lib.hid (show szF (l - n) m = -1 by simp [szF, h2])
      have H := Lib.hid (show szF l ((n : Int) + m) = -1 by rw [szF, if_neg (by omega)])
      clear h2
      go_enter Try.func29, Try.ntmps29
      go_wp2_with (first
        | (go_at_call 37; refine (szInt64S_any _ _ _ _ _ hn h0 hl).mono ?_; rintro e w1 ⟨rfl, rfl⟩; rw [H1.out])
        | (go_at_call 49; refine (szEdgeS_any _ _ _ _ _ hm (by omega) (by omega)).mono ?_; rintro e w1 ⟨rfl, rfl⟩; rw [H2.out]))
      go_ret
      exact ⟨by rw [H.out]; rfl, hb1⟩
  · have H1 := Lib.hid (show szF l n = -1 by simp [szF, h1])
    have H := Lib.hid (show szF l ((n : Int) + m) = -1 by rw [szF, if_neg (by omega)])
    clear h1
    go_enter Try.func29, Try.ntmps29
    go_wp2_with (go_at_call 37; refine (szInt64S_any _ _ _ _ _ hn h0 hl).mono ?_; rintro e w1 ⟨rfl, rfl⟩; rw [H1.out])
    go_ret
    exact ⟨by rw [H.out]; rfl, hb1⟩
/-- a graph in memory of its own -/
def RetG (w : World) (cs : List Int) (es : List Ed) (en : Ending) (w' : World) : Prop :=
  ∃ A n c F m d, en = .returned (.agg #[.slice A n c, .slice F m d]) ∧ OG w' w.heap.size w'.heap.size A n c F m d cs es ∧ Below w.heap.size w w'
set_option maxHeartbeats 1000000 in
theorem toGraph_any (A : Option Addr) (n c : Nat) (F : Option Addr) (m d : Nat) (cs : List Int) (es : List Ed) (w : World) (ha : RG w A n F m cs es) (hn : n ≤ 1099511627776) (hm : m ≤ 1099511627776) :
    Calls Try.prog 31 #[.agg #[.slice A n c, .slice F m d]] w (RetG w cs es) := by
  have hb1 := below_alloc w (.cells #[.slice A n c, .slice F m d] 54)
  go_enter Try.func31, Try.ntmps31
  go_wp2_with fail
  refine (toInt64S_any A n c cs _ (ha.ri.keep ((hb1.alloc (by simp) _).alloc (by simp; omega) _)) hn).mono ?_
  rintro e w1 ⟨A2, n2, c2, rfl, ho, hb⟩
  have Y := (((Blk.new w 54 #[.slice A n c, .slice F m d]).alloc (.cells #[.slice none 0 0, .slice none 0 0] 59)).alloc (.cells #[.slice none 0 0, .slice none 0 0] 59)).after hb
  have Y1 : Blk w1 (w.heap.size + 1) 59 #[.slice none 0 0, .slice none 0 0] := by
    have := ((Blk.new (w.alloc (.cells #[.slice A n c, .slice F m d] 54)) 59 #[.slice none 0 0, .slice none 0 0]).alloc (.cells #[.slice none 0 0, .slice none 0 0] 59)).after hb
    simpa using this
  have Y2 : Blk w1 (w.heap.size + 1 + 1) 59 #[.slice none 0 0, .slice none 0 0] := by
    have := (Blk.new ((w.alloc (.cells #[.slice A n c, .slice F m d] 54)).alloc (.cells #[.slice none 0 0, .slice none 0 0] 59)) 59 #[.slice none 0 0, .slice none 0 0]).after hb
    simpa using this
  have ho' : OI w1 (w.heap.size + 1 + 1 + 1) 2 A2 n2 c2 cs := by simpa using ho
  have hw : Below w.heap.size w w1 := ((hb1.alloc (by simp) _).alloc (by simp; omega) _).trans (hb.mono (by simp; omega))
  have hz := hb.size
  simp at hz
  clear ho hb hb1
  have ho2 : OI (w1.setCell ⟨w.heap.size + 1 + 1, 0, none⟩ (.slice A2 n2 c2)) (w.heap.size + 1 + 1 + 1) 2 A2 n2 c2 cs := ho'.setLow (by simp) _
  have hw2 : Below w.heap.size w (w1.setCell ⟨w.heap.size + 1 + 1, 0, none⟩ (.slice A2 n2 c2)) := hw.setCell (by simp; omega) _
  have V : Blk (w1.setCell ⟨w.heap.size + 1 + 1, 0, none⟩ (.slice A2 n2 c2)) w.heap.size 54 #[.slice A n c, .slice F m d] := Y.far (by simp; omega) _
  have V1 : Blk (w1.setCell ⟨w.heap.size + 1 + 1, 0, none⟩ (.slice A2 n2 c2)) (w.heap.size + 1) 59 #[.slice none 0 0, .slice none 0 0] := Y1.far (by simp) _
  have V2 : Blk (w1.setCell ⟨w.heap.size + 1 + 1, 0, none⟩ (.slice A2 n2 c2)) (w.heap.size + 1 + 1) 59 #[.slice A2 n2 c2, .slice none 0 0] := Y2.set_ 0 _
  obtain ⟨y0, y1⟩ := Y2.cells2
  obtain ⟨u0, u1⟩ := Y.cells2
  have f0 := Y2.frozen 0
  obtain ⟨v0, v1⟩ := V.cells2
  have hs : (w1.setCell ⟨w.heap.size + 1 + 1, 0, none⟩ (.slice A2 n2 c2)).heap.size = w1.heap.size := by simp [World.setCell]
  clear Y Y1 Y2 ho' hw
  go_wp2_with fail
  refine (toEdgeS_any F m d es _ (ha.re.keep hw2) hm).mono ?_
  rintro e w3 ⟨F3, m3, d3, rfl, ho3, hb3⟩
  have ho4 := ho2.below hb3
  have hw3 := below_then hw2 hb3
  have ho3' : OE w3 (w.heap.size + 1 + 1 + 1) 77 F3 m3 d3 es := ho3.more (by omega)
  have V3 := V2.after hb3
  have X3 := V1.after hb3
  clear ho3 ho2 hb3 V V1 V2 v0 v1 y0 y1 u0 u1 f0 hw2 hs
  have Z3 : Blk (w3.setCell ⟨w.heap.size + 1 + 1, 1, none⟩ (.slice F3 m3 d3)) (w.heap.size + 1 + 1) 59 #[.slice A2 n2 c2, .slice F3 m3 d3] := V3.set_ 1 _
  have Z1 : Blk (w3.setCell ⟨w.heap.size + 1 + 1, 1, none⟩ (.slice F3 m3 d3)) (w.heap.size + 1) 59 #[.slice none 0 0, .slice none 0 0] := X3.far (by simp) _
  obtain ⟨y0, y1⟩ := V3.cells2
  have f1 := V3.frozen 1
  obtain ⟨v0, v1⟩ := Z3.cells2
  obtain ⟨x0, x1⟩ := X3.cells2
  obtain ⟨z0, z1⟩ := Z1.cells2
  have g0 := X3.frozen 0
  have g1 := X3.frozen 1
  go_wp2
  refine bodyPost_ret (v := .agg #[.slice A2 n2 c2, .slice F3 m3 d3]) (by simp [results, Try.results31, go_sem, x0, x1]) rfl ⟨A2, n2, c2, F3, m3, d3, rfl, OG.of ?_ ?_, ?_⟩
  · refine OI.more (B := w.heap.size + 1 + 1 + 1) ?_ (by omega)
    repeat (refine OI.setLow ?_ (by simp <;> omega) _)
    exact ho4
  · refine OE.more (B := w.heap.size + 1 + 1 + 1) ?_ (by omega)
    repeat (refine OE.setLow ?_ (by simp <;> omega) _)
    exact ho3'
  · repeat (refine Below.setCell ?_ (by simp <;> omega) _)
    exact hw3
set_option maxHeartbeats 400000 in
theorem eqGraph_same (A F : Option Addr) (n c m d : Nat) (A' F' : Option Addr) (n' c' m' d' : Nat) (cs : List Int) (es : List Ed) (w : World) (ha : RG w A n F m cs es) (hb : RG w A' n' F' m' cs es) (hn : n ≤ 9223372036854775807) (hm : m ≤ 9223372036854775807) (hn' : n' ≤ 9223372036854775807) :
    Calls Try.prog 33 #[.agg #[.slice A n c, .slice F m d], .agg #[.slice A' n' c', .slice F' m' d']] w fun e w' => e = .returned (.bool true) ∧ Below w.heap.size w w' := by
  have hb2 := below_then (below_alloc w (.cells #[.slice A n c, .slice F m d] 59)) (below_alloc (w.alloc (.cells #[.slice A n c, .slice F m d] 59)) (.cells #[.slice A' n' c', .slice F' m' d'] 59))
  have ha' := ha.keep hb2
  have hb' := hb.keep hb2
  have X := (Blk.new w 59 #[.slice A n c, .slice F m d]).alloc (.cells #[.slice A' n' c', .slice F' m' d'] 59)
  have Y : Blk ((w.alloc (.cells #[.slice A n c, .slice F m d] 59)).alloc (.cells #[.slice A' n' c', .slice F' m' d'] 59)) (w.heap.size + 1) 59 #[.slice A' n' c', .slice F' m' d'] := by
    have := Blk.new (w.alloc (.cells #[.slice A n c, .slice F m d] 59)) 59 #[.slice A' n' c', .slice F' m' d']
    simpa using this
  clear ha hb
  go_enter Try.func33, Try.ntmps33
  go_wp2_with fail
  refine (eqInt64S_any _ _ _ _ _ _ cs cs _ ha'.ri hb'.ri hn hn').mono ?_
  rintro e w1 ⟨rfl, hd1⟩
  rw [show decide (cs = cs) = true from by simp]
  obtain ⟨x0, x1⟩ := (X.after hd1.below).cells2
  obtain ⟨y0, y1⟩ := (Y.after hd1.below).cells2
  have ha2 := ha'.keep hd1.below
  have hb3 := hb'.keep hd1.below
  have hw := below_then hb2 hd1.below
  clear X Y ha' hb' hb2
  go_wp2_with fail
  refine (eqEdgeS_same _ _ _ _ _ _ es _ ha2.re hb3.re hm).mono ?_
  rintro e w2 ⟨rfl, hb4⟩
  go_wp2
  go_ret
  exact ⟨rfl, below_then hw hb4⟩
set_option maxHeartbeats 400000 in
theorem markGraph_any (B D : Nat) (A F : Option Addr) (n c m d k : Nat) (cs : List Int) (es : List Ed) (w : World) (ha : OG w B D A n c F m d cs es) (hk : k + n + 2 * m ≤ 4611686018427387904) :
    Calls Try.prog 34 #[.agg #[.slice A n c, .slice F m d], .int .i64 k] w fun en w' => en = .returned (.int .i64 ((k + n + 2 * m : Nat) : Int)) ∧ OG w' B D A n c F m d (marks k n) (marksE (k + n) m) ∧ Mid w w' B D := by
  have hb := below_alloc w (.cells #[.slice A n c, .slice F m d] 59)
  have X := Blk.new w 59 #[.slice A n c, .slice F m d]
  have ho := ha.below hb
  go_enter Try.func34, Try.ntmps34
  go_wp2_with fail
  refine (markInt64S_own B _ A n c k cs _ ho.oi (by omega)).mono ?_
  rintro e w1 ⟨rfl, ho1, hg1⟩
  have hm1 : Mid w w1 B D := (Mid.of_below hb (Nat.le_refl _) B D).trans (Mid.grown hg1 fun b hb => ⟨(ho.oi.os.lt hb).1, ho.la b hb⟩)
  have oe1 := ho.oe.kept hg1 ha.apart'
  have X1 := X.grown hg1 (fun e => by have := (ho.oi.os.lt e.symm).2; have := (ha.oi.os.lt e.symm).2; omega)
  obtain ⟨x0, x1⟩ := X1.cells2
  have hkn : k + n + 2 * m ≤ 4611686018427387904 := hk
  generalize hq : k + n = q at *
  have HQ := Lib.hid hq; clear hq
  go_wp2_with fail
  refine (markEdgeS_own B _ F m d q es _ oe1 (by omega)).mono ?_
  rintro e w2 ⟨rfl, ho2, hg2⟩
  have hm2 := hm1.trans (Mid.grown hg2 fun b hb => ⟨(oe1.os.lt hb).1, ho.lf b hb⟩)
  have oi2 := ho1.kept hg2 ha.apart
  go_wp2
  go_ret
  exact ⟨ret_int (by have := HQ.out; omega), ⟨oi2, by rw [HQ.out]; exact ho2, ha.la, ha.lf⟩, hm2⟩
end Go.Proofs.Ytainkgckahcdnaa
