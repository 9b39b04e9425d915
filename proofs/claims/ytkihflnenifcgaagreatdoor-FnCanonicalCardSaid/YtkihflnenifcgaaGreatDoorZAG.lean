/- Graphs: what the laws' own helpers do with them. No condition beyond those stated. -/
import Derived.Test.YtkihflnenifcgaaGreatDoorZAE
import Derived.Test.YtkihflnenifcgaaGreatDoorZAF
import Derived.Test.YtkihflnenifcgaaGreatDoorZAA
set_option linter.unusedVariables false
set_option linter.unusedSimpArgs false
namespace Go.Proofs.YtkihflnenifcgaaGreatDoor
open Go.RowKit

/-- a graph in memory of a call's own, from B on and below D -/
structure OG (w : World) (B D : Nat) (A : Option Addr) (n c : Nat) (F : Option Addr) (m d : Nat) (cs : List Int) (es : List Ed) : Prop where
  oi : OI w B 2 A n c cs
  oe : OE w B 65 F m d es
  la : ∀ b, blk A = some b → b < D
  lf : ∀ b, blk F = some b → b < D
/-- a graph that reads so -/
structure RG (w : World) (A : Option Addr) (n : Nat) (F : Option Addr) (m : Nat) (cs : List Int) (es : List Ed) : Prop where
  ri : RI w A n cs
  re : RE w F m es
section
variable {w w' : World} {B D B' D' : Nat} {A F : Option Addr} {n c m d : Nat} {cs : List Int} {es : List Ed}
theorem RG.keep (h : RG w A n F m cs es) (hb : Below w.heap.size w w') : RG w' A n F m cs es := ⟨h.ri.keep hb, h.re.keep hb⟩
theorem OE.setLow {ty : TypeId} (h : OE w B ty F m d es) {p : Addr} (hp : p.block < B) (u : Value) : OE (w.setCell p u) B ty F m d es := ⟨h.os.setLow hp u, h.all⟩
theorem OG.reads (h : OG w B D A n c F m d cs es) : RG w A n F m cs es := ⟨h.oi.reads, h.oe.reads⟩
theorem OG.mid (h : OG w B D A n c F m d cs es) (hm : Mid w w' B' D') (hd : D' ≤ B ∨ D ≤ B') : OG w' B D A n c F m d cs es :=
  ⟨h.oi.mid hm (fun b hb => by have := (h.oi.os.lt hb).1; have := h.la b hb; omega), h.oe.mid hm (fun b hb => by have := (h.oe.os.lt hb).1; have := h.lf b hb; omega), h.la, h.lf⟩
theorem OG.below (h : OG w B D A n c F m d cs es) (hb : Below w.heap.size w w') : OG w' B D A n c F m d cs es := h.mid (Mid.of_below hb (Nat.le_refl _) 0 0) (.inl (Nat.zero_le _))
theorem OG.of (h : OI w B 2 A n c cs) (k : OE w B 65 F m d es) : OG w B w.heap.size A n c F m d cs es := ⟨h, k, fun _ hb => (h.os.lt hb).2, fun _ hb => (k.os.lt hb).2⟩
theorem OG.apart (h : OG w B D A n c F m d cs es) : blk A = none ∨ blk A ≠ blk F := OS.typed h.oi.os h.oe.os (by decide)
theorem OG.apart' (h : OG w B D A n c F m d cs es) : blk F = none ∨ blk F ≠ blk A := OS.typed h.oe.os h.oi.os (by decide)
end

/-! marks -/
def marksE (k m : Nat) : List Ed := (List.range m).map fun i => (((k + 2 * i : Nat) : Int), ((k + 2 * i + 1 : Nat) : Int))
theorem marksE_len (k m : Nat) : (marksE k m).length = m := by simp [marksE]
theorem marksE_nth {k m i : Nat} (h : i < m) : nthE (marksE k m) i = (((k + 2 * i : Nat) : Int), ((k + 2 * i + 1 : Nat) : Int)) := by simp [nthE, marksE, List.getD, h]
def markedE (k : Nat) (es : List Ed) (j : Nat) : List Ed := marksE k j ++ es.drop j
theorem markedE_zero (k : Nat) (es : List Ed) : markedE k es 0 = es := by simp [markedE, marksE]
theorem markedE_all (k : Nat) (es : List Ed) : markedE k es es.length = marksE k es.length := by simp [markedE]
theorem markedE_step {k : Nat} {es : List Ed} {j : Nat} (h : j < es.length) : (markedE k es j).set j (((k + 2 * j : Nat) : Int), ((k + 2 * j + 1 : Nat) : Int)) = markedE k es (j + 1) := by
  unfold markedE
  rw [List.set_append_right _ _ (by rw [marksE_len]; exact Nat.le_refl _), marksE_len, Nat.sub_self, List.drop_eq_getElem_cons h, List.set_cons_zero]
  simp [marksE, List.range_succ]
set_option maxHeartbeats 400000 in
theorem szEdgeS_any (A : Option Addr) (n c : Nat) (l : Int) (w : World) (hn : n ≤ 9223372036854775807) (h0 : 0 ≤ l) (hl : l ≤ 1048576) :
    Calls Tryz.prog 32 #[.slice A n c, .int .i64 l] w fun e w' => e = .returned (.int .i64 (szF l n)) ∧ w = w' := by
  by_cases h : (n : Int) ≤ l
  · have H := Lib.hid (show szF l n = l - n by simp [szF, h])
    go_enter Tryz.func32, Tryz.ntmps32
    go_wp2
    go_ret
    exact ⟨by rw [H.out]; rfl, rfl⟩
  · have H := Lib.hid (show szF l n = -1 by simp [szF, h])
    go_enter Tryz.func32, Tryz.ntmps32
    go_wp2
    go_ret
    exact ⟨by rw [H.out]; rfl, rfl⟩
set_option maxHeartbeats 400000 in
theorem szGraph_any (l : Int) (A : Option Addr) (n c : Nat) (F : Option Addr) (m d : Nat) (w : World) (hn : n ≤ 9223372036854775807) (hm : m ≤ 9223372036854775807) (h0 : 0 ≤ l) (hl : l ≤ 1048576) :
    Calls Tryz.prog 13 #[.agg #[.slice A n c, .slice F m d], .int .i64 l] w fun e w' => e = .returned (.int .i64 (szF l ((n : Int) + m))) ∧ Below w.heap.size w w' := by
  have hb1 := below_alloc w (.cells #[.slice A n c, .slice F m d] 41)
  by_cases h1 : (n : Int) ≤ l
  · have H1 := Lib.hid (show szF l n = l - n by simp [szF, h1])
    by_cases h2 : (m : Int) ≤ l - n
    · have H2 := Lib.hid (show szF (l - n) m = l - n - m by simp [szF, h2])
      have H := Lib.hid (show szF l ((n : Int) + m) = l - n - m by rw [szF, if_pos (by omega)]; omega)
      go_enter Tryz.func13, Tryz.ntmps13
      go_wp2_with (first
        | (go_at_call 31; refine (szInt64S_any _ _ _ _ _ hn h0 hl).mono ?_; rintro e w1 ⟨rfl, rfl⟩; rw [H1.out])
        | (go_at_call 32; refine (szEdgeS_any _ _ _ _ _ hm (by omega) (by omega)).mono ?_; rintro e w1 ⟨rfl, rfl⟩; rw [H2.out]))
      go_ret
      exact ⟨by rw [H.out]; rfl, hb1⟩
    · have H2 := Lib.hid (show szF (l - n) m = -1 by simp [szF, h2])
      have H := Lib.hid (show szF l ((n : Int) + m) = -1 by rw [szF, if_neg (by omega)])
      clear h2
      go_enter Tryz.func13, Tryz.ntmps13
      go_wp2_with (first
        | (go_at_call 31; refine (szInt64S_any _ _ _ _ _ hn h0 hl).mono ?_; rintro e w1 ⟨rfl, rfl⟩; rw [H1.out])
        | (go_at_call 32; refine (szEdgeS_any _ _ _ _ _ hm (by omega) (by omega)).mono ?_; rintro e w1 ⟨rfl, rfl⟩; rw [H2.out]))
      go_ret
      exact ⟨by rw [H.out]; rfl, hb1⟩
  · have H1 := Lib.hid (show szF l n = -1 by simp [szF, h1])
    have H := Lib.hid (show szF l ((n : Int) + m) = -1 by rw [szF, if_neg (by omega)])
    clear h1
    go_enter Tryz.func13, Tryz.ntmps13
    go_wp2_with (go_at_call 31; refine (szInt64S_any _ _ _ _ _ hn h0 hl).mono ?_; rintro e w1 ⟨rfl, rfl⟩; rw [H1.out])
    go_ret
    exact ⟨by rw [H.out]; rfl, hb1⟩
/-- a graph in memory of its own -/
def RetG (w : World) (cs : List Int) (es : List Ed) (en : Ending) (w' : World) : Prop :=
  ∃ A n c F m d, en = .returned (.agg #[.slice A n c, .slice F m d]) ∧ OG w' w.heap.size w'.heap.size A n c F m d cs es ∧ Below w.heap.size w w'
set_option maxHeartbeats 1000000 in
theorem toGraph_any (A : Option Addr) (n c : Nat) (F : Option Addr) (m d : Nat) (cs : List Int) (es : List Ed) (w : World) (ha : RG w A n F m cs es) (hn : n ≤ 1099511627776) (hm : m ≤ 1099511627776) :
    Calls Tryz.prog 15 #[.agg #[.slice A n c, .slice F m d]] w (RetG w cs es) := by
  have hb1 := below_alloc w (.cells #[.slice A n c, .slice F m d] 41)
  go_enter Tryz.func15, Tryz.ntmps15
  go_wp2_with fail
  refine (toInt64S_any A n c cs _ (ha.ri.keep ((hb1.alloc (by simp) _).alloc (by simp; omega) _)) hn).mono ?_
  rintro e w1 ⟨A2, n2, c2, rfl, ho, hb⟩
  have Y := (((Blk.new w 41 #[.slice A n c, .slice F m d]).alloc (.cells #[.slice none 0 0, .slice none 0 0] 27)).alloc (.cells #[.slice none 0 0, .slice none 0 0] 27)).after hb
  have Y1 : Blk w1 (w.heap.size + 1) 27 #[.slice none 0 0, .slice none 0 0] := by
    have := ((Blk.new (w.alloc (.cells #[.slice A n c, .slice F m d] 41)) 27 #[.slice none 0 0, .slice none 0 0]).alloc (.cells #[.slice none 0 0, .slice none 0 0] 27)).after hb
    simpa using this
  have Y2 : Blk w1 (w.heap.size + 1 + 1) 27 #[.slice none 0 0, .slice none 0 0] := by
    have := (Blk.new ((w.alloc (.cells #[.slice A n c, .slice F m d] 41)).alloc (.cells #[.slice none 0 0, .slice none 0 0] 27)) 27 #[.slice none 0 0, .slice none 0 0]).after hb
    simpa using this
  have ho' : OI w1 (w.heap.size + 1 + 1 + 1) 2 A2 n2 c2 cs := by simpa using ho
  have hw : Below w.heap.size w w1 := ((hb1.alloc (by simp) _).alloc (by simp; omega) _).trans (hb.mono (by simp; omega))
  have hz := hb.size
  simp at hz
  clear ho hb hb1
  have ho2 : OI (w1.setCell ⟨w.heap.size + 1 + 1, 0, none⟩ (.slice A2 n2 c2)) (w.heap.size + 1 + 1 + 1) 2 A2 n2 c2 cs := ho'.setLow (by simp) _
  have hw2 : Below w.heap.size w (w1.setCell ⟨w.heap.size + 1 + 1, 0, none⟩ (.slice A2 n2 c2)) := hw.setCell (by simp; omega) _
  have V : Blk (w1.setCell ⟨w.heap.size + 1 + 1, 0, none⟩ (.slice A2 n2 c2)) w.heap.size 41 #[.slice A n c, .slice F m d] := Y.far (by simp; omega) _
  have V1 : Blk (w1.setCell ⟨w.heap.size + 1 + 1, 0, none⟩ (.slice A2 n2 c2)) (w.heap.size + 1) 27 #[.slice none 0 0, .slice none 0 0] := Y1.far (by simp) _
  have V2 : Blk (w1.setCell ⟨w.heap.size + 1 + 1, 0, none⟩ (.slice A2 n2 c2)) (w.heap.size + 1 + 1) 27 #[.slice A2 n2 c2, .slice none 0 0] := Y2.set_ 0 _
  obtain ⟨y0, y1⟩ := Y2.cells2
  obtain ⟨u0, u1⟩ := Y.cells2
  have f0 := Y2.frozen 0
  obtain ⟨v0, v1⟩ := V.cells2
  have hs : (w1.setCell ⟨w.heap.size + 1 + 1, 0, none⟩ (.slice A2 n2 c2)).heap.size = w1.heap.size := by simp [World.setCell]
  clear Y Y1 Y2 ho' hw
  go_wp2_with fail
  refine (toEdgeS_any F m d es _ (ha.re.keep hw2) hm).mono ?_
  rintro e w3 ⟨F3, m3, d3, rfl, ho3, hb3⟩
  have ho4 := ho2.below hb3
  have hw3 := below_then hw2 hb3
  have ho3' : OE w3 (w.heap.size + 1 + 1 + 1) 65 F3 m3 d3 es := ho3.more (by omega)
  have V3 := V2.after hb3
  have X3 := V1.after hb3
  clear ho3 ho2 hb3 V V1 V2 v0 v1 y0 y1 u0 u1 f0 hw2 hs
  have Z3 : Blk (w3.setCell ⟨w.heap.size + 1 + 1, 1, none⟩ (.slice F3 m3 d3)) (w.heap.size + 1 + 1) 27 #[.slice A2 n2 c2, .slice F3 m3 d3] := V3.set_ 1 _
  have Z1 : Blk (w3.setCell ⟨w.heap.size + 1 + 1, 1, none⟩ (.slice F3 m3 d3)) (w.heap.size + 1) 27 #[.slice none 0 0, .slice none 0 0] := X3.far (by simp) _
  obtain ⟨y0, y1⟩ := V3.cells2
  have f1 := V3.frozen 1
  obtain ⟨v0, v1⟩ := Z3.cells2
  obtain ⟨x0, x1⟩ := X3.cells2
  obtain ⟨z0, z1⟩ := Z1.cells2
  have g0 := X3.frozen 0
  have g1 := X3.frozen 1
  go_wp2
  refine bodyPost_ret (v := .agg #[.slice A2 n2 c2, .slice F3 m3 d3]) (by simp [results, Tryz.results15, go_sem, x0, x1]) rfl ⟨A2, n2, c2, F3, m3, d3, rfl, OG.of ?_ ?_, ?_⟩
  · refine OI.more (B := w.heap.size + 1 + 1 + 1) ?_ (by omega)
    repeat (refine OI.setLow ?_ (by simp <;> omega) _)
    exact ho4
  · refine OE.more (B := w.heap.size + 1 + 1 + 1) ?_ (by omega)
    repeat (refine OE.setLow ?_ (by simp <;> omega) _)
    exact ho3'
  · repeat (refine Below.setCell ?_ (by simp <;> omega) _)
    exact hw3
set_option maxHeartbeats 400000 in
theorem eqGraph_same (A F : Option Addr) (n c m d : Nat) (A' F' : Option Addr) (n' c' m' d' : Nat) (cs : List Int) (es : List Ed) (w : World) (ha : RG w A n F m cs es) (hb : RG w A' n' F' m' cs es) (hn : n ≤ 9223372036854775807) (hm : m ≤ 9223372036854775807) (hn' : n' ≤ 9223372036854775807) :
    Calls Tryz.prog 16 #[.agg #[.slice A n c, .slice F m d], .agg #[.slice A' n' c', .slice F' m' d']] w fun e w' => e = .returned (.bool true) ∧ Below w.heap.size w w' := by
  have hb2 := below_then (below_alloc w (.cells #[.slice A n c, .slice F m d] 27)) (below_alloc (w.alloc (.cells #[.slice A n c, .slice F m d] 27)) (.cells #[.slice A' n' c', .slice F' m' d'] 27))
  have ha' := ha.keep hb2
  have hb' := hb.keep hb2
  have X := (Blk.new w 27 #[.slice A n c, .slice F m d]).alloc (.cells #[.slice A' n' c', .slice F' m' d'] 27)
  have Y : Blk ((w.alloc (.cells #[.slice A n c, .slice F m d] 27)).alloc (.cells #[.slice A' n' c', .slice F' m' d'] 27)) (w.heap.size + 1) 27 #[.slice A' n' c', .slice F' m' d'] := by
    have := Blk.new (w.alloc (.cells #[.slice A n c, .slice F m d] 27)) 27 #[.slice A' n' c', .slice F' m' d']
    simpa using this
  clear ha hb
  go_enter Tryz.func16, Tryz.ntmps16
  go_wp2_with fail
  refine (eqInt64S_any _ _ _ _ _ _ cs cs _ ha'.ri hb'.ri hn hn').mono ?_
  rintro e w1 ⟨rfl, hd1⟩
  rw [show decide (cs = cs) = true from by simp]
  obtain ⟨x0, x1⟩ := (X.after hd1.below).cells2
  obtain ⟨y0, y1⟩ := (Y.after hd1.below).cells2
  have ha2 := ha'.keep hd1.below
  have hb3 := hb'.keep hd1.below
  have hw := below_then hb2 hd1.below
  clear X Y ha' hb' hb2
  go_wp2_with fail
  refine (eqEdgeS_same _ _ _ _ _ _ es _ ha2.re hb3.re hm).mono ?_
  rintro e w2 ⟨rfl, hb4⟩
  go_wp2
  go_ret
  exact ⟨rfl, below_then hw hb4⟩
end Go.Proofs.YtkihflnenifcgaaGreatDoor
/- Plain mathematics of the objects: matrices with two signs, permutations, sets of points, lists in order. No program in sight. -/
namespace Go.Proofs.YtkihflnenifcgaaGreatDoor

noncomputable def tB (p : Prop) : Bool := @decide p (Classical.propDecidable p)
theorem tB_yes {p : Prop} (h : p) : tB p = true := by unfold tB; exact @decide_eq_true p (Classical.propDecidable p) h
theorem tB_no {p : Prop} (h : ¬ p) : tB p = false := by unfold tB; exact @decide_eq_false p (Classical.propDecidable p) h
theorem tB_true {p : Prop} : tB p = true ↔ p := by unfold tB; exact @decide_eq_true_iff p (Classical.propDecidable p)
theorem tB_congr {p q : Prop} (h : p ↔ q) : tB p = tB q := by
  by_cases hp : p
  · rw [tB_yes hp, tB_yes (h.1 hp)]
  · rw [tB_no hp, tB_no (fun hq => hp (h.2 hq))]

/-! matrices with two signs -/
def dotTo (a b : List Int) : Nat → Int
  | 0 => 0
  | k + 1 => dotTo a b k + nth a k * nth b k
def PM (a : List Int) (n : Nat) : Prop := ∀ k, k < n → nth a k = 1 ∨ nth a k = -1
theorem pm_mul {a b : List Int} {n k : Nat} (ha : PM a n) (hb : PM b n) (hk : k < n) : -1 ≤ nth a k * nth b k ∧ nth a k * nth b k ≤ 1 := by
  rcases ha k hk with h | h <;> rcases hb k hk with h' | h' <;> rw [h, h'] <;> omega
theorem dotTo_bd {a b : List Int} {n k : Nat} (ha : PM a n) (hb : PM b n) (hk : k ≤ n) : -(k : Int) ≤ dotTo a b k ∧ dotTo a b k ≤ k := by
  induction k with
  | zero => simp [dotTo]
  | succ k ih =>
    have h1 := ih (by omega)
    have h2 := pm_mul ha hb (show k < n by omega)
    simp only [dotTo]
    omega
def HadRow (h : List (List Int)) (i : Nat) : Prop := (row h i).length = h.length ∧ PM (row h i) h.length
def HadPair (h : List (List Int)) (i k : Nat) : Prop := dotTo (row h i) (row h k) h.length = 0
def Had (h : List (List Int)) : Prop := 1 ≤ h.length ∧ h.length ≤ 32 ∧ (∀ i, i < h.length → HadRow h i) ∧ ∀ i, i < h.length → ∀ k, k < i → HadPair h i k

/-! lists in order -/
def cmpL : List Int → List Int → Int
  | [], [] => 0
  | [], _ :: _ => -1
  | _ :: _, [] => 1
  | x :: xs, y :: ys => if x < y then -1 else if y < x then 1 else cmpL xs ys
theorem cmpL_bd (xs ys : List Int) : -1 ≤ cmpL xs ys ∧ cmpL xs ys ≤ 1 := by
  induction xs generalizing ys with
  | nil => cases ys <;> simp [cmpL]
  | cons x xs ih =>
    cases ys with
    | nil => simp [cmpL]
    | cons y ys =>
      simp only [cmpL]
      split
      · omega
      · split
        · omega
        · exact ih ys
theorem nth_succ (x : Int) (xs : List Int) (k : Nat) : nth (x :: xs) (k + 1) = nth xs k := by simp [nth, List.getD]
theorem nth_zero (x : Int) (xs : List Int) : nth (x :: xs) 0 = x := by simp [nth, List.getD]
/-- the first k places of both lists are there and agree -/
def agree (xs ys : List Int) (k : Nat) : Prop := k ≤ xs.length ∧ k ≤ ys.length ∧ ∀ j, j < k → nth xs j = nth ys j
theorem agree_zero (xs ys : List Int) : agree xs ys 0 := ⟨Nat.zero_le _, Nat.zero_le _, fun _ h => absurd h (by omega)⟩
theorem agree_step {xs ys : List Int} {k : Nat} (h : agree xs ys k) (h1 : k < xs.length) (h2 : k < ys.length) (he : nth xs k = nth ys k) : agree xs ys (k + 1) :=
  ⟨h1, h2, fun j hj => by
    rcases Nat.lt_succ_iff_lt_or_eq.1 hj with h' | h'
    · exact h.2.2 j h'
    · rw [h']; exact he⟩
theorem cmpL_agree {xs ys : List Int} {k : Nat} (h : agree xs ys k) : cmpL xs ys = cmpL (xs.drop k) (ys.drop k) := by
  induction k generalizing xs ys with
  | zero => simp
  | succ k ih =>
    obtain ⟨h1, h2, h3⟩ := h
    cases xs with
    | nil => simp at h1
    | cons x xs =>
      cases ys with
      | nil => simp at h2
      | cons y ys =>
        have e := h3 0 (by omega)
        rw [nth_zero, nth_zero] at e
        subst e
        simp only [cmpL, Int.lt_irrefl, if_false, List.drop_succ_cons]
        refine ih ⟨by simpa using h1, by simpa using h2, fun j hj => ?_⟩
        have := h3 (j + 1) (by omega)
        rwa [nth_succ, nth_succ] at this
theorem cmpL_lt {xs ys : List Int} {k : Nat} (h : agree xs ys k) (h1 : k < xs.length) (h2 : k < ys.length) (he : nth xs k < nth ys k) : cmpL xs ys = -1 := by
  rw [cmpL_agree h, List.drop_eq_getElem_cons h1, List.drop_eq_getElem_cons h2, cmpL, if_pos (by rw [← nth_get h1, ← nth_get h2]; exact he)]
theorem cmpL_gt {xs ys : List Int} {k : Nat} (h : agree xs ys k) (h1 : k < xs.length) (h2 : k < ys.length) (he : nth ys k < nth xs k) : cmpL xs ys = 1 := by
  rw [cmpL_agree h, List.drop_eq_getElem_cons h1, List.drop_eq_getElem_cons h2, cmpL, if_neg (by rw [← nth_get h1, ← nth_get h2]; omega), if_pos (by rw [← nth_get h1, ← nth_get h2]; exact he)]
theorem cmpL_short {xs ys : List Int} (h : agree xs ys xs.length) (h2 : xs.length < ys.length) : cmpL xs ys = -1 := by
  rw [cmpL_agree h, List.drop_eq_getElem_cons h2, List.drop_eq_nil_of_le (Nat.le_refl _)]
  rfl
theorem cmpL_long {xs ys : List Int} (h : agree xs ys ys.length) (h2 : ys.length < xs.length) : cmpL xs ys = 1 := by
  rw [cmpL_agree h, List.drop_eq_getElem_cons h2, List.drop_eq_nil_of_le (Nat.le_refl _)]
  rfl
theorem cmpL_same {xs ys : List Int} (h : agree xs ys xs.length) (h2 : xs.length = ys.length) : cmpL xs ys = 0 := by
  rw [cmpL_agree h, List.drop_eq_nil_of_le (Nat.le_refl _), List.drop_eq_nil_of_le (by omega)]
  rfl
theorem cmpL_zero {xs ys : List Int} (h : cmpL xs ys = 0) : xs = ys := by
  induction xs generalizing ys with
  | nil => cases ys <;> simp [cmpL] at h ⊢
  | cons x xs ih =>
    cases ys with
    | nil => simp [cmpL] at h
    | cons y ys =>
      simp only [cmpL] at h
      split at h
      · simp at h
      · split at h
        · simp at h
        · rw [ih h]
          congr 1
          omega
theorem cmpL_refl (xs : List Int) : cmpL xs xs = 0 := cmpL_same ⟨Nat.le_refl _, Nat.le_refl _, fun _ _ => rfl⟩ rfl
theorem cmpL_swap (xs ys : List Int) : cmpL ys xs = -cmpL xs ys := by
  induction xs generalizing ys with
  | nil => cases ys <;> simp [cmpL]
  | cons x xs ih =>
    cases ys with
    | nil => simp [cmpL]
    | cons y ys =>
      simp only [cmpL]
      by_cases h1 : x < y
      · rw [if_neg (by omega), if_pos h1, if_pos h1]; rfl
      · by_cases h2 : y < x
        · rw [if_pos h2, if_neg h1, if_pos h2]
        · rw [if_neg h2, if_neg h1, if_neg h1, if_neg h2]; exact ih ys
theorem cmpL_trans {xs ys zs : List Int} (h1 : cmpL xs ys ≤ 0) (h2 : cmpL ys zs ≤ 0) : cmpL xs zs ≤ 0 := by
  induction xs generalizing ys zs with
  | nil => cases zs <;> simp [cmpL]
  | cons x xs ih =>
    cases ys with
    | nil => simp [cmpL] at h1
    | cons y ys =>
      cases zs with
      | nil => simp [cmpL] at h2
      | cons z zs =>
        simp only [cmpL] at h1 h2 ⊢
        split at h1
        · split at h2
          · rw [if_pos (by omega)]; omega
          · split at h2
            · omega
            · rw [if_pos (by omega)]; omega
        · split at h1
          · omega
          · split at h2
            · rw [if_pos (by omega)]; omega
            · split at h2
              · omega
              · rw [if_neg (by omega), if_neg (by omega)]
                exact ih h1 h2

/-! permutations -/
structure Perm (p : List Int) : Prop where
  bd : ∀ k, k < p.length → 0 ≤ nth p k ∧ nth p k < p.length
  ne : ∀ i j, i < j → j < p.length → nth p i ≠ nth p j
def PermOk (p : List Int) : Prop := p.length ≤ 32 ∧ Perm p
def Square (a : List (List Int)) : Prop := 1 ≤ a.length ∧ a.length ≤ 10 ∧ (∀ i, i < a.length → (row a i).length = a.length ∧ Perm (row a i)) ∧
  ∀ y, y < a.length → Perm (a.map fun r => nth r y)

/-! sets of points, designs, arrays -/
/-- a list rises from lo on, below hi -/
structure Rises (z : List Int) (lo hi : Int) : Prop where
  bd : ∀ k, k < z.length → lo ≤ nth z k ∧ nth z k ≤ hi
  up : ∀ k, k + 1 < z.length → nth z k < nth z (k + 1)
def Block (z : List Int) (v : Int) : Prop := 0 < z.length ∧ Rises z 0 (v - 1)
structure Design (v : Int) (bs : List (List Int)) : Prop where
  v1 : 1 ≤ v
  v2 : v ≤ 32
  len : bs.length ≤ 128
  blk : ∀ i, i < bs.length → Block (row bs i) v
  ord : ∀ i, i + 1 < bs.length → cmpL (row bs i) (row bs (i + 1)) ≤ 0
structure Array' (l c : Int) (rs : List (List Int)) : Prop where
  l1 : 2 ≤ l
  l2 : l ≤ 16
  c1 : 1 ≤ c
  c2 : c ≤ 8
  len : rs.length ≤ 256
  row : ∀ i, i < rs.length → ((row rs i).length : Int) = c ∧ ∀ k, k < (row rs i).length → 0 ≤ nth (row rs i) k ∧ nth (row rs i) k ≤ l - 1
end Go.Proofs.YtkihflnenifcgaaGreatDoor
