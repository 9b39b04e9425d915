/- Graphs as objects: the rows of their edges, on both sides. No condition beyond those stated. -/
import Derived.Test.YtainkgckahcdnaaGrok2
import Derived.Test.YtainkgckahcdnaaObj
import Derived.Deep.RegionHeldLaw
import Derived.Deep.AppendLies
namespace Go.Proofs.Ytainkgckahcdnaa
open Go.RowKit

def erow (e : Ed) : List Int := [e.1, e.2]
def rowsOf (es : List Ed) : List (List Int) := es.map erow
theorem rowsOf_len (es : List Ed) : (rowsOf es).length = es.length := by simp [rowsOf]
theorem rowsOf_cells (es : List Ed) : cells (rowsOf es) = 2 * es.length := by
  induction es with
  | nil => rfl
  | cons e r ih =>
    have : rowsOf (e :: r) = [erow e] ++ rowsOf r := rfl
    rw [this, cells_app, ih, cells_one]
    simp [erow]
    omega
theorem rowsOf_take {es : List Ed} {k : Nat} (h : k < es.length) : rowsOf (es.take (k + 1)) = rowsOf (es.take k) ++ [erow (nthE es k)] := by
  rw [List.take_succ_eq_append_getElem h, nthE_get h, rowsOf, List.map_append]
  rfl
def zeroB (x : Int) : Bool := x != 0
def allZero (cs : List Int) : Prop := ∀ k, k < cs.length → nth cs k = 0
theorem zeroB_any (cs : List Int) : (!cs.any zeroB) = tB (allZero cs) := by
  cases h : cs.any zeroB with
  | true =>
    obtain ⟨x, hx, hb⟩ := List.any_eq_true.1 h
    obtain ⟨k, hk, rfl⟩ := List.mem_iff_getElem.1 hx
    rw [tB_no (p := allZero cs) fun hh => ?_]
    · rfl
    · have := hh k hk
      rw [nth_get hk] at this
      rw [zeroB, this] at hb
      cases hb
  | false =>
    rw [tB_yes (p := allZero cs) fun i hi => ?_]
    · rfl
    · rw [List.any_eq_false] at h
      have := h cs[i] (List.getElem_mem hi)
      rw [nth_get hi]
      simpa [zeroB] using this
set_option maxHeartbeats 400000 in
theorem isZero_any (A : Option Addr) (n c : Nat) (cs : List Int) (w : World) (ha : RI w A n cs) (hn : n ≤ 9223372036854775807) :
    Calls Try.prog 53 #[.slice A n c] w fun e w' => e = .returned (.bool (tB (allZero cs))) ∧ w = w' := by
  have eg : ∀ (args : Array Value) (w : World), (callFunc 77 args).run Try.prog w = .ok (.enter 77 args) w := fun _ _ => by kernel_rfl
  have hask : AskIq 77 #[] zeroB w := fun x _ => by
    go_enter Try.func77, Try.ntmps77
    go_wp2
    go_ret
    exact ⟨rfl, rfl⟩
  have H := Lib.hid (zeroB_any cs)
  go_enter Try.func53, Try.ntmps53
  go_wp2_with (go_at_call 60; refine (containsFuncIq _ _ eg zeroB A n c cs _ ha hn hask).mono ?_; rintro e w1 ⟨rfl, rfl⟩)
  go_ret
  exact ⟨by rw [← H.out]; rfl, rfl⟩
theorem OI.pair (w : World) (B : Nat) (e : TypeId) {x y : Int} (hB : B ≤ w.heap.size) (hx : I64 x) (hy : I64 y) : OI (w.alloc (.cells #[.int .i64 x, .int .i64 y] e)) B e (some ⟨w.heap.size, 0, none⟩) 2 2 [x, y] :=
  OI.lit w B e [x, y] hB (by simp) (fun z hz => by
    simp at hz
    rcases hz with rfl | rfl
    · exact hx
    · exact hy)
theorem newsAt (wr : World) (a b : Array Value) (e1 e2 : TypeId) : (((wr.alloc (.cells a e1)).alloc (.cells b e2)).drew).heap[wr.heap.size + 1]? = some (.cells b e2 (0, 0)) := by
  have := heap_alloc_new (wr.alloc (.cells a e1)) (.cells b e2)
  have hz : (wr.alloc (.cells a e1)).heap.size = wr.heap.size + 1 := by simp
  rw [hz] at this
  exact this
theorem push_pair {wr w3 : World} {B : Nat} {e2 e1 : TypeId} {A' : Option Addr} {k c' G cap : Nat} {vs : List Sl} {zss : List (List Int)} {x y : Int} (hov : ORv wr B e2 e1 A' k c' vs zss) (hB : B ≤ wr.heap.size) (hx : I64 x) (hy : I64 y)
    (hg : (((wr.alloc (.cells #[.int .i64 x, .int .i64 y] e1)).alloc (.cells #[.slice (some ⟨wr.heap.size, 0, none⟩) 2 2] e2)).drew).grownBy w3 (Value.slice A' k c').ownBlock)
    (hown : w3.ownsRow B e2 1 (.slice (some ⟨G, 0, none⟩) (k + 1) cap) (k + 1) (vs.map slv ++ [.slice (some ⟨wr.heap.size, 0, none⟩) 2 2])) : OR w3 B e2 e1 (some ⟨G, 0, none⟩) (k + 1) cap (zss ++ [[x, y]]) := by
  have hb : Below wr.heap.size wr (((wr.alloc (.cells #[.int .i64 x, .int .i64 y] e1)).alloc (.cells #[.slice (some ⟨wr.heap.size, 0, none⟩) 2 2] e2)).drew) := ((below_alloc wr _).alloc (by simp) _).trans (below_drewn' _ _ 1)
  have hp : OI (((wr.alloc (.cells #[.int .i64 x, .int .i64 y] e1)).alloc (.cells #[.slice (some ⟨wr.heap.size, 0, none⟩) 2 2] e2)).drew) B e1 (some ⟨wr.heap.size, 0, none⟩) 2 2 [x, y] := ((OI.pair wr B e1 hB hx hy).alloc _).drewN 1
  rw [ownBlock_slice] at hg
  exact (hov.below hb).push (v := (some ⟨wr.heap.size, 0, none⟩, 2, 2)) hp (hov.apart_new fun b hb => by simp [blk] at hb; omega) hg hown
/-- the variables of a call that made an object of a graph -/
structure GS (w : World) (A F : Option Addr) (n c m d : Nat) (w' : World) : Prop where
  b : Below w.heap.size w w'
  x : Blk w' w.heap.size 59 #[.slice A n c, .slice F m d]
  r : Blk w' (w.heap.size + 1) 25 #[.int .i64 0, .int .i64 0, .slice none 0 0]
theorem GS.step {w w' w'' : World} {A F : Option Addr} {n c m d : Nat} (h : GS w A F n c m d w') (hb : Below w'.heap.size w' w'') : GS w A F n c m d w'' := ⟨h.b.trans (hb.mono h.b.size), h.x.after hb, h.r.after hb⟩
theorem GS.grown {w w' w'' : World} {A F : Option Addr} {n c m d : Nat} {r : Option Nat} (h : GS w A F n c m d w') (hg : w'.grownBy w'' r) (hr : ∀ b, r = some b → w.heap.size + 2 ≤ b) : GS w A F n c m d w'' :=
  ⟨h.b.grown hg h.b.size (fun b hb => by have := hr b hb; omega), h.x.grown hg (fun e => by have := hr _ e.symm; omega), h.r.grown hg (fun e => by have := hr _ e.symm; omega)⟩
theorem GS.full {w w' : World} {A F : Option Addr} {n c m d : Nat} {p q : Addr} {u v : Value} (h : GS w A F n c m d w') (h1 : w.cell? p = some u) (h2 : w.cell? q = some v) :
    GS w A F n c m d w' ∧ w'.cell? ⟨w.heap.size, 1, none⟩ = some (.slice F m d) ∧ w'.cell? p = some u ∧ w'.cell? q = some v := ⟨h, h.x.cells2.2, below_cell h.b h1, below_cell h.b h2⟩
set_option maxRecDepth 100000 in
set_option maxHeartbeats 4000000 in
theorem spec_GraphObject_zero (A : Option Addr) (n c : Nat) (F : Option Addr) (m d : Nat) (cs : List Int) (es : List Ed) (w : World) (ha : RG w A n F m cs es) (hn : n ≤ 9223372036854775807) (hok : GraphOk cs es)
    (hj : allZero cs → ∀ W, Below w.heap.size w W → Judge 6 n (rowsOf es) true W) (K S C : Int) (Z : List (List Int))
    (hyes : allZero cs → K = 6 ∧ S = n ∧ Z = rowsOf es ∧ C = 0) (hno : ¬ allZero cs → K = 0 ∧ S = 0 ∧ Z = [] ∧ C = 6) :
    Calls Try.prog 30 #[.agg #[.slice A n c, .slice F m d]] w (RetOC w K S Z C) := by
  have hyes' := Lib.hid hyes; have hno' := Lib.hid hno; have hj' := Lib.hid hj
  clear hyes hno hj
  have hla := Lib.hid ha.ri.len
  have hlb := Lib.hid ha.re.len
  have hm : m ≤ 512 := by rw [← hlb.out]; exact hok.elen
  have hb0 := below_alloc w (.cells #[.slice A n c, .slice F m d] 59)
  have hb1 := below_then hb0 (below_alloc (w.alloc (.cells #[.slice A n c, .slice F m d] 59)) (.cells #[.int .i64 0, .int .i64 0, .slice none 0 0] 25))
  have R : Blk ((w.alloc (.cells #[.slice A n c, .slice F m d] 59)).alloc (.cells #[.int .i64 0, .int .i64 0, .slice none 0 0] 25)) (w.heap.size + 1) 25 #[.int .i64 0, .int .i64 0, .slice none 0 0] := by
    have := Blk.new (w.alloc (.cells #[.slice A n c, .slice F m d] 59)) 25 #[.int .i64 0, .int .i64 0, .slice none 0 0]
    simpa using this
  have X := (Blk.new w 59 #[.slice A n c, .slice F m d]).alloc (.cells #[.int .i64 0, .int .i64 0, .slice none 0 0] 25)
  have zs : ((w.alloc (.cells #[.slice A n c, .slice F m d] 59)).alloc (.cells #[.int .i64 0, .int .i64 0, .slice none 0 0] 25)).heap.size = w.heap.size + 1 + 1 := by simp
  have hv := l21Ok_any A n c F m d cs es _ (ha.keep hb1) hn (by omega)
  rw [tB_yes hok] at hv
  go_enter Try.func30, Try.ntmps30
  go_wp2_with fail
  refine hv.mono ?_
  rintro e w1 ⟨rfl, hb⟩
  have R1 := R.after hb
  have X1 := X.after hb
  have hw := below_then hb1 hb
  have z := hb.size
  rw [zs] at z
  clear hb hb1 hb0 hv R X zs
  obtain ⟨x0, x1⟩ := X1.cells2
  have ho0 := OR.of_own (e1 := 2) (OS.lit w1 (w.heap.size + 1 + 1) 51 1 0 #[] z rfl (by omega)) (by decide)
  have hb2 := below_alloc w1 (.cells #[] 51)
  have hw0 := below_then hw hb2
  have X2 := X1.after hb2
  have R2 := R1.after hb2
  have z2 : w.heap.size + 1 + 1 ≤ (w1.alloc (.cells #[] 51)).heap.size := by simp; omega
  go_wp2
  go_loopw [4, 5] (fun v i wr => ∃ (k : Nat) (A' : Option Addr) (c' : Nat), i = .int .i64 k ∧ k ≤ m ∧ v = .slice A' k c' ∧ OR wr (w.heap.size + 1 + 1) 51 2 A' k c' (rowsOf (es.take k)) ∧ Below w.heap.size w wr ∧ Blk wr w.heap.size 59 #[.slice A n c, .slice F m d] ∧ Blk wr (w.heap.size + 1) 25 #[.int .i64 0, .int .i64 0, .slice none 0 0] ∧ w.heap.size + 1 + 1 ≤ wr.heap.size) (fun _ i _ => m - (intOf i).toNat)
  case atStart => exact ⟨0, _, _, rfl, Nat.zero_le _, rfl, ho0, hw0, X2, R2, z2⟩
  case round =>
    clear ho0 hw0 X2 R2 z2 x0 x1 hb2 hw X1 R1 z
    obtain ⟨k, A', c', rfl, hk, rfl, ho, hw, hX, hR, hz⟩ := hrel
    obtain ⟨x0, x1⟩ := hX.cells2
    by_cases hlt : k < m
    · obtain ⟨g, o, rfl, h1, h2, i1, i2⟩ := ha.re.get hlt
      have hst := Lib.hid (rowsOf_take (es := es) (k := k) (by rw [hlb.out]; exact hlt))
      generalize hek : nthE es k = e at *
      have HE := Lib.hid hek; clear hek
      obtain ⟨x, y⟩ := e
      simp only at h1 h2 i1 i2
      obtain ⟨ii, hi, hz0, hz1, hz2⟩ := info_parts ints_info
      have hGS : GS w A (some ⟨g, o, none⟩) n c m d wr := ⟨hw, hX, hR⟩
      obtain ⟨vs, hov⟩ := ho
      have hon := ((hov.os.alloc (.cells #[.int .i64 x, .int .i64 y] 2)).alloc (.cells #[.slice (some ⟨wr.heap.size, 0, none⟩) 2 2] 51))
      have hpair := OI.pair wr (w.heap.size + 1 + 1) 2 hz i1 i2
      go_wp2
      clear x0 x1
      go_region_held_law (fun w' => GS w A (some ⟨g, o, none⟩) n c m d w' ∧ w'.cell? ⟨w.heap.size, 1, none⟩ = some (.slice (some ⟨g, o, none⟩) m d) ∧ w'.cell? ⟨g, o + k * 2, none⟩ = some (.int .i64 x) ∧ w'.cell? ⟨g, o + k * 2 + 1, none⟩ = some (.int .i64 y))
        (first | exact (hGS.step (below_drewn _ 1)).full h1 h2 | exact (hGS.step ((below_alloc wr _).trans (below_drewn' _ _ 1))).full h1 h2 | exact (hGS.step (((below_alloc wr _).alloc (by simp) _).trans (below_drewn' _ _ 1))).full h1 h2 | exact (GS.grown (And.left (by assumption)) (by assumption) (fun b hb => (hov.os.lt (by rw [← ownBlock_slice A' k c']; exact hb)).1)).full h1 h2)
        ((refine step_append_lies _ (by rfl) _ _ 22 (by rfl) (w.heap.size + 1 + 1) 51 ii (.slice none 0 0) 1 24 Try.underlying22 hi hz0 hz1 hz2 rfl (by omega) (.slice A' k c') k (vs.map slv) (by rfl) hon ⟨wr.heap.size + 1, 0, none⟩ 1 1 [.slice (some ⟨wr.heap.size, 0, none⟩) 2 2] (by rfl) rfl (World.news_of_block (cs := #[.slice (some ⟨wr.heap.size, 0, none⟩) 2 2]) (t := 51) (fr := (0, 0)) (newsAt wr _ _ _ _)) (fun u hu => by simp at hu; subst hu; rfl) (by omega) (by unfold maxLen; omega) (by omega) (by simp; omega) (wr.heap.size + 1 + 1) (by simp) ?_; intro G cap w3 hown3 hgrow3 hat3 hlt3))
      have hOR := push_pair hov hz i1 i2 hgrow3 hown3
      have hz3 := hgrow3.size
      rename_i hHeld
      obtain ⟨hG3, _, _, _⟩ := hHeld
      clear hown3 hgrow3 hat3 hlt3 hon hpair hov hGS
      go_wp2
      go_roundw
      case rel => exact ⟨k + 1, _, _, by go_num, by omega, rfl, by rw [hst.out]; exact hOR, hG3.b, hG3.x, hG3.r, by simp at hz3; omega⟩
      case measure => simp [intOf]; omega
    · have hkm : k = m := by omega
      subst hkm
      have hrows := Lib.hid (show rowsOf (es.take k) = rowsOf es by rw [List.take_of_length_le (Nat.le_of_eq hlb.out)])
      rw [hrows.out] at ho
      clear hk hlt
      go_wp2
      clear x0 x1
      go_loopw [6] (fun i wr2 => ∃ j : Nat, i = .int .i64 j ∧ j ≤ n ∧ Below wr.heap.size wr wr2 ∧ ∀ i, i < j → nth cs i = 0) (fun i _ => n - (intOf i).toNat)
      case atStart => exact ⟨0, rfl, Nat.zero_le _, Below.refl _ _, fun _ h => absurd h (by omega)⟩
      case round =>
        obtain ⟨j, rfl, hj, hb2, hto⟩ := hrel
        have hw2 := below_then hw hb2
        have hX2 := hX.after hb2
        have hR2 := hR.after hb2
        obtain ⟨x0, x1⟩ := hX2.cells2
        have hz2 := hb2.size
        by_cases hjn : j < n
        · obtain ⟨a, rfl, hca, hia⟩ := (ha.ri.keep hw2).get hjn
          by_cases h0 : nth cs j = 0
          · have H := Lib.hid (show ∀ i, i < j + 1 → nth cs i = 0 from fun i hi => by
              rcases Nat.lt_succ_iff_lt_or_eq.1 hi with h' | h'
              · exact hto i h'
              · rw [h']; exact h0)
            rw [h0] at hca
            clear hto h0 hia
            go_wp2
            go_roundw
            case rel => exact ⟨j + 1, by go_num, by omega, by assumption, H.out⟩
            case measure => simp [intOf]; omega
          · have H := Lib.hid (hno'.out fun hh => h0 (hh j (by rw [hla.out]; exact hjn)))
            generalize nth cs j = z at *
            have hzz : (z != 0) = true := by simpa using h0
            clear hto
            obtain ⟨z0, z1, z2⟩ := hR2.cells3
            have f0 := hR2.frozen 0
            have f1 := hR2.frozen 1
            have f2 := hR2.frozen 2
            go_wp2
            obtain ⟨rfl, rfl, rfl, rfl⟩ := H.out
            refine bodyPost_ret (v := .tuple #[.agg #[.int .i64 0, .int .i64 0, .slice none 0 0], .int .i64 6]) (by simp [results, Try.results30, go_sem, z0, z1, z2]) rfl ⟨none, 0, 0, rfl, OR.nil_ _ _ (by decide), ?_⟩
            repeat (refine Below.setCell ?_ (by simp <;> omega) _)
            exact hw2
        · have hall : allZero cs := fun i hi => hto i (by rw [hla.out] at hi; omega)
          have hes := hok.elen
          have hcap := ho.os_cap
          have hJ := hj'.out hall
          have ho2 := ho.below hb2
          have hcall := l30Make_yes 6 n A' k c' (rowsOf es) _ ho2.reads (by omega) (by rw [rowsOf_cells]; omega) (hJ _ hw2)
          obtain ⟨rfl, rfl, rfl, rfl⟩ := hyes'.out hall
          clear hJ hj' hyes' hno'
          go_wp2_with fail
          refine hcall.mono ?_
          rintro e w3 ⟨A3, n3, c3, rfl, ho3, hb3⟩
          have hw3 := below_then hw2 hb3
          have hR3 := hR2.after hb3
          obtain ⟨z0, z1, z2⟩ := hR3.cells3
          have f0 := hR3.frozen 0
          have f1 := hR3.frozen 1
          have f2 := hR3.frozen 2
          have ho4 : OR w3 (w.heap.size + 1 + 1) 51 2 A3 n3 c3 (rowsOf es) := ho3.more (by omega)
          clear ho3 ho2 ho hcall
          go_wp2
          refine bodyPost_ret (v := .tuple #[.agg #[.int .i64 6, .int .i64 n, .slice A3 n3 c3], .int .i64 0]) (by simp [results, Try.results30, go_sem, z0, z1, z2]) rfl ⟨A3, n3, c3, rfl, ?_, ?_⟩
          · refine OR.more (B := w.heap.size + 1 + 1) ?_ (by omega)
            repeat (refine OR.setLow ?_ (by simp <;> omega) _)
            exact ho4
          · repeat (refine Below.setCell ?_ (by simp <;> omega) _)
            exact hw3
set_option maxRecDepth 100000 in
set_option maxHeartbeats 1000000 in
theorem spec_GraphObject_bad (A : Option Addr) (n c : Nat) (F : Option Addr) (m d : Nat) (cs : List Int) (es : List Ed) (w : World) (ha : RG w A n F m cs es) (hn : n ≤ 9223372036854775807) (hm : m ≤ 4611686018427387904) (hok : ¬ GraphOk cs es) :
    Calls Try.prog 30 #[.agg #[.slice A n c, .slice F m d]] w (RetOC w 0 0 [] 1) := by
  have hb0 := below_alloc w (.cells #[.slice A n c, .slice F m d] 59)
  have hb1 := below_then hb0 (below_alloc (w.alloc (.cells #[.slice A n c, .slice F m d] 59)) (.cells #[.int .i64 0, .int .i64 0, .slice none 0 0] 25))
  have R : Blk ((w.alloc (.cells #[.slice A n c, .slice F m d] 59)).alloc (.cells #[.int .i64 0, .int .i64 0, .slice none 0 0] 25)) (w.heap.size + 1) 25 #[.int .i64 0, .int .i64 0, .slice none 0 0] := by
    have := Blk.new (w.alloc (.cells #[.slice A n c, .slice F m d] 59)) 25 #[.int .i64 0, .int .i64 0, .slice none 0 0]
    simpa using this
  have zs : ((w.alloc (.cells #[.slice A n c, .slice F m d] 59)).alloc (.cells #[.int .i64 0, .int .i64 0, .slice none 0 0] 25)).heap.size = w.heap.size + 1 + 1 := by simp
  have hv := l21Ok_any A n c F m d cs es _ (ha.keep hb1) hn (by omega)
  rw [tB_no hok] at hv
  go_enter Try.func30, Try.ntmps30
  go_wp2_with fail
  refine hv.mono ?_
  rintro e w1 ⟨rfl, hb⟩
  have R1 := R.after hb
  have hw := below_then hb1 hb
  have z := hb.size
  rw [zs] at z
  clear hb hb1 hb0 hv R zs
  obtain ⟨z0, z1, z2⟩ := R1.cells3
  have f0 := R1.frozen 0
  have f1 := R1.frozen 1
  have f2 := R1.frozen 2
  go_wp2
  refine bodyPost_ret (v := .tuple #[.agg #[.int .i64 0, .int .i64 0, .slice none 0 0], .int .i64 1]) (by simp [results, Try.results30, go_sem, z0, z1, z2]) rfl ⟨none, 0, 0, rfl, OR.nil_ _ _ (by decide), ?_⟩
  repeat (refine Below.setCell ?_ (by simp <;> omega) _)
  exact hw
end Go.Proofs.Ytainkgckahcdnaa
