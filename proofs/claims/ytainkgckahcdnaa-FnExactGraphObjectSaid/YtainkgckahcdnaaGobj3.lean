/- Graphs as objects, on the program's side. No condition beyond those stated. -/
import Derived.Test.YtainkgckahcdnaaGobj
import Derived.Deep.AppendLies
namespace Go.Proofs.Ytainkgckahcdnaa
open Go.RowKit

/-- the variables of the program's call that makes an object of a graph -/
structure GI (w : World) (A F : Option Addr) (n c m d bo : Nat) (R : Option Addr) (k q : Nat) (w' : World) : Prop where
  b : Below w.heap.size w w'
  x : Blk w' w.heap.size 59 #[.slice A n c, .slice F m d]
  r : Blk w' (w.heap.size + 1) 25 #[.int .i64 0, .int .i64 0, .slice none 0 0]
  o : Blk w' bo 25 #[.int .i64 6, .int .i64 n, .slice R k q]
theorem GI.step {w w' w'' : World} {A F R : Option Addr} {n c m d bo k q : Nat} (h : GI w A F n c m d bo R k q w') (hb : Below w'.heap.size w' w'') : GI w A F n c m d bo R k q w'' := ⟨h.b.trans (hb.mono h.b.size), h.x.after hb, h.r.after hb, h.o.after hb⟩
theorem GI.grown {w w' w'' : World} {A F R : Option Addr} {n c m d bo k q : Nat} {t : Option Nat} (h : GI w A F n c m d bo R k q w') (hg : w'.grownBy w'' t) (hbo : w.heap.size + 1 + 1 ≤ bo) (hr : ∀ b, t = some b → bo + 1 ≤ b) : GI w A F n c m d bo R k q w'' :=
  ⟨h.b.grown hg h.b.size (fun b hb => by have := hr b hb; omega), h.x.grown hg (fun e => by have := hr _ e.symm; omega), h.r.grown hg (fun e => by have := hr _ e.symm; omega), h.o.grown hg (fun e => by have := hr _ e.symm; omega)⟩
theorem GI.put {w w' : World} {A F R R' : Option Addr} {n c m d bo k q k' q' : Nat} (h : GI w A F n c m d bo R k q w') (hbo : w.heap.size + 1 + 1 ≤ bo) : GI w A F n c m d bo R' k' q' (w'.setCell ⟨bo, 2, none⟩ (.slice R' k' q')) := by
  have hg : w'.grownBy (w'.setCell ⟨bo, 2, none⟩ (.slice R' k' q')) (some bo) := grown_set
  exact ⟨h.b.setCell (by simp; omega) _, h.x.grown hg (fun e => by simp at e; omega), h.r.grown hg (fun e => by simp at e; omega), h.o.set_ 2 _⟩
theorem push_pair' {wr w3 : World} {B : Nat} {e2 e1 : TypeId} {A' : Option Addr} {k c' G cap : Nat} {vs : List Sl} {zss : List (List Int)} {x y : Int} (hov : ORv wr B e2 e1 A' k c' vs zss) (hB : B ≤ wr.heap.size) (hx : I64 x) (hy : I64 y)
    (hg : ((wr.alloc (.cells #[.int .i64 x, .int .i64 y] e1)).alloc (.cells #[.slice (some ⟨wr.heap.size, 0, none⟩) 2 2] e2)).grownBy w3 (Value.slice A' k c').ownBlock)
    (hown : w3.ownsRow B e2 1 (.slice (some ⟨G, 0, none⟩) (k + 1) cap) (k + 1) (vs.map slv ++ [.slice (some ⟨wr.heap.size, 0, none⟩) 2 2])) : OR w3 B e2 e1 (some ⟨G, 0, none⟩) (k + 1) cap (zss ++ [[x, y]]) := by
  have hb : Below wr.heap.size wr ((wr.alloc (.cells #[.int .i64 x, .int .i64 y] e1)).alloc (.cells #[.slice (some ⟨wr.heap.size, 0, none⟩) 2 2] e2)) := (below_alloc wr _).alloc (by simp) _
  have hp : OI ((wr.alloc (.cells #[.int .i64 x, .int .i64 y] e1)).alloc (.cells #[.slice (some ⟨wr.heap.size, 0, none⟩) 2 2] e2)) B e1 (some ⟨wr.heap.size, 0, none⟩) 2 2 [x, y] := (OI.pair wr B e1 hB hx hy).alloc _
  rw [ownBlock_slice] at hg
  exact (hov.below hb).push (v := (some ⟨wr.heap.size, 0, none⟩, 2, 2)) hp (hov.apart_new fun b hb => by simp [blk] at hb; omega) hg hown
theorem newsAt3 (wr : World) (a b c : Array Value) (e1 e2 e3 : TypeId) : (((wr.alloc (.cells a e1)).alloc (.cells b e2)).alloc (.cells c e3)).heap[wr.heap.size + 1 + 1]? = some (.cells c e3 (0, 0)) := by
  have := heap_alloc_new ((wr.alloc (.cells a e1)).alloc (.cells b e2)) (.cells c e3)
  have hz : ((wr.alloc (.cells a e1)).alloc (.cells b e2)).heap.size = wr.heap.size + 1 + 1 := by simp
  rw [hz] at this
  exact this
set_option maxRecDepth 100000 in
set_option maxHeartbeats 4000000 in
theorem impl_GraphObject_zero (A : Option Addr) (n c : Nat) (F : Option Addr) (m d : Nat) (cs : List Int) (es : List Ed) (w : World) (ha : RG w A n F m cs es) (hn : n ≤ 9223372036854775807) (hok : GraphOk cs es) (K S C : Int) (Z : List (List Int))
    (hyes : allZero cs → K = 6 ∧ S = n ∧ Z = rowsOf es ∧ C = 0) (hno : ¬ allZero cs → K = 0 ∧ S = 0 ∧ Z = [] ∧ C = 6) :
    Calls Try.prog 32 #[.agg #[.slice A n c, .slice F m d]] w (RetOC w K S Z C) := by
  have hyes' := Lib.hid hyes; have hno' := Lib.hid hno
  clear hyes hno
  have hla := Lib.hid ha.ri.len
  have hlb := Lib.hid ha.re.len
  have hm : m ≤ 512 := by rw [← hlb.out]; exact hok.elen
  have hb0 := below_alloc w (.cells #[.slice A n c, .slice F m d] 59)
  have hb1 := below_then hb0 (below_alloc (w.alloc (.cells #[.slice A n c, .slice F m d] 59)) (.cells #[.int .i64 0, .int .i64 0, .slice none 0 0] 25))
  have R : Blk ((w.alloc (.cells #[.slice A n c, .slice F m d] 59)).alloc (.cells #[.int .i64 0, .int .i64 0, .slice none 0 0] 25)) (w.heap.size + 1) 25 #[.int .i64 0, .int .i64 0, .slice none 0 0] := by
    have := Blk.new (w.alloc (.cells #[.slice A n c, .slice F m d] 59)) 25 #[.int .i64 0, .int .i64 0, .slice none 0 0]
    simpa using this
  have X := (Blk.new w 59 #[.slice A n c, .slice F m d]).alloc (.cells #[.int .i64 0, .int .i64 0, .slice none 0 0] 25)
  have zs : ((w.alloc (.cells #[.slice A n c, .slice F m d] 59)).alloc (.cells #[.int .i64 0, .int .i64 0, .slice none 0 0] 25)).heap.size = w.heap.size + 1 + 1 := by simp
  have hv := validGraph_any A n c F m d cs es _ (ha.keep hb1) hn (by omega)
  rw [tB_yes hok] at hv
  go_enter Try.func32, Try.ntmps32
  go_wp2_with fail
  refine hv.mono ?_
  rintro e w1 ⟨rfl, hb⟩
  have R1 := R.after hb
  have X1 := X.after hb
  have hw := below_then hb1 hb
  have z := hb.size
  rw [zs] at z
  clear hb hb1 hb0 hv R X zs
  obtain ⟨x0, x1⟩ := X1.cells2
  have hz := isZero_any A n c cs w1 ((ha.keep hw).ri) hn
  by_cases hall : allZero cs
  · rw [tB_yes hall] at hz
    obtain ⟨rfl, rfl, rfl, rfl⟩ := hyes'.out hall
    clear hyes' hno'
    have X2 := X1.alloc (.cells #[.int .i64 6, .int .i64 n, .slice none 0 0] 25)
    have R2 := R1.alloc (.cells #[.int .i64 6, .int .i64 n, .slice none 0 0] 25)
    have O2 := Blk.new w1 25 #[.int .i64 6, .int .i64 n, .slice none 0 0]
    have hw2 := below_then hw (below_alloc w1 (.cells #[.int .i64 6, .int .i64 n, .slice none 0 0] 25))
    obtain ⟨x2, x3⟩ := X2.cells2
    have hI : GI w A F n c m d w1.heap.size none 0 0 _ := ⟨hw2, X2, R2, O2⟩
    have zn : w1.heap.size + 1 ≤ (w1.alloc (.cells #[.int .i64 6, .int .i64 n, .slice none 0 0] 25)).heap.size := by simp
    go_wp2_with (first | (go_at_call 53; refine hz.mono ?_; rintro e w' ⟨rfl, rfl⟩) | (go_at_call 54; refine (sizeI_any A n c _ (by omega)).mono ?_; rintro e w' ⟨rfl, rfl⟩))
    clear x0 x1 x2 x3 X1 X2 R1 R2 O2 hz hw hw2
    generalize w1.heap.size = bo at *
    go_loopw [23] (fun i wr => ∃ (k : Nat) (A' : Option Addr) (c' : Nat), i = .int .i64 k ∧ k ≤ m ∧ GI w A F n c m d bo A' k c' wr ∧ OR wr (bo + 1) 51 2 A' k c' (rowsOf (es.take k)) ∧ bo + 1 ≤ wr.heap.size) (fun i _ => m - (intOf i).toNat)
    case atStart => exact ⟨0, _, _, rfl, Nat.zero_le _, hI, OR.nil_ _ _ (by decide), zn⟩
    case round =>
      clear hI zn
      obtain ⟨k, A', c', rfl, hk, hI, ho, hz⟩ := hrel
      by_cases hlt : k < m
      · obtain ⟨g, o, rfl, h1, h2, i1, i2⟩ := (ha.re.keep hI.b).get hlt
        have hst := Lib.hid (rowsOf_take (es := es) (k := k) (by rw [hlb.out]; exact hlt))
        generalize hek : nthE es k = e at *
        have HE := Lib.hid hek; clear hek
        obtain ⟨x, y⟩ := e
        simp only at h1 h2 i1 i2
        obtain ⟨ii, hi, hz0, hz1, hz2⟩ := info_parts ints_info
        obtain ⟨vs, hov⟩ := ho
        have hI1 := hI.step (below_alloc wr (.cells #[.int .i64 x, .int .i64 y] 77))
        obtain ⟨_, _, y2⟩ := hI1.o.cells3
        have hov1 := hov.below (below_alloc wr (.cells #[.int .i64 x, .int .i64 y] 77))
        have hon := ((hov1.os.alloc (.cells #[.int .i64 x, .int .i64 y] 2)).alloc (.cells #[.slice (some ⟨wr.heap.size + 1, 0, none⟩) 2 2] 51))
        have hI2 := (hI1.step (below_alloc _ (.cells #[.int .i64 x, .int .i64 y] 2))).step (below_alloc _ (.cells #[.slice (some ⟨wr.heap.size + 1, 0, none⟩) 2 2] 51))
        go_wp2_with (at_builtin; refine wpList_append_lies _ rfl _ _ 22 rfl (bo + 1) 51 ii (.slice none 0 0) 1 24 Try.underlying22 hi hz0 hz1 hz2 rfl (by omega) (.slice A' k c') k (vs.map slv) rfl hon ⟨wr.heap.size + 1 + 1, 0, none⟩ 1 1 [.slice (some ⟨wr.heap.size + 1, 0, none⟩) 2 2] rfl rfl (World.news_of_block (cs := #[.slice (some ⟨wr.heap.size + 1, 0, none⟩) 2 2]) (t := 51) (fr := (0, 0)) (newsAt3 wr _ _ _ _ _ _)) (fun u hu => by simp at hu; subst hu; rfl) (by omega) (by unfold maxLen; omega) (by omega) (by simp; omega) (wr.heap.size + 1 + 1 + 1) (by simp) ?_; intro G cap w3 hown3 hgrow3 hat3 hlt3; have hI3 := GI.grown hI2 hgrow3 z (fun b hb => (hov.os.lt (by rw [← ownBlock_slice A' k c']; exact hb)).1); have f2 := hI3.o.frozen 2; have c2 := hI3.o.cells3.2.2)
        have hOR := push_pair' hov1 (by simp; omega) i1 i2 (by simpa using hgrow3) (by simpa using hown3)
        have hz3 := hgrow3.size
        clear hown3 hgrow3 hat3 hlt3 hon hov hov1 hI1 hI2 hI y2 h1 h2
        go_roundw
        case rel => exact ⟨k + 1, _, _, by go_num, by omega, hI3.put z, by rw [hst.out]; exact hOR.setLow (by simp) _, by simp [World.setCell] at hz3 ⊢; omega⟩
        case measure => simp [intOf]; omega
      · have hkm : k = m := by omega
        subst hkm
        have hrows := Lib.hid (show rowsOf (es.take k) = rowsOf es by rw [List.take_of_length_le (Nat.le_of_eq hlb.out)])
        rw [hrows.out] at ho
        clear hk hlt
        have f0 := hI.r.frozen 0
        have f1 := hI.r.frozen 1
        have f2 := hI.r.frozen 2
        obtain ⟨z0, z1, z2⟩ := hI.r.cells3
        obtain ⟨y0, y1, y2⟩ := hI.o.cells3
        have hw := hI.b
        go_wp2
        refine bodyPost_ret (v := .tuple #[.agg #[.int .i64 6, .int .i64 n, .slice A' k c'], .int .i64 0]) (by simp [results, Try.results32, go_sem, z0, z1, z2]) rfl ⟨A', k, c', rfl, ?_, ?_⟩
        · refine OR.more (B := bo + 1) ?_ (by omega)
          repeat (refine OR.setLow ?_ (by simp <;> omega) _)
          exact ho
        · repeat (refine Below.setCell ?_ (by simp <;> omega) _)
          exact hw
  · rw [tB_no hall] at hz
    obtain ⟨rfl, rfl, rfl, rfl⟩ := hno'.out hall
    clear hyes' hno'
    obtain ⟨z0, z1, z2⟩ := R1.cells3
    have f0 := R1.frozen 0
    have f1 := R1.frozen 1
    have f2 := R1.frozen 2
    go_wp2_with (go_at_call 53; refine hz.mono ?_; rintro e w' ⟨rfl, rfl⟩)
    refine bodyPost_ret (v := .tuple #[.agg #[.int .i64 0, .int .i64 0, .slice none 0 0], .int .i64 6]) (by simp [results, Try.results32, go_sem, z0, z1, z2]) rfl ⟨none, 0, 0, rfl, OR.nil_ _ _ (by decide), ?_⟩
    repeat (refine Below.setCell ?_ (by simp <;> omega) _)
    exact hw
set_option maxRecDepth 100000 in
set_option maxHeartbeats 1000000 in
theorem impl_GraphObject_bad (A : Option Addr) (n c : Nat) (F : Option Addr) (m d : Nat) (cs : List Int) (es : List Ed) (w : World) (ha : RG w A n F m cs es) (hn : n ≤ 9223372036854775807) (hm : m ≤ 4611686018427387904) (hok : ¬ GraphOk cs es) :
    Calls Try.prog 32 #[.agg #[.slice A n c, .slice F m d]] w (RetOC w 0 0 [] 1) := by
  have hb0 := below_alloc w (.cells #[.slice A n c, .slice F m d] 59)
  have hb1 := below_then hb0 (below_alloc (w.alloc (.cells #[.slice A n c, .slice F m d] 59)) (.cells #[.int .i64 0, .int .i64 0, .slice none 0 0] 25))
  have R : Blk ((w.alloc (.cells #[.slice A n c, .slice F m d] 59)).alloc (.cells #[.int .i64 0, .int .i64 0, .slice none 0 0] 25)) (w.heap.size + 1) 25 #[.int .i64 0, .int .i64 0, .slice none 0 0] := by
    have := Blk.new (w.alloc (.cells #[.slice A n c, .slice F m d] 59)) 25 #[.int .i64 0, .int .i64 0, .slice none 0 0]
    simpa using this
  have zs : ((w.alloc (.cells #[.slice A n c, .slice F m d] 59)).alloc (.cells #[.int .i64 0, .int .i64 0, .slice none 0 0] 25)).heap.size = w.heap.size + 1 + 1 := by simp
  have hv := validGraph_any A n c F m d cs es _ (ha.keep hb1) hn (by omega)
  rw [tB_no hok] at hv
  go_enter Try.func32, Try.ntmps32
  go_wp2_with fail
  refine hv.mono ?_
  rintro e w1 ⟨rfl, hb⟩
  have R1 := R.after hb
  have hw := below_then hb1 hb
  have z := hb.size
  rw [zs] at z
  clear hb hb1 hb0 hv R zs
  obtain ⟨z0, z1, z2⟩ := R1.cells3
  have f0 := R1.frozen 0
  have f1 := R1.frozen 1
  have f2 := R1.frozen 2
  go_wp2
  refine bodyPost_ret (v := .tuple #[.agg #[.int .i64 0, .int .i64 0, .slice none 0 0], .int .i64 1]) (by simp [results, Try.results32, go_sem, z0, z1, z2]) rfl ⟨none, 0, 0, rfl, OR.nil_ _ _ (by decide), ?_⟩
  repeat (refine Below.setCell ?_ (by simp <;> omega) _)
  exact hw
end Go.Proofs.Ytainkgckahcdnaa
