/- One graph of each isomorphism class: the program's side. No condition beyond those stated. -/
import Derived.Test.YtncknfhfkmmhbaaGreatZAW
import Derived.Test.YtncknfhfkmmhbaaGreatZBT
import Derived.Test.YtncknfhfkmmhbaaGreatZBA
import Derived.Deep.LoopGhost
import Derived.Deep.AppendLies
import Derived.Test.YtncknfhfkmmhbaaGreatZAA
import Derived.ProofKit
import Derived.OpenShut
import Derived.Lib.SmallJoins
import Derived.Deep.Matrix
set_option linter.unusedVariables false
set_option linter.unusedSimpArgs false
namespace Go.Proofs.YtncknfhfkmmhbaaGreat
open Go.RowKit

/-- the systems of pairs with t blocks, one of each class -/
def lev (n : Nat) : Nat → List (List (List Int))
  | 0 => [[]]
  | t + 1 => extdP n (lev n t)
def gsP (n t : Nat) : List (List (List Int)) := (List.range t).flatMap (lev n)
theorem gsP_step (n t : Nat) : gsP n (t + 1) = gsP n t ++ lev n t := by unfold gsP; rw [List.range_succ, List.flatMap_append]; simp
/-- rows of two as edges -/
def edL (bs : List (List Int)) : List Ed := bs.map fun r => (nth r 0, nth r 1)
abbrev Gv := Sl × Sl
def gvC (v : Gv) : List Value := [slv v.1, slv v.2]
/-- a graph without colors in memory: its two slices -/
structure RdG (N : Nat) (w : World) (v : Gv) (x : List (List Int)) : Prop where
  c1 : v.1.2.1 ≤ v.1.2.2 ∧ v.1.2.2 ≤ 9223372036854775807
  c2 : v.2.2.1 ≤ v.2.2.2 ∧ v.2.2.2 ≤ 9223372036854775807
  rg : RG w v.1.1 v.1.2.1 v.2.1 v.2.2.1 (List.replicate N 0) (edL x)
structure SG (N : Nat) (w : World) (B : Nat) (A : Option Addr) (n c : Nat) (vs : List Gv) (l : List (List (List Int))) : Prop where
  os : OS w B 36 2 A n c (vs.flatMap gvC)
  len : vs.length = l.length
  rd : ∀ (j : Nat) (v : Gv) (x : List (List Int)), vs[j]? = some v → l[j]? = some x → ∀ w', w.grownBy w' (blk A) → RdG N w' v x
theorem flat_len (vs : List Gv) : (vs.flatMap gvC).length = vs.length * 2 := by
  induction vs with
  | nil => rfl
  | cons v vs ih => rw [List.flatMap_cons, List.length_append, ih, List.length_cons]; simp [gvC]; omega
theorem flat_at (vs : List Gv) : ∀ (j : Nat) (v : Gv), vs[j]? = some v → (vs.flatMap gvC)[j * 2]? = some (slv v.1) ∧ (vs.flatMap gvC)[j * 2 + 1]? = some (slv v.2) := by
  induction vs with
  | nil => intro j v h; simp at h
  | cons u vs ih =>
    intro j v h
    rw [List.flatMap_cons]
    cases j with
    | zero =>
      simp at h
      subst h
      exact ⟨rfl, rfl⟩
    | succ j =>
      simp only [List.getElem?_cons_succ] at h
      obtain ⟨h1, h2⟩ := ih j v h
      rw [show (j + 1) * 2 = j * 2 + 2 by omega]
      refine ⟨?_, ?_⟩
      · rw [List.getElem?_append_right (by simp [gvC])]
        simpa [gvC] using h1
      · rw [List.getElem?_append_right (by simp [gvC])]
        rw [show j * 2 + 2 + 1 - (gvC u).length = j * 2 + 1 by simp [gvC]]
        exact h2
section
variable {N : Nat} {w w' : World} {B : Nat} {A : Option Addr} {n c : Nat} {vs : List Gv} {l : List (List (List Int))}
theorem SG.nil_ (N : Nat) (w : World) (B : Nat) : SG N w B none 0 0 [] [] := ⟨OS.nil_ _ _ _ _, rfl, fun j v x h => by simp at h⟩
theorem SG.slen (h : SG N w B A n c vs l) : l.length = n := by have := h.os.len; rw [flat_len] at this; have := h.len; omega
theorem SG.below (h : SG N w B A n c vs l) (hb : Below w.heap.size w w') : SG N w' B A n c vs l :=
  ⟨h.os.below hb, h.len, fun j v x hv hx w'' hg => h.rd j v x hv hx w'' ((grownBy_of_below hb _).trans hg)⟩
theorem SG.push (h : SG N w B A n c vs l) {v : Gv} {x : List (List Int)} (hv : ∀ w'', w.grownBy w'' (blk A) → RdG N w'' v x) {A' : Option Addr} {c' : Nat} (hos : OS w' B 36 2 A' (n + 1) c' (vs.flatMap gvC ++ gvC v)) (hg : w.grownBy w' (blk A)) (hf : blk A' = blk A ∨ ∃ k, blk A' = some k ∧ w.heap.size ≤ k) :
    SG N w' B A' (n + 1) c' (vs ++ [v]) (l ++ [x]) := by
  have hback : ∀ w'', w'.grownBy w'' (blk A') → w.grownBy w'' (blk A) := fun w'' h2 => grow_past hg h2 (hf.imp id id)
  refine ⟨by simpa using hos, by simp [h.len], fun j u y hu hy w'' h2 => ?_⟩
  rw [List.getElem?_append] at hu hy
  rw [h.len] at hu
  split at hu
  · rename_i hj
    rw [if_pos hj] at hy
    exact h.rd j u y hu hy w'' (hback w'' h2)
  · rename_i hj
    rw [if_neg hj] at hy
    have e0 : j - l.length = 0 := by
      have := (List.getElem?_eq_some_iff.1 hu).1
      simp at this; omega
    rw [e0] at hu hy
    simp at hu hy
    subst hu; subst hy
    exact hv w'' (hback w'' h2)
theorem SG.at_ (h : SG N w B A n c vs l) {j : Nat} (hj : j < n) : ∃ g v x, A = some ⟨g, 0, none⟩ ∧ w.cell? ⟨g, j * 2, none⟩ = some (.slice v.1.1 v.1.2.1 v.1.2.2) ∧ w.cell? ⟨g, j * 2 + 1, none⟩ = some (.slice v.2.1 v.2.2.1 v.2.2.2) ∧ l[j]? = some x ∧ RdG N w v x := by
  have hl := h.slen
  have h1 : j < vs.length := by rw [h.len]; omega
  have h2 : j < l.length := by omega
  obtain ⟨e1, e2⟩ := flat_at vs j _ (List.getElem?_eq_getElem h1)
  obtain ⟨g, rfl, hc, _⟩ := h.os.cell e1
  obtain ⟨g', e, hc2, _⟩ := h.os.cell e2
  injection e with e
  injection e with e
  subst e
  exact ⟨g, vs[j], l[j], rfl, hc, hc2, List.getElem?_eq_getElem h2, h.rd j _ _ (List.getElem?_eq_getElem h1) (List.getElem?_eq_getElem h2) w (World.grownBy.refl _ _)⟩
end
section
variable {ops : Array Oper} {rest : List Oper} {o : Oper} {a : Act} {Q : Exit → Act → World → Prop}
theorem graph_infoG : (Tryz.prog.info? 36).map (fun i => (i.zero, i.size, i.bytes)) = some (some (.agg #[.slice none 0 0, .slice none 0 0]), 2, 48) := by kernel_rfl
theorem app_graph (N : Nat) (w : World) (hgd : o.guard = none) (s x : Operand) (ho : o.op = .call { callee := .builtin .append, args := #[s, x], argTypes := #[25, 25] })
    (B : Nat) (A : Option Addr) (n c : Nat) (vs : List Gv) (l : List (List (List Int))) (hs : a.eval s = .slice A n c) (hown : SG N w B A n c vs l) (v : Gv) (z : List (List Int)) (hv : ∀ w'', w.grownBy w'' (blk A) → RdG N w'' v z)
    (g : Nat) (hx : a.eval x = .slice (some ⟨g, 0, none⟩) 1 1) (hgx : g = w.heap.size) (hbig : n + 1 ≤ 2199023255552) (hB : B ≤ w.heap.size)
    (h : ∀ A' c' w', SG N w' B A' (n + 1) c' (vs ++ [v]) (l ++ [z]) → w.grownBy w' (blk A) → (blk A' = blk A ∨ ∃ k, blk A' = some k ∧ w.heap.size ≤ k) → wpList Tryz.prog ops Q rest (a.put o.dst (.slice A' (n + 1) c')) w') :
    wpList Tryz.prog ops Q (o :: rest) a (w.alloc (.cells #[.slice v.1.1 v.1.2.1 v.1.2.2, .slice v.2.1 v.2.2.1 v.2.2.2] 36)) := by
  subst hgx
  have hb := below_alloc w (.cells #[.slice v.1.1 v.1.2.1 v.1.2.2, .slice v.2.1 v.2.2.1 v.2.2.2] 36)
  have hblk := Blk.new w 36 #[.slice v.1.1 v.1.2.1 v.1.2.2, .slice v.2.1 v.2.2.1 v.2.2.2]
  refine wpList_app _ hgd s x 25 ho 36 (.agg #[.slice none 0 0, .slice none 0 0]) 2 48 Tryz.underlying25 graph_infoG rfl (by omega) (by omega) B A n c (vs.flatMap gvC) hs (hown.os.below hb) (some ⟨w.heap.size, 0, none⟩) 1 1 (gvC v) hx rfl ?_ (fun u hu => ?_) hbig (Nat.le_trans hB hb.size) (fun A' c' w' h1 h2 h3 => ?_)
  · intro j u hu
    refine ⟨_, rfl, ?_⟩
    rw [Addr.add_lit, Nat.zero_add, hblk.cell]
    rcases j with _ | _ | j
    · simpa [gvC, slv] using hu
    · simpa [gvC, slv] using hu
    · simp [gvC] at hu
  · simp only [gvC, List.mem_cons, List.not_mem_nil, or_false] at hu
    rcases hu with rfl | rfl <;> rfl
  · have hg := (grownBy_of_below hb (blk A)).trans h2
    have h3' : blk A' = blk A ∨ ∃ k, blk A' = some k ∧ w.heap.size ≤ k := h3.imp id (fun e => ⟨_, e, hb.size⟩)
    exact h A' c' w' (hown.push hv h1 hg h3') hg h3'
end
/-- a graph under way: what its building wrote -/
structure Lg (n : Nat) (w0 : World) (F : Option Addr) (k d : Nat) (w' : World) : Prop where
  b : Below w0.heap.size w0 w'
  y : Blk w' w0.heap.size 2 (madeCells #[.int .i64 0] n)
  z : Blk w' (w0.heap.size + 1) 36 #[.slice (some ⟨w0.heap.size, 0, none⟩) n n, .slice F k d]
section
variable {n : Nat} {w0 w' w'' : World} {F F' : Option Addr} {k d k' d' : Nat}
theorem Lg.step (h : Lg n w0 F k d w') (hb : Below w'.heap.size w' w'') : Lg n w0 F k d w'' := ⟨h.b.trans (hb.mono h.b.size), h.y.after hb, h.z.after hb⟩
theorem Lg.grown {t : Option Nat} (h : Lg n w0 F k d w') (hg : w'.grownBy w'' t) (hr : ∀ b, t = some b → w0.heap.size + 1 + 1 ≤ b) : Lg n w0 F k d w'' :=
  ⟨h.b.grown hg h.b.size (fun b hb => by have := hr b hb; omega), h.y.grown hg (fun e => by have := hr _ e.symm; omega), h.z.grown hg (fun e => by have := hr _ e.symm; omega)⟩
theorem Lg.put (h : Lg n w0 F k d w') : Lg n w0 F' k' d' (w'.setCell ⟨w0.heap.size + 1, 1, none⟩ (.slice F' k' d')) := by
  have hg : w'.grownBy (w'.setCell ⟨w0.heap.size + 1, 1, none⟩ (.slice F' k' d')) (some (w0.heap.size + 1)) := grown_set
  exact ⟨h.b.setCell (by simp) _, h.y.grown hg (fun e => by simp at e), h.z.set_ 1 _⟩
theorem Lg.start (n : Nat) (w0 : World) : Lg n w0 none 0 0 ((w0.alloc (.cells (madeCells #[.int .i64 0] n) 2)).alloc (.cells #[.slice (some ⟨w0.heap.size, 0, none⟩) n n, .slice none 0 0] 36)) := by
  refine ⟨(below_alloc _ _).alloc (by simp) _, (Blk.new w0 _ _).alloc _, ?_⟩
  have := Blk.new (w0.alloc (.cells (madeCells #[.int .i64 0] n) 2)) 36 #[.slice (some ⟨w0.heap.size, 0, none⟩) n n, .slice none 0 0]
  simpa using this
end
theorem zerosG {w : World} {b n : Nat} (h : Blk w b 2 (madeCells #[.int .i64 0] n)) (hn : n ≤ 9223372036854775807) : RI w (some ⟨b, 0, none⟩) n (List.replicate n 0) := by
  have hO : OI w 0 2 (some ⟨b, 0, none⟩) n n (List.replicate n 0) := by
    refine ⟨⟨by simp [ints], .inr ⟨b, n, _, rfl, Nat.zero_le _, h, Nat.le_refl _, hn, by simp [size_madeCells], ?_⟩⟩, fun z hz => by rw [List.eq_of_mem_replicate hz]; exact ⟨by omega, by omega⟩⟩
    rw [toList_madeCells_one, Nat.mul_one, ints, List.map_replicate]
    exact List.take_of_length_le (by simp)
  exact hO.reads
theorem edL_len (bs : List (List Int)) : (edL bs).length = bs.length := by simp [edL]
theorem edL_nth {bs : List (List Int)} {k : Nat} (h : k < bs.length) : nthE (edL bs) k = (nth (row bs k) 0, nth (row bs k) 1) := by
  rw [nthE_get (by rw [edL_len]; exact h), row_get h]
  simp [edL]
theorem newsAtG (wr : World) (a : Array Value) (e : TypeId) : ((wr.alloc (.cells a e)).drew).heap[wr.heap.size]? = some (.cells a e (0, 0)) := heap_alloc_new wr (.cells a e)
theorem ecells_takeG {es : List Ed} {k : Nat} (h : k < es.length) : ecells (es.take (k + 1)) = ecells (es.take k) ++ [.int .i64 (nthE es k).1, .int .i64 (nthE es k).2] := by
  rw [List.take_succ_eq_append_getElem h, nthE_get h, ecells_app]
  rfl
theorem all64E_takeG {es : List Ed} {k : Nat} (h : All64E (es.take k)) (hk : k < es.length) (hx : I64 (nthE es k).1) (hy : I64 (nthE es k).2) : All64E (es.take (k + 1)) := by
  intro e he
  rw [List.take_succ_eq_append_getElem hk] at he
  rcases List.mem_append.1 he with he | he
  · exact h e he
  · rw [List.mem_singleton.1 he, ← nthE_get hk]
    exact ⟨hx, hy⟩
/-- what the levels are like -/
structure LevOk (n T : Nat) : Prop where
  len : ∀ t, t < T → 0 < (lev n t).length ∧ (lev n t).length ≤ 64
  sys : ∀ t, t < T → ∀ bs ∈ lev n t, SysM n bs ∧ bs.length ≤ 20 ∧ ∀ r ∈ bs, r.length = 2
  last : lev n T = []
set_option maxRecDepth 100000 in
set_option maxHeartbeats 8000000 in
theorem generateGraphs_any (n T : Nat) (w : World) (hn1 : 1 ≤ n) (hn : n ≤ 5) (hT : T ≤ 11) (hl : LevOk n T) :
    Calls Tryz.prog 6 #[.int .i64 n] w (fun e w' => ∃ A k c, e = .returned (.tuple #[.slice A k c, .int .i64 0]) ∧ (∃ vs, SG n w' w.heap.size A k c vs (gsP n T)) ∧ Below w.heap.size w w') := by
  have hin : inB (n : Int) 1 5 = true := by simp [inB]; omega
  have HL := Lib.hid hl
  clear hl
  have hb0 := below_alloc w (.cells #[.slice none 0 0] 46)
  have hr0 : ∀ w'', (w.alloc (.cells #[.slice none 0 0] 46)).grownBy w'' none → RR3 w'' (some ⟨w.heap.size, 0, none⟩) 1 (lev n 0) := by
    intro w'' hg
    have hos := (OS.lit w w.heap.size 46 1 1 #[.slice none 0 0] (Nat.le_refl _) rfl (by omega)).kept hg (.inr (by simp [blk]))
    refine ⟨rfl, fun j x hx => ?_⟩
    cases j with
    | zero =>
      obtain rfl : x = [] := by simpa [lev] using hx.symm
      obtain ⟨g, e, hc, _⟩ := hos.cell (j := 0) (u := .slice none 0 0) rfl
      injection e with e
      injection e with e
      subst e
      exact ⟨_, _, rfl, by rw [Addr.add_lit, Nat.zero_add]; exact hc, (none, 0, 0), rfl, Nat.le_refl 0, by decide, RS.nil_ _ _ _⟩
    | succ j => simp [lev] at hx
  have HR0 := Lib.hid hr0
  clear hr0
  go_enter Tryz.func6, Tryz.ntmps6
  go_wp2_with (go_at_call 14; refine (within_any _ _ _ _).mono ?_; rintro e w' ⟨rfl, rfl⟩; rw [hin])
  go_loopg [4, 5] T (fun g gv sv wr => ∃ (t k : Nat) (GA : Option Addr) (c : Nat) (vs : List Gv) (S : Option Addr) (sn sc : Nat), g + t = T ∧ gv = .slice GA k c ∧ sv = .slice S sn sc ∧ k ≤ 64 * t ∧ SG n wr w.heap.size GA k c vs (gsP n t) ∧ Hid (∀ w'', wr.grownBy w'' (blk GA) → RR3 w'' S sn (lev n t)) ∧ Below w.heap.size w wr)
  case atStart => exact ⟨0, 0, none, 0, [], _, 1, 1, by omega, rfl, rfl, by omega, SG.nil_ _ _ _, HR0, hb0⟩
  case round =>
    clear HR0 hb0
    obtain ⟨t, k, GA, c, vs, S, sn, sc, hgt, rfl, rfl, hkt, hsg, HS, hb⟩ := hrel
    have hsl := (HS.out wr (World.grownBy.refl _ _)).len
    cases gk with
    | zero =>
      obtain rfl : t = T := by omega
      have hz := HL.out.last
      rw [hz] at hsl
      obtain rfl : sn = 0 := by simpa using hsl.symm
      have HG := Lib.hid hsg
      have HBW := Lib.hid hb
      clear hsl hz hsg hb
      go_wp2
      exact bodyPost_ret (v := .tuple #[.slice GA k c, .int .i64 0]) (by simp [results, Tryz.results6, go_sem]) rfl ⟨GA, k, c, rfl, ⟨vs, HG.out⟩, HBW.out⟩
    | succ gk =>
      obtain ⟨hl1, hl2⟩ := HL.out.len t (by omega)
      have HSY := Lib.hid (HL.out.sys t (by omega))
      have HST := Lib.hid (gsP_step n t)
      have HLS : Hid (lev n (t + 1) = extdP n (lev n t)) := Lib.hid rfl
      generalize hL : lev n t = L at *
      clear hL
      generalize gsP n t = done at *
      have HG := Lib.hid hsg
      have hbw := hb.size
      generalize hW : wr = W0 at *
      clear hW
      have HBW := Lib.hid hb
      have hpos : 0 < sn := by omega
      clear hsg hb
      go_wp2
      go_loopw [4, 24] (fun gv jv wr => ∃ (j k' : Nat) (GB : Option Addr) (c' : Nat) (vs' : List Gv), j ≤ sn ∧ jv = .int .i64 j ∧ gv = .slice GB k' c' ∧ k' ≤ k + j ∧ SG n wr w.heap.size GB k' c' vs' (done ++ L.take j) ∧ W0.grownBy wr (blk GA) ∧ (blk GB = blk GA ∨ ∃ b, blk GB = some b ∧ W0.heap.size ≤ b) ∧ Below w.heap.size w wr) (fun _ jv _ => sn - (intOf jv).toNat)
      case atStart => exact ⟨0, k, GA, c, vs, Nat.zero_le _, rfl, rfl, by omega, by simpa using HG.out, World.grownBy.refl _ _, .inl rfl, HBW.out⟩
      case round =>
        obtain ⟨j, k', GB, c', vs', hj, rfl, rfl, hkj, hsg, hgr, hbB, hwb⟩ := hrel
        by_cases hlj : j < sn
        · obtain ⟨ad, B, m, bc, rfl, cB, hm1, hm2, bs, hbs, hrr⟩ := (HS.out wr hgr).get hlj
          obtain ⟨hsm, hsl20, hr2⟩ := HSY.out bs (List.mem_of_getElem? hbs)
          have hbm := hrr.len
          have HSN := Lib.hid (show L.take (j + 1) = L.take j ++ [bs] by
            obtain ⟨hq, rfl⟩ := List.getElem?_eq_some_iff.1 hbs
            exact List.take_succ_eq_append_getElem hq)
          have hmk := run_make_row' (P := Tryz.prog) 33 2 (.int .i64 0) 8 Tryz.underlying33 int_info rfl .i64 .i64 n (by omega) (by omega)
          have hL0 := Lg.start n wr
          generalize hW : wr = W1 at *
          clear hW hbs
          have HR2 := Lib.hid hr2
          have HSG := Lib.hid hsg
          have HGR := Lib.hid hgr
          have HWB := Lib.hid hwb
          clear hr2 hsg hgr hwb hsm
          go_wp2
          clear hmk
          go_loopw [33] (fun iv wi => ∃ (i : Nat) (F : Option Addr) (d : Nat), i ≤ m ∧ iv = .int .i64 i ∧ Lg n W1 F i d wi ∧ OE wi (W1.heap.size + 1 + 1) 48 F i d ((edL bs).take i) ∧ W1.heap.size + 1 + 1 ≤ wi.heap.size) (fun iv _ => m - (intOf iv).toNat)
          case atStart => exact ⟨0, none, 0, Nat.zero_le _, rfl, hL0, OE.nil_ _ _ _, by simp⟩
          case round =>
            clear hL0
            obtain ⟨i, F, d, hi, rfl, hL, hoe, hz⟩ := hrel
            by_cases hlt : i < m
            · obtain ⟨a, R, rn, rc, rfl, hca, hn1', hc1', ha1⟩ := hrr.get hlt
              obtain rfl : rn = 2 := by
                have h1 := HR2.out (row bs i) (by rw [row_get (by omega)]; exact List.getElem_mem _)
                have h2 := ha1.len
                omega
              have hib : i < (edL bs).length := by rw [edL_len]; omega
              have hst := Lib.hid (ecells_takeG hib)
              have hnE := edL_nth (bs := bs) (k := i) (by omega)
              have H64 := Lib.hid (all64E_takeG hoe.all hib (by rw [hnE]; exact (ha1.get (k := 0) (by omega)).choose_spec.2.2) (by rw [hnE]; exact (ha1.get (k := 1) (by omega)).choose_spec.2.2))
              rw [hnE] at hst
              obtain ⟨b, rfl, hc0, i0⟩ := ha1.get (k := 0) (by omega)
              obtain ⟨b', hbb, hc1, i1⟩ := ha1.get (k := 1) (by omega)
              cases hbb
              generalize nth (row bs i) 0 = x at *
              generalize nth (row bs i) 1 = y at *
              have hcx : W1.cell? b = some (.int .i64 x) := by
                have : b.add 0 = b := by simp [Addr.add]
                rw [this] at hc0
                exact hc0
              have hcy : W1.cell? ⟨b.block, b.off + 1, none⟩ = some (.int .i64 y) := by
                have : b.add 1 = ⟨b.block, b.off + 1, none⟩ := by simp [Addr.add]
                rw [← this]
                exact hc1
              have hcar := below_cell hL.b hca
              obtain ⟨ii, hi', hi0, hi1, hi2⟩ := info_parts edge_info
              clear hnE hib hc0 hc1 ha1
              have hS2 : ∀ (w' : World), Lg n W1 F i d w' → Lg n W1 F i d w' ∧ w'.cell? b = some (.int .i64 x) ∧ w'.cell? ⟨b.block, b.off + 1, none⟩ = some (.int .i64 y) ∧ w'.cell? ⟨W1.heap.size + 1, 1, none⟩ = some (.slice F i d) := fun w' h => ⟨h, below_cell h.b hcx, below_cell h.b hcy, h.z.cells2.2⟩
              have HS2 := Lib.hid hS2
              go_wp2
              have q4 := below_cell hL.b hcx
              have q5 := below_cell hL.b hcy
              have q1 := hL.z.cells2.2
              have q6 := (hL.step (below_alloc wr (.cells #[.int .i64 x, .int .i64 y] 48))).z.cells2.2
              clear hS2 hcar hca hcx hcy
              refine region_last (P := Tryz.prog) (S := fun w' => Lg n W1 F i d w' ∧ w'.cell? b = some (.int .i64 x) ∧ w'.cell? ⟨b.block, b.off + 1, none⟩ = some (.int .i64 y) ∧ w'.cell? ⟨W1.heap.size + 1, 1, none⟩ = some (.slice F i d)) (by kernel_rfl) (by simp only [List.getLast?_cons_cons, List.getLast?_singleton]; rfl) (by dsimp only [List.dropLast]) (by kernel_rfl) ?_ ?_
              · exact HS2.out _ (hL.step (below_drewn _ 1))
              intro hS
              refine wpAnyH_take (i := 0) (v := ?_) rfl (by kernel_rfl) (by kernel_rfl) (by kernel_rfl) (fun _ _ _ h => h) (Or.inl ⟨by rfl, ?_⟩) (by assumption) ?_
              rotate_left
              · (intro w hSw; (try dsimp only at hSw); go_simp; (try with_reducible rfl))
              simp only [Act.put, List.setIfInBounds_toArray, List.set_cons_zero, List.set_cons_succ]
              refine wpAnyH_take (i := 1) (v := ?_) rfl (by kernel_rfl) (by kernel_rfl) (by kernel_rfl) (fun _ _ _ h => h) (Or.inl ⟨by rfl, ?_⟩) (by assumption) ?_
              rotate_left
              · (intro w hSw; (try dsimp only at hSw); go_simp; (try with_reducible rfl))
              simp only [Act.put, List.setIfInBounds_toArray, List.set_cons_zero, List.set_cons_succ]
              refine wpAnyH_take (i := 2) (v := ?_) rfl (by kernel_rfl) (by kernel_rfl) (by kernel_rfl) (fun _ _ _ h => h) (Or.inl ⟨by rfl, ?_⟩) (by assumption) ?_
              rotate_left
              · (intro w hSw; (try dsimp only at hSw); go_simp; (try with_reducible rfl))
              simp only [Act.put, List.setIfInBounds_toArray, List.set_cons_zero, List.set_cons_succ]
              refine wpAnyH_take (i := 3) (v := ?_) rfl (by kernel_rfl) (by kernel_rfl) (by kernel_rfl) (fun _ _ _ h => h) (Or.inl ⟨by rfl, ?_⟩) (by assumption) ?_
              rotate_left
              · (intro w hSw; (try dsimp only at hSw); go_simp; (try with_reducible rfl))
              simp only [Act.put, List.setIfInBounds_toArray, List.set_cons_zero, List.set_cons_succ]
              refine wpAnyH_take (i := 4) (v := ?_) rfl (by kernel_rfl) (by kernel_rfl) (by kernel_rfl) (fun _ _ _ h => h) (Or.inl ⟨by rfl, ?_⟩) (by assumption) ?_
              rotate_left
              · (intro w hSw; (try dsimp only at hSw); go_simp; (try with_reducible rfl))
              simp only [Act.put, List.setIfInBounds_toArray, List.set_cons_zero, List.set_cons_succ]
              refine wpAnyH_take (i := 5) (v := ?_) rfl (by kernel_rfl) (by kernel_rfl) (by kernel_rfl) (fun _ _ _ h => h) (Or.inl ⟨by rfl, ?_⟩) (by assumption) ?_
              rotate_left
              · (intro w hSw; (try dsimp only at hSw); go_simp; (try with_reducible rfl))
              simp only [Act.put, List.setIfInBounds_toArray, List.set_cons_zero, List.set_cons_succ]
              refine wpAnyH_take (i := 6) (v := ?_) rfl (by kernel_rfl) (by kernel_rfl) (by kernel_rfl) (fun _ _ _ h => h) (Or.inl ⟨by rfl, ?_⟩) (by assumption) ?_
              rotate_left
              · (intro w hSw; (try dsimp only at hSw); go_simp; (try with_reducible rfl))
              simp only [Act.put, List.setIfInBounds_toArray, List.set_cons_zero, List.set_cons_succ]
              refine wpAnyH_take (i := 7) (v := ?_) rfl (by kernel_rfl) (by kernel_rfl) (by kernel_rfl) (fun _ _ _ h => h) (Or.inl ⟨by rfl, ?_⟩) (by assumption) ?_
              rotate_left
              · (intro w hSw; (try dsimp only at hSw); go_simp; (try with_reducible rfl))
              simp only [Act.put, List.setIfInBounds_toArray, List.set_cons_zero, List.set_cons_succ]
              refine wpAnyH_take (i := 8) (v := ?_) rfl (by kernel_rfl) (by kernel_rfl) (by kernel_rfl) (fun _ _ _ h => h) (Or.inl ⟨by rfl, ?_⟩) (by assumption) ?_
              rotate_left
              · (intro w hSw; (try dsimp only at hSw); go_simp; (try with_reducible rfl))
              simp only [Act.put, List.setIfInBounds_toArray, List.set_cons_zero, List.set_cons_succ]
              refine wpAnyH_ready (rs := [9]) (by kernel_rfl) (by simp) ?_
              refine AllReadyH.cons rfl (fun K hK => ?_) AllReadyH.nil
              go_simp
              refine hK.out _ _ ?_ (fun hS1 => ?_)
              · exact HS2.out _ (hL.step ((below_alloc wr _).trans (below_drewn' _ _ 1)))
              clear hK K hS
              refine wpAnyH_ready (rs := [10]) (by kernel_rfl) (by simp) ?_
              refine AllReadyH.cons rfl (fun K hK => ?_) AllReadyH.nil
              refine step_append_lies _ (by rfl) _ _ 34 (by rfl) (W1.heap.size + 1 + 1) 48 ii (.agg #[.int .i64 0, .int .i64 0]) 2 16 Tryz.underlying34 hi' hi0 hi1 hi2 rfl (by omega) (.slice F i d) i (ecells ((edL bs).take i)) (by rfl) (hoe.os.alloc (.cells #[.int .i64 x, .int .i64 y] 48)) ⟨wr.heap.size, 0, none⟩ 1 1 [.int .i64 x, .int .i64 y] (by rfl) rfl (World.news_of_block (cs := #[.int .i64 x, .int .i64 y]) (t := 48) (fr := (0, 0)) (newsAtG wr _ _)) (fun u hu => by simp at hu; rcases hu with rfl | rfl <;> rfl) (by omega) (by unfold maxLen; omega) (by omega) (by simp; omega) (wr.heap.size + 1) (by simp) ?_
              intro G cap w3 hown3 hgrow3 hat3 hlt3
              have hL3 := Lg.grown (hL.step ((below_alloc wr (.cells #[.int .i64 x, .int .i64 y] 48)).trans (below_drewn' _ _ 1))) hgrow3 (fun b hb => (hoe.os.lt (by rw [← ownBlock_slice F i d]; exact hb)).1)
              refine hK.out _ _ ?_ (fun hS2 => ?_)
              · exact HS2.out _ hL3
              clear hK K hS1
              refine wpAnyH_take (i := 11) (v := ?_) rfl (by kernel_rfl) (by kernel_rfl) (by kernel_rfl) (fun _ _ _ h => h) (Or.inl ⟨by rfl, ?_⟩) (by assumption) ?_
              rotate_left
              · (intro w hSw; (try dsimp only at hSw); go_simp; (try with_reducible rfl))
              simp only [Act.put, List.setIfInBounds_toArray, List.set_cons_zero, List.set_cons_succ]
              refine wpAnyH_done (by kernel_rfl) ?_ _
              dsimp only [atEnd]
              have fz := hL3.z.frozen 1
              have cz := hL3.z.cells2.2
              clear hS2
              go_wp2
              have hz3 := hgrow3.size
              have hL4 := hL3.put (F' := some ⟨G, 0, none⟩) (k' := i + 1) (d' := cap)
              have hO : OE w3 (W1.heap.size + 1 + 1) 48 (some ⟨G, 0, none⟩) (i + 1) cap ((edL bs).take (i + 1)) := ⟨by rw [hst.out]; exact hown3, H64.out⟩
              clear hown3 hgrow3 hat3 hlt3
              go_roundw
              case rel => exact ⟨i + 1, _, _, by omega, by go_num, hL4, hO.setLow (by simp) _, by simp [World.setCell] at hz3 ⊢; omega⟩
              case measure => simp [intOf]; omega
            · obtain rfl : i = m := by omega
              have hes := Lib.hid (show (edL bs).take i = edL bs by rw [List.take_of_length_le (by rw [edL_len]; omega)])
              rw [hes.out] at hoe
              have HSG1 := Lib.hid (HSG.out.below hL.b)
              have HF1 := Lib.hid (fun b (e : blk GB = some b) => (HSG.out.os.lt e).2)
              have HE0 := Lib.hid hoe
              have HLg := Lib.hid hL
              have hcapE := hoe.os.cap
              obtain ⟨z0, z1⟩ := hL.z.cells2
              have hRd : ∀ w'', wr.grownBy w'' (blk GB) → RdG n w'' ((some ⟨W1.heap.size, 0, none⟩, n, n), (F, i, d)) bs := fun w'' hg => by
                have hy := HLg.out.y.grown hg (fun e => by have := HF1.out _ e.symm; omega)
                have he := HE0.out.kept hg (by
                  cases hF : blk F with
                  | none => exact .inl rfl
                  | some f =>
                    refine .inr fun e => ?_
                    have h1 := (HE0.out.os.lt hF).1
                    have h2 := HF1.out _ e.symm
                    omega)
                exact ⟨⟨Nat.le_refl _, by show n ≤ 9223372036854775807; omega⟩, hcapE, ⟨zerosG (n := n) hy (Nat.le_trans hn (by decide)), he.reads⟩⟩
              have HRD := Lib.hid hRd
              have hbwr := Lib.hid (HWB.out.trans (hL.b.mono HWB.out.size))
              have hbs := hbwr.out.size
              have hgr1 := Lib.hid (grow_past HGR.out (grownBy_of_below hL.b (blk GA)) (.inl rfl))
              clear hRd hoe hL hes
              go_wp2_with (at_builtin; refine app_graph n _ rfl _ _ rfl w.heap.size GB k' c' vs' (done ++ L.take j) rfl HSG1.out ((some ⟨W1.heap.size, 0, none⟩, n, n), (F, i, d)) bs HRD.out _ rfl rfl (by omega) hbs ?_; intro A7 c7 w7 ho7 hg7 hn7)
              refine ⟨⟨j + 1, k' + 1, A7, c7, _, by omega, by go_num, rfl, by omega, by rw [HSN.out, ← List.append_assoc]; exact ho7, grow_past hgr1.out hg7 hbB, hn7.elim (fun e => by rw [e]; exact hbB) (fun ⟨q, e, hq⟩ => .inr ⟨q, e, Nat.le_trans hgr1.out.size hq⟩), hbwr.out.grown hg7 hbs (fun b e => (HSG.out.os.lt e).1)⟩, by simp only [intOf]; omega⟩
        · obtain rfl : j = sn := by omega
          rw [List.take_of_length_le (by omega), ← HST.out] at hsg
          have hex := extended_any (blk GB) n S j sc L wr (fun b e => (hsg.os.lt e).2) (HS.out wr hgr) (by omega) hn1 hn (fun bs hbs => ⟨(HSY.out bs hbs).1, (HSY.out bs hbs).2.1⟩)
          rw [← HLS.out] at hex
          have HSG := Lib.hid hsg
          have HWB := Lib.hid hwb
          clear hsg hwb hgr
          go_wp2_with fail
          refine hex.mono ?_
          rintro e w2 ⟨B2, n2, c2, rfl, hr3, hb2⟩
          have HR3 := Lib.hid hr3
          clear hr3 hex
          go_wp2
          have hkk := HSG.out.slen
          go_roundg gk
          case rel => exact ⟨t + 1, k', GB, c', vs', B2, n2, c2, by omega, rfl, rfl, by omega, HSG.out.below hb2, HR3, HWB.out.trans (hb2.mono HWB.out.size)⟩
          case measure => omega
set_option maxRecDepth 100000 in
theorem generateGraphs_no (n : Int) (w : World) (h : ¬ (1 ≤ n ∧ n ≤ 5)) :
    Calls Tryz.prog 6 #[.int .i64 n] w (fun e w' => e = .returned (.tuple #[.slice none 0 0, .int .i64 2]) ∧ w = w') := by
  have hin : inB n 1 5 = false := by simp [inB]; omega
  go_enter Tryz.func6, Tryz.ntmps6
  go_wp2_with (go_at_call 14; refine (within_any _ _ _ _).mono ?_; rintro e w' ⟨rfl, rfl⟩; rw [hin])
  exact bodyPost_ret (v := .tuple #[.slice none 0 0, .int .i64 2]) (by simp [results, Tryz.results6, go_sem]) rfl ⟨rfl, rfl⟩
end Go.Proofs.YtncknfhfkmmhbaaGreat
/- From the form's reading of an argument to this proof's words: a slice of numbers, of bytes, of slices of numbers. No condition beyond those stated. -/
namespace Go.Proofs.YtncknfhfkmmhbaaGreat
open Go.ChangeShapes Go.WideShapes Go.ChangeAt Go.RowKit Go.Deep

section
variable {H : Type} {enc : TypeId × Value → H} {P : Program} {w : World} {fuel : Nat}
theorem open_RI {t e : TypeId} {v : Value} {x : DataW H × List MemPlace} (ht : P.underlying t = some (.slice e)) (he : P.underlying e = some (.int .i64)) (hc : P.cellsOf e = 1)
    (h : DataW.trod enc P w 0 (fun _ => true) true fuel t [v] = some x) : ∃ A n c zs, v = .slice A n c ∧ n ≤ c ∧ c ≤ 9223372036854775807 ∧ RI w A n zs := by
  rcases open_ints ht he hc h with ⟨hcs, _⟩ | ⟨a, len, cap, zs, hcs, _, hl, hm, hz, _, hcell, hwz⟩
  · simp at hcs
    exact ⟨none, 0, 0, [], hcs, by omega, by omega, RS.nil_ _ _ _⟩
  · simp at hcs hz
    refine ⟨some a, len, cap, zs.take len, hcs, hl, by unfold maxLen at hm; exact hm, ?_, fun j y hy => ?_⟩
    · rw [List.length_take]; omega
    · rw [List.getElem?_take] at hy
      split at hy
      · rename_i hj
        have hj' : j < zs.length := by omega
        have e1 : zs.getD j 0 = y := by simp [List.getD, hy]
        refine ⟨a, _, rfl, hcell j hj', by rw [e1], ?_⟩
        exact I64.of_wf (hwz y (List.mem_of_getElem? hy))
      · cases hy
theorem open_RR {t e q : TypeId} {v : Value} {x : DataW H × List MemPlace} (ht : P.underlying t = some (.slice e)) (he : P.underlying e = some (.slice q)) (hq : P.underlying q = some (.int .i64))
    (ce : P.cellsOf e = 1) (cq : P.cellsOf q = 1) (h : DataW.trod enc P w 0 (fun _ => true) true fuel t [v] = some x) :
    ∃ A n c zss, v = .slice A n c ∧ n ≤ c ∧ c ≤ 9223372036854775807 ∧ RR w A n zss := by
  rcases open_int_rows ht he hq ce cq h with ⟨hcs, _⟩ | ⟨a, len, cap, A, L, C, Z, hcs, _, hl, hm, _, hr⟩
  · simp at hcs
    exact ⟨none, 0, 0, [], hcs, by omega, by omega, RS.nil_ _ _ _⟩
  · simp at hcs
    refine ⟨some a, len, cap, (List.range len).map fun r => (Z r).take (L r), hcs, hl, by unfold maxLen at hm; exact hm, by simp, fun j y hy => ?_⟩
    have hj : j < len := by
      have := (List.getElem?_eq_some_iff.1 hy).1
      simpa using this
    have ey : (Z j).take (L j) = y := by simpa [hj] using hy
    obtain ⟨h1, h2, h3, h4, h5, h6, h7⟩ := hr j (by omega)
    refine ⟨a, _, rfl, h1, A j, L j, C j, rfl, h2, by unfold maxLen at h3; exact h3, ?_, fun i z hz => ?_⟩
    · rw [← ey, List.length_take]; omega
    · rw [← ey, List.getElem?_take] at hz
      split at hz
      · rename_i hi
        have hi' : i < C j := by omega
        cases hA : A j with
        | none => have := h6 hA; omega
        | some a' =>
          have hcell := (h7 a' hA).2 i hi'
          have e1 : (Z j).getD i 0 = z := by simp [List.getD, hz]
          exact ⟨a', _, rfl, hcell, by rw [e1], I64.of_wf (h5 z (List.mem_of_getElem? hz))⟩
      · cases hz
theorem open_RB {t e : TypeId} {v : Value} {x : DataW H × List MemPlace} (ht : P.underlying t = some (.slice e)) (he : P.underlying e = some (.int .u8)) (hc : P.cellsOf e = 1)
    (h : DataW.trod enc P w 0 (fun _ => true) true fuel t [v] = some x) : ∃ A n c zs, v = .slice A n c ∧ n ≤ c ∧ c ≤ 9223372036854775807 ∧ RS EByte w A n zs := by
  rcases open_ints ht he hc h with ⟨hcs, _⟩ | ⟨a, len, cap, zs, hcs, _, hl, hm, hz, _, hcell, hwz⟩
  · simp at hcs
    exact ⟨none, 0, 0, [], hcs, by omega, by omega, RS.nil_ _ _ _⟩
  · simp at hcs hz
    refine ⟨some a, len, cap, zs.take len, hcs, hl, by unfold maxLen at hm; exact hm, ?_, fun j y hy => ?_⟩
    · rw [List.length_take]; omega
    · rw [List.getElem?_take] at hy
      split at hy
      · rename_i hj
        have hj' : j < zs.length := by omega
        have e1 : zs.getD j 0 = y := by simp [List.getD, hy]
        refine ⟨a, _, rfl, hcell j hj', by rw [e1], ?_⟩
        exact bounds_u8 (hwz y (List.mem_of_getElem? hy))
      · cases hy
end
end Go.Proofs.YtncknfhfkmmhbaaGreat
