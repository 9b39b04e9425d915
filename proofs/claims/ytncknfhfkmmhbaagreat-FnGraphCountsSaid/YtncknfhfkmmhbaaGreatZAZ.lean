/- The lists of neighbors, the reference's side. No condition beyond those stated. -/
import Derived.Test.YtncknfhfkmmhbaaGreatZAY
import Derived.Test.YtncknfhfkmmhbaaGreatZAP
import Derived.Shelf.SlGeneric
import Derived.Shelf.SlSortCmp.WholeK
import Derived.Shelf.SlSortCmp.NoneTotal
import Derived.Ground.SlsfProg
import Derived.Test.YtncknfhfkmmhbaaGreatProg
set_option linter.unusedVariables false
set_option linter.unusedSimpArgs false
namespace Go.Proofs.YtncknfhfkmmhbaaGreat
open Go.RowKit

theorem graph_info : (Tryz.prog.info? 36).map (fun i => (i.zero, i.size, i.bytes)) = some (some (.agg #[.slice none 0 0, .slice none 0 0]), 2, 48) := by kernel_rfl
def nearTo (es : List Ed) (a j : Nat) : List Int := ((List.range j).filter fun (b : Nat) => nbB es a b).map fun (b : Nat) => (b : Int)
theorem nearTo_all (n : Nat) (es : List Ed) (a : Nat) : nearTo es a n = nearV n es a := rfl
theorem nearTo_yes {es : List Ed} {a j : Nat} (h : nbB es a j = true) : nearTo es a (j + 1) = nearTo es a j ++ [(j : Int)] := by simp [nearTo, List.range_succ, List.filter_append, h]
theorem nearTo_no {es : List Ed} {a j : Nat} (h : nbB es a j = false) : nearTo es a (j + 1) = nearTo es a j := by simp [nearTo, List.range_succ, List.filter_append, h]
theorem nearTo_len (es : List Ed) (a j : Nat) : (nearTo es a j).length ≤ j := by
  unfold nearTo
  rw [List.length_map]
  exact Nat.le_trans (List.length_filter_le _ _) (by simp)
theorem nearsTo_step (n : Nat) (es : List Ed) (k : Nat) : (List.range (k + 1)).map (nearV n es) = (List.range k).map (nearV n es) ++ [nearV n es k] := by simp [List.range_succ]
end Go.Proofs.YtncknfhfkmmhbaaGreat
/- The lists of neighbors, the target's side. No condition beyond those stated. -/
namespace Go.Proofs.YtncknfhfkmmhbaaGreat
open Go.RowKit

theorem row_ne {zss : List (List Int)} {i j : Nat} {z : List Int} (h : i ≠ j) : row (zss.set i z) j = row zss j := by simp [row, List.getD, List.getElem?_set, h]
theorem adjE_len (a : Nat) (e : Ed) : (adjE a e).length ≤ 2 := by unfold adjE; split <;> split <;> simp
theorem adjP_len (es : List Ed) (a : Nat) : (adjP es a).length ≤ 2 * es.length := by
  induction es with
  | nil => simp [adjP]
  | cons e es ih =>
    have h1 : adjP (e :: es) a = adjE a e ++ adjP es a := by simp [adjP]
    have h2 := adjE_len a e
    rw [h1]; simp; omega
def adjT (n : Nat) (es : List Ed) : List (List Int) := (List.range n).map (adjP es)
theorem adjT_row {n : Nat} (es : List Ed) {a : Nat} (h : a < n) : row (adjT n es) a = adjP es a := by
  rw [row_get (by simpa [adjT] using h)]
  simp [adjT]
theorem adj_step {n : Nat} {es : List Ed} {k : Nat} (hk : k < es.length) {x y : Nat} (hx : (nthE es k).1 = x) (hy : (nthE es k).2 = y) :
    ((adjT n (es.take k)).set x (row (adjT n (es.take k)) x ++ [(y : Int)])).set y (row ((adjT n (es.take k)).set x (row (adjT n (es.take k)) x ++ [(y : Int)])) y ++ [(x : Int)]) = adjT n (es.take (k + 1)) := by
  have he : es.take (k + 1) = es.take k ++ [nthE es k] := by rw [List.take_succ_eq_append_getElem hk, nthE_get hk]
  apply List.ext_getElem?
  intro a
  by_cases ha : a < n
  · have h0 : (adjT n (es.take k))[a]? = some (adjP (es.take k) a) := by simp [adjT, ha]
    have h1 : (adjT n (es.take (k + 1)))[a]? = some (adjP (es.take k) a ++ adjE a (nthE es k)) := by rw [he]; simp [adjT, ha, adjP_snoc]
    have hl : (adjT n (es.take k)).length = n := by simp [adjT]
    rw [h1, List.getElem?_set, List.getElem?_set]
    simp only [List.length_set, hl, row, List.getD_eq_getElem?_getD]
    unfold adjE
    rw [hx, hy]
    by_cases h2 : y = a
    · subst h2
      rw [if_pos rfl, if_pos ha, List.getElem?_set, hl]
      by_cases h3 : x = y
      · subst h3
        rw [if_pos rfl, if_pos ha, h0]
        simp
      · rw [if_neg h3, h0]
        have : ¬ (x : Int) = y := by omega
        simp [this]
    · rw [if_neg h2]
      by_cases h3 : x = a
      · subst h3
        rw [if_pos rfl, if_pos ha, h0]
        have : ¬ (y : Int) = x := by omega
        simp [this]
      · rw [if_neg h3, h0]
        have e1 : ¬ (y : Int) = a := by omega
        have e2 : ¬ (x : Int) = a := by omega
        simp [e1, e2]
  · rw [List.getElem?_eq_none (by simp [adjT]; omega), List.getElem?_eq_none (by simp [adjT]; omega)]
/-- the first k lists sorted -/
def sortT (n : Nat) (es : List Ed) (k : Nat) : List (List Int) := (List.range n).map fun a => if a < k then srt (adjP es a) else adjP es a
theorem sortT_zero (n : Nat) (es : List Ed) : sortT n es 0 = adjT n es := by simp [sortT, adjT]
theorem sortT_all {n : Nat} {es : List Ed} (h : EdgesOk n es) : sortT n es n = nearP n es := by
  unfold sortT nearP
  refine List.map_congr_left fun a ha => ?_
  rw [if_pos (by simpa using ha), nearV_adj h]
theorem sortT_row {n : Nat} (es : List Ed) {k : Nat} (h : k < n) : row (sortT n es k) k = adjP es k := by
  rw [row_get (by simpa [sortT] using h)]
  simp [sortT]
theorem sortT_step {n : Nat} {es : List Ed} {k : Nat} (h : k < n) : (sortT n es k).set k (srt (adjP es k)) = sortT n es (k + 1) := by
  apply List.ext_getElem?
  intro a
  rw [List.getElem?_set]
  by_cases e : k = a
  · subst e
    rw [if_pos rfl, if_pos (by simpa [sortT] using h)]
    simp [sortT, h]
  · rw [if_neg e]
    by_cases ha : a < n
    · simp only [sortT, List.getElem?_map, List.getElem?_range ha, Option.map_some]
      by_cases h2 : a < k
      · rw [if_pos h2, if_pos (by omega)]
      · rw [if_neg h2, if_neg (by omega)]
    · rw [List.getElem?_eq_none (by simp [sortT]; omega), List.getElem?_eq_none (by simp [sortT]; omega)]
set_option maxRecDepth 100000 in
set_option maxHeartbeats 4000000 in
theorem neighborLists_any (A : Option Addr) (n c : Nat) (F : Option Addr) (m d : Nat) (cs : List Int) (es : List Ed) (w : World) (ha : RG w A n F m cs es) (hn : n ≤ 4096) (hm : m ≤ 1048576) (he : EdgesOk n es) :
    Calls Tryz.prog 54 #[.agg #[.slice A n c, .slice F m d]] w (RetR w 33 2 (nearP n es)) := by
  have hle := Lib.hid ha.re.len
  have HE := Lib.hid he.inn
  have HO := Lib.hid he; clear he
  have hb1 := below_alloc w (.cells #[.slice A n c, .slice F m d] 36)
  have X := Blk.new w 36 #[.slice A n c, .slice F m d]
  obtain ⟨x0, x1⟩ := X.cells2
  have hmk := run_make_row' (P := Tryz.prog) 46 33 (.slice none 0 0) 24 Tryz.underlying46 ints_info rfl .i64 .i64 n (by omega) (by omega)
  have ho0 := OR.made (w.alloc (.cells #[.slice A n c, .slice F m d] 36)) w.heap.size (e2 := 33) (e1 := 2) (by decide) n hb1.size (by omega)
  have hw0 := hb1.alloc hb1.size (.cells (madeCells #[.slice none 0 0] n) 33)
  obtain ⟨y0, y1⟩ := (X.alloc (.cells (madeCells #[.slice none 0 0] n) 33)).cells2
  have hs0 : (w.alloc (.cells #[.slice A n c, .slice F m d] 36)).heap.size = w.heap.size + 1 := by simp
  rw [hs0] at ho0
  go_enter Tryz.func54, Tryz.ntmps54
  go_wp2
  rw [show List.replicate n [] = adjT n (es.take 0) from (by rw [eq_comm, List.eq_replicate_iff]; exact ⟨by simp [adjT], fun b hb => by simp [adjT, adjP] at hb; exact hb.2⟩)] at ho0
  clear x0 x1 y0 y1 hb1 X hmk hs0
  go_loopw [15] (fun i wr => ∃ (j : Nat), j ≤ m ∧ i = .int .i64 j ∧ OR wr w.heap.size 33 2 (some ⟨w.heap.size + 1, 0, none⟩) n n (adjT n (es.take j)) ∧ Below w.heap.size w wr) (fun i _ => m - (intOf i).toNat)
  case atStart => exact ⟨0, Nat.zero_le _, rfl, ho0, hw0⟩
  case round =>
    clear ho0 hw0
    obtain ⟨j, hj, rfl, ho, hw⟩ := hrel
    by_cases hjm : j < m
    · obtain ⟨ge, oe, rfl, ce1, ce2, i1, i2⟩ := ha.re.get hjm
      obtain ⟨x, y, hx, hy, hxn, hyn⟩ := HE.out j (by rw [hle.out]; exact hjm)
      have hst := Lib.hid (adj_step (n := n) (es := es) (k := j) (by rw [hle.out]; exact hjm) hx hy)
      have hl1 := Lib.hid (fun a => adjP_len (es.take j) a)
      have hlj := Lib.hid (show (es.take j).length = j by rw [List.length_take, hle.out]; omega)
      rw [hx] at ce1
      rw [hy] at ce2
      have Hx := hx
      have Hy := hy
      clear i1 i2 hx hy
      have c1 := below_cell hw ce1
      have c2 := below_cell hw ce2
      have hb1 := below_alloc wr (.cells #[.int .i64 (x : Int), .int .i64 (y : Int)] 48)
      have ho1 := ho.below hb1
      have hw1 := hw.alloc hw.size (.cells #[.int .i64 (x : Int), .int .i64 (y : Int)] 48)
      have E1 := Blk.new wr 48 #[.int .i64 (x : Int), .int .i64 (y : Int)]
      obtain ⟨ii, hi, hi0, hi1, hi2⟩ := info_parts edge_info
      clear hw ho ce1 ce2 hb1
      go_wp2
      clear c1 c2
      obtain ⟨e10, e11⟩ := E1.cells2
      generalize hW : wr.alloc (.cells #[.int .i64 (x : Int), .int .i64 (y : Int)] 48) = W at *
      generalize wr.heap.size = eb at *
      have hxy : (x : Int) ≠ y := by have := (HO.out.edge (nthE es j) (by rw [nthE_get (by rw [hle.out]; exact hjm)]; exact List.getElem_mem _)); rw [Hx, Hy] at this; omega
      have hrw : row ((adjT n (es.take j)).set x (row (adjT n (es.take j)) x ++ [(y : Int)])) y = adjP (es.take j) y := by rw [row_ne (by omega)]; exact adjT_row _ hyn
      have hlx := Lib.hid (show (adjP (es.take j) x).length ≤ 2 * m by have := adjP_len (es.take j) x; rw [hlj.out] at this; omega)
      have hly := Lib.hid (show (adjP (es.take j) y).length ≤ 2 * m by have := adjP_len (es.take j) y; rw [hlj.out] at this; omega)
      rw [hrw] at hst
      rw [adjT_row _ hxn] at hst hrw
      have HR := Lib.hid (adjT_row (es.take j) hxn)
      have HR2 := Lib.hid hrw
      clear hrw
      generalize adjT n (es.take j) = zss at *
      generalize adjP (es.take j) x = zx at *
      generalize adjP (es.take j) y = zy at *
      clear hW hl1
      obtain ⟨vs, hov⟩ := ho1
      obtain ⟨g, ⟨vA, vn, vc⟩, hg, hv, d1, d2, hz⟩ := hov.get hxn
      cases hg
      simp only at d1 hz
      rw [HR.out] at hz
      obtain ⟨e10, e11⟩ := E1.cells2
      refine region_last (P := Tryz.prog) (S := fun w' => w'.cell? ⟨eb, 0, none⟩ = some (.int .i64 (x : Int)) ∧ w'.cell? ⟨eb, 1, none⟩ = some (.int .i64 (y : Int)) ∧ w'.cell? ⟨w.heap.size + 1, x, none⟩ = some (.slice vA vn vc)) (by kernel_rfl) (by simp only [List.getLast?_cons_cons, List.getLast?_singleton]; rfl) (by dsimp only [List.dropLast]) (by kernel_rfl) ⟨by simpa using e10, by simpa using e11, by simpa using d1⟩ ?_
      intro hS
      refine wpAnyH_take (i := 0) (v := ?_) rfl (by kernel_rfl) (by kernel_rfl) (by kernel_rfl) (fun _ _ _ h => h) (Or.inl ⟨by rfl, ?_⟩) (by assumption) ?_
      rotate_left
      · (intro w hSw; (try dsimp only at hSw); go_simp; (try with_reducible rfl))
      simp only [Act.put, List.setIfInBounds_toArray, List.set_cons_zero, List.set_cons_succ]
      refine wpAnyH_take (i := 1) (v := ?_) rfl (by kernel_rfl) (by kernel_rfl) (by kernel_rfl) (fun _ _ _ h => h) (Or.inl ⟨by rfl, ?_⟩) (by assumption) ?_
      rotate_left
      · (intro w hSw; (try dsimp only at hSw); go_simp; (try with_reducible rfl))
      simp only [Act.put, List.setIfInBounds_toArray, List.set_cons_zero, List.set_cons_succ]
      refine wpAnyH_take (i := 2) (v := ?_) rfl (by kernel_rfl) (by kernel_rfl) (by kernel_rfl) (fun _ _ _ h => h) (Or.inl ⟨by rfl, ?_⟩) (by assumption) ?_
      rotate_left
      · (intro w hSw; (try dsimp only at hSw); go_simp; (try with_reducible rfl))
      simp only [Act.put, List.setIfInBounds_toArray, List.set_cons_zero, List.set_cons_succ]
      refine wpAnyH_take (i := 3) (v := ?_) rfl (by kernel_rfl) (by kernel_rfl) (by kernel_rfl) (fun _ _ _ h => h) (Or.inl ⟨by rfl, ?_⟩) (by assumption) ?_
      rotate_left
      · (intro w hSw; (try dsimp only at hSw); go_simp; (try with_reducible rfl))
      simp only [Act.put, List.setIfInBounds_toArray, List.set_cons_zero, List.set_cons_succ]
      refine wpAnyH_take (i := 4) (v := ?_) rfl (by kernel_rfl) (by kernel_rfl) (by kernel_rfl) (fun _ _ _ h => h) (Or.inl ⟨by rfl, ?_⟩) (by assumption) ?_
      rotate_left
      · (intro w hSw; (try dsimp only at hSw); go_simp; (try with_reducible rfl))
      simp only [Act.put, List.setIfInBounds_toArray, List.set_cons_zero, List.set_cons_succ]
      refine wpAnyH_take (i := 5) (v := ?_) rfl (by kernel_rfl) (by kernel_rfl) (by kernel_rfl) (fun _ _ _ h => h) (Or.inl ⟨by rfl, ?_⟩) (by assumption) ?_
      rotate_left
      · (intro w hSw; (try dsimp only at hSw); go_simp; (try with_reducible rfl))
      simp only [Act.put, List.setIfInBounds_toArray, List.set_cons_zero, List.set_cons_succ]
      refine wpAnyH_take (i := 6) (v := ?_) rfl (by kernel_rfl) (by kernel_rfl) (by kernel_rfl) (fun _ _ _ h => h) (Or.inl ⟨by rfl, ?_⟩) (by assumption) ?_
      rotate_left
      · (intro w hSw; (try dsimp only at hSw); go_simp; (try with_reducible rfl))
      simp only [Act.put, List.setIfInBounds_toArray, List.set_cons_zero, List.set_cons_succ]
      refine wpAnyH_take (i := 7) (v := ?_) rfl (by kernel_rfl) (by kernel_rfl) (by kernel_rfl) (fun _ _ _ h => h) (Or.inl ⟨by rfl, ?_⟩) (by assumption) ?_
      rotate_left
      · (intro w hSw; (try dsimp only at hSw); go_simp; (try with_reducible rfl))
      simp only [Act.put, List.setIfInBounds_toArray, List.set_cons_zero, List.set_cons_succ]
      refine wpAnyH_take (i := 8) (v := ?_) rfl (by kernel_rfl) (by kernel_rfl) (by kernel_rfl) (fun _ _ _ h => h) (Or.inl ⟨by rfl, ?_⟩) (by assumption) ?_
      rotate_left
      · (intro w hSw; (try dsimp only at hSw); go_simp; (try with_reducible rfl))
      simp only [Act.put, List.setIfInBounds_toArray, List.set_cons_zero, List.set_cons_succ]
      refine wpAnyH_take (i := 9) (v := ?_) rfl (by kernel_rfl) (by kernel_rfl) (by kernel_rfl) (fun _ _ _ h => h) (Or.inl ⟨by rfl, ?_⟩) (by assumption) ?_
      rotate_left
      · (intro w hSw; (try dsimp only at hSw); go_simp; (try with_reducible rfl))
      simp only [Act.put, List.setIfInBounds_toArray, List.set_cons_zero, List.set_cons_succ]
      have hV := (below_alloc W (.cells #[.int .i64 (y : Int)] 2)).trans (below_drewn' _ _ 1)
      have hlit := ((OI.lit W w.heap.size 2 [(y : Int)] hw1.size (by simp) (All64.one ⟨by omega, by omega⟩)).drewN 1).reads
      rw [← World.drew_is_drewN] at hV hlit
      have hovV := hov.below hV
      have d1V := below_cell hV d1
      have hzV := hz.below hV
      have E1V := E1.after hV
      have wV := hw1.trans (hV.mono hw1.size)
      have nE := OS.typed' hzV.os E1V (by decide)
      have nO := OS.typed' hovV.os E1V (by decide)
      simp only [blk, Option.map_some, ne_eq, Option.some.injEq] at nO
      have nR := hovV.outer_row hv
      have hlz := hz.len
      clear hz hov hw1 E1 hV
      refine wpAnyH_ready (rs := [10]) (by kernel_rfl) (by simp) ?_
      refine AllReadyH.cons rfl (fun K hK => ?_) AllReadyH.nil
      go_simp
      refine hK.out _ _ ?_ (fun hS1 => ?_)
      · exact ⟨E1V.cells2.1, E1V.cells2.2, d1V⟩
      clear hK K hS
      refine wpAnyH_ready (rs := [11]) (by kernel_rfl) (by simp) ?_
      refine AllReadyH.cons rfl (fun K hK => ?_) AllReadyH.nil
      refine step_of_list (by rfl) ?_
      refine app_ints _ (by rfl) _ _ (by rfl) w.heap.size vA vn vc _ (by rfl) hzV (some ⟨W.heap.size, 0, none⟩) 1 1 [(y : Int)] (by rfl) hlit (by have := hlx.out; omega) wV.size ?_
      intro A' c' w3 ho3 hg3 hn3
      refine list_onlyK ?_
      have E13 := E1V.grown hg3 nE
      obtain ⟨_, hgg, d3, d4⟩ := (hovV.os.kept hg3 (nR.elim (fun h => .inr (by rw [h]; simp [blk])) (fun h => .inr (fun e => h e.symm)))).cell (j := x) (u := slv (vA, vn, vc)) (by rw [List.getElem?_map, hv]; rfl)
      cases hgg
      refine hK.out _ _ ?_ (fun hS2 => ?_)
      · exact ⟨E13.cells2.1, E13.cells2.2, d3⟩
      clear hK K hS1
      refine wpAnyH_take (i := 12) (v := ?_) rfl (by kernel_rfl) (by kernel_rfl) (by kernel_rfl) (fun _ _ _ h => h) (Or.inl ⟨by rfl, ?_⟩) (by assumption) ?_
      rotate_left
      · (intro w hSw; (try dsimp only at hSw); go_simp; (try with_reducible rfl))
      simp only [Act.put, List.setIfInBounds_toArray, List.set_cons_zero, List.set_cons_succ]
      refine wpAnyH_done (by kernel_rfl) ?_ _
      dsimp only [atEnd]
      have ho4 := ORv.upd (v' := (A', vn + 1, c')) hovV hv hg3 ho3 (hn3.elim (fun h => .inr (.inl h)) (fun h => .inr (.inr ⟨_, h, Nat.le_refl _⟩)))
      have hw4 : Below w.heap.size w (w3.setCell ⟨w.heap.size + 1, x, none⟩ (.slice A' (vn + 1) c')) := Below.setCell (below_own wV hg3 wV.size (fun b hb => (hzV.os.lt hb).1)) (p := ⟨w.heap.size + 1, x, none⟩) (by simp) _
      have E14 : Blk (w3.setCell ⟨w.heap.size + 1, x, none⟩ (.slice A' (vn + 1) c')) eb 48 #[.int .i64 (x : Int), .int .i64 (y : Int)] := E13.far (p := ⟨w.heap.size + 1, x, none⟩) nO _
      clear d1V hovV hzV E1V wV nE nO nR hlit hlz hS2 e10 e11 d1 d2 E13 hg3 ho3 hn3
      go_wp2
      clear d3 d4
      generalize World.setCell _ _ _ = W2 at *
      have hw1 := hw4
      have E1 := E14
      clear hw4 E14 hv vs
      obtain ⟨vs, hov⟩ := ho4
      obtain ⟨g, ⟨vA, vn, vc⟩, hg, hv, d1, d2, hz⟩ := hov.get hyn
      cases hg
      simp only at d1 hz
      rw [HR2.out] at hz
      obtain ⟨e10, e11⟩ := E1.cells2
      refine region_last (P := Tryz.prog) (S := fun w' => w'.cell? ⟨eb, 0, none⟩ = some (.int .i64 (x : Int)) ∧ w'.cell? ⟨eb, 1, none⟩ = some (.int .i64 (y : Int)) ∧ w'.cell? ⟨w.heap.size + 1, y, none⟩ = some (.slice vA vn vc)) (by kernel_rfl) (by simp only [List.getLast?_cons_cons, List.getLast?_singleton]; rfl) (by dsimp only [List.dropLast]) (by kernel_rfl) ⟨by simpa using e10, by simpa using e11, by simpa using d1⟩ ?_
      intro hS
      refine wpAnyH_take (i := 0) (v := ?_) rfl (by kernel_rfl) (by kernel_rfl) (by kernel_rfl) (fun _ _ _ h => h) (Or.inl ⟨by rfl, ?_⟩) (by assumption) ?_
      rotate_left
      · (intro w hSw; (try dsimp only at hSw); go_simp; (try with_reducible rfl))
      simp only [Act.put, List.setIfInBounds_toArray, List.set_cons_zero, List.set_cons_succ]
      refine wpAnyH_take (i := 1) (v := ?_) rfl (by kernel_rfl) (by kernel_rfl) (by kernel_rfl) (fun _ _ _ h => h) (Or.inl ⟨by rfl, ?_⟩) (by assumption) ?_
      rotate_left
      · (intro w hSw; (try dsimp only at hSw); go_simp; (try with_reducible rfl))
      simp only [Act.put, List.setIfInBounds_toArray, List.set_cons_zero, List.set_cons_succ]
      refine wpAnyH_take (i := 2) (v := ?_) rfl (by kernel_rfl) (by kernel_rfl) (by kernel_rfl) (fun _ _ _ h => h) (Or.inl ⟨by rfl, ?_⟩) (by assumption) ?_
      rotate_left
      · (intro w hSw; (try dsimp only at hSw); go_simp; (try with_reducible rfl))
      simp only [Act.put, List.setIfInBounds_toArray, List.set_cons_zero, List.set_cons_succ]
      refine wpAnyH_take (i := 3) (v := ?_) rfl (by kernel_rfl) (by kernel_rfl) (by kernel_rfl) (fun _ _ _ h => h) (Or.inl ⟨by rfl, ?_⟩) (by assumption) ?_
      rotate_left
      · (intro w hSw; (try dsimp only at hSw); go_simp; (try with_reducible rfl))
      simp only [Act.put, List.setIfInBounds_toArray, List.set_cons_zero, List.set_cons_succ]
      refine wpAnyH_take (i := 4) (v := ?_) rfl (by kernel_rfl) (by kernel_rfl) (by kernel_rfl) (fun _ _ _ h => h) (Or.inl ⟨by rfl, ?_⟩) (by assumption) ?_
      rotate_left
      · (intro w hSw; (try dsimp only at hSw); go_simp; (try with_reducible rfl))
      simp only [Act.put, List.setIfInBounds_toArray, List.set_cons_zero, List.set_cons_succ]
      refine wpAnyH_take (i := 5) (v := ?_) rfl (by kernel_rfl) (by kernel_rfl) (by kernel_rfl) (fun _ _ _ h => h) (Or.inl ⟨by rfl, ?_⟩) (by assumption) ?_
      rotate_left
      · (intro w hSw; (try dsimp only at hSw); go_simp; (try with_reducible rfl))
      simp only [Act.put, List.setIfInBounds_toArray, List.set_cons_zero, List.set_cons_succ]
      refine wpAnyH_take (i := 6) (v := ?_) rfl (by kernel_rfl) (by kernel_rfl) (by kernel_rfl) (fun _ _ _ h => h) (Or.inl ⟨by rfl, ?_⟩) (by assumption) ?_
      rotate_left
      · (intro w hSw; (try dsimp only at hSw); go_simp; (try with_reducible rfl))
      simp only [Act.put, List.setIfInBounds_toArray, List.set_cons_zero, List.set_cons_succ]
      refine wpAnyH_take (i := 7) (v := ?_) rfl (by kernel_rfl) (by kernel_rfl) (by kernel_rfl) (fun _ _ _ h => h) (Or.inl ⟨by rfl, ?_⟩) (by assumption) ?_
      rotate_left
      · (intro w hSw; (try dsimp only at hSw); go_simp; (try with_reducible rfl))
      simp only [Act.put, List.setIfInBounds_toArray, List.set_cons_zero, List.set_cons_succ]
      refine wpAnyH_take (i := 8) (v := ?_) rfl (by kernel_rfl) (by kernel_rfl) (by kernel_rfl) (fun _ _ _ h => h) (Or.inl ⟨by rfl, ?_⟩) (by assumption) ?_
      rotate_left
      · (intro w hSw; (try dsimp only at hSw); go_simp; (try with_reducible rfl))
      simp only [Act.put, List.setIfInBounds_toArray, List.set_cons_zero, List.set_cons_succ]
      refine wpAnyH_take (i := 9) (v := ?_) rfl (by kernel_rfl) (by kernel_rfl) (by kernel_rfl) (fun _ _ _ h => h) (Or.inl ⟨by rfl, ?_⟩) (by assumption) ?_
      rotate_left
      · (intro w hSw; (try dsimp only at hSw); go_simp; (try with_reducible rfl))
      simp only [Act.put, List.setIfInBounds_toArray, List.set_cons_zero, List.set_cons_succ]
      have hV := (below_alloc W2 (.cells #[.int .i64 (x : Int)] 2)).trans (below_drewn' _ _ 1)
      have hlit := ((OI.lit W2 w.heap.size 2 [(x : Int)] hw1.size (by simp) (All64.one ⟨by omega, by omega⟩)).drewN 1).reads
      rw [← World.drew_is_drewN] at hV hlit
      have hovV := hov.below hV
      have d1V := below_cell hV d1
      have hzV := hz.below hV
      have E1V := E1.after hV
      have wV := hw1.trans (hV.mono hw1.size)
      have nE := OS.typed' hzV.os E1V (by decide)
      have nO := OS.typed' hovV.os E1V (by decide)
      simp only [blk, Option.map_some, ne_eq, Option.some.injEq] at nO
      have nR := hovV.outer_row hv
      have hlz := hz.len
      clear hz hov hw1 E1 hV
      refine wpAnyH_ready (rs := [10]) (by kernel_rfl) (by simp) ?_
      refine AllReadyH.cons rfl (fun K hK => ?_) AllReadyH.nil
      go_simp
      refine hK.out _ _ ?_ (fun hS1 => ?_)
      · exact ⟨E1V.cells2.1, E1V.cells2.2, d1V⟩
      clear hK K hS
      refine wpAnyH_ready (rs := [11]) (by kernel_rfl) (by simp) ?_
      refine AllReadyH.cons rfl (fun K hK => ?_) AllReadyH.nil
      refine step_of_list (by rfl) ?_
      refine app_ints _ (by rfl) _ _ (by rfl) w.heap.size vA vn vc _ (by rfl) hzV (some ⟨W2.heap.size, 0, none⟩) 1 1 [(x : Int)] (by rfl) hlit (by have := hly.out; omega) wV.size ?_
      intro A' c' w3 ho3 hg3 hn3
      refine list_onlyK ?_
      have E13 := E1V.grown hg3 nE
      obtain ⟨_, hgg, d3, d4⟩ := (hovV.os.kept hg3 (nR.elim (fun h => .inr (by rw [h]; simp [blk])) (fun h => .inr (fun e => h e.symm)))).cell (j := y) (u := slv (vA, vn, vc)) (by rw [List.getElem?_map, hv]; rfl)
      cases hgg
      refine hK.out _ _ ?_ (fun hS2 => ?_)
      · exact ⟨E13.cells2.1, E13.cells2.2, d3⟩
      clear hK K hS1
      refine wpAnyH_take (i := 12) (v := ?_) rfl (by kernel_rfl) (by kernel_rfl) (by kernel_rfl) (fun _ _ _ h => h) (Or.inl ⟨by rfl, ?_⟩) (by assumption) ?_
      rotate_left
      · (intro w hSw; (try dsimp only at hSw); go_simp; (try with_reducible rfl))
      simp only [Act.put, List.setIfInBounds_toArray, List.set_cons_zero, List.set_cons_succ]
      refine wpAnyH_done (by kernel_rfl) ?_ _
      dsimp only [atEnd]
      have ho5 := ORv.upd (v' := (A', vn + 1, c')) hovV hv hg3 ho3 (hn3.elim (fun h => .inr (.inl h)) (fun h => .inr (.inr ⟨_, h, Nat.le_refl _⟩)))
      have hw4 : Below w.heap.size w (w3.setCell ⟨w.heap.size + 1, y, none⟩ (.slice A' (vn + 1) c')) := Below.setCell (below_own wV hg3 wV.size (fun b hb => (hzV.os.lt hb).1)) (p := ⟨w.heap.size + 1, y, none⟩) (by simp) _
      have E14 : Blk (w3.setCell ⟨w.heap.size + 1, y, none⟩ (.slice A' (vn + 1) c')) eb 48 #[.int .i64 (x : Int), .int .i64 (y : Int)] := E13.far (p := ⟨w.heap.size + 1, y, none⟩) nO _
      clear d1V hovV hzV E1V wV nE nO nR hlit hlz hS2 e10 e11 d1 d2 E13 hg3 ho3 hn3
      go_wp2
      clear d3 d4
      rw [hst.out] at ho5
      go_roundw
      case rel => exact ⟨j + 1, by omega, by go_num, ho5, hw4⟩
      case measure => simp [intOf]; omega
    · obtain rfl : j = m := by omega
      have e1 : adjT n (es.take j) = sortT n es 0 := by rw [sortT_zero, List.take_of_length_le (by rw [hle.out]; omega)]
      rw [e1] at ho
      have hl1 := Lib.hid (fun a => adjP_len es a)
      go_wp2
      go_loopw [48] (fun i wr => ∃ (k : Nat), k ≤ n ∧ i = .int .i64 k ∧ OR wr w.heap.size 33 2 (some ⟨w.heap.size + 1, 0, none⟩) n n (sortT n es k) ∧ Below w.heap.size w wr) (fun i _ => n - (intOf i).toNat)
      case atStart => exact ⟨0, Nat.zero_le _, rfl, ho, hw⟩
      case round =>
        clear ho hw
        obtain ⟨k, hk, rfl, ho, hw⟩ := hrel
        by_cases hlt : k < n
        · obtain ⟨vs, hov⟩ := ho
          obtain ⟨g, ⟨vA, vn, vc⟩, hg, hv, d1, d2, hz⟩ := hov.get hlt
          cases hg
          rw [sortT_row _ hlt] at hz
          simp only at d1 hz
          have hst := Lib.hid (sortT_step (es := es) hlt)
          have hlz := hz.len
          have hso := sort_any w.heap.size 2 vA vn vc _ wr hz (by have := hl1.out k; rw [hle.out] at this; omega)
          go_wp2_with (go_at_call 84; refine hso.mono ?_; rintro e w2 ⟨rfl, ho2, hg2⟩)
          have hov2 := hov.wrote hv hg2 ho2
          have hw2 := below_own hw hg2 hw.size (fun b hb => (hz.os.lt hb).1)
          rw [hst.out] at hov2
          clear hov hw hz hso ho2 hg2
          go_roundw
          case rel => exact ⟨k + 1, by omega, by go_num, ⟨vs, hov2⟩, hw2⟩
          case measure => simp [intOf]; omega
        · obtain rfl : k = n := by omega
          rw [sortT_all HO.out] at ho
          go_wp2
          go_ret
          exact ⟨_, _, _, rfl, ho, hw⟩
end Go.Proofs.YtncknfhfkmmhbaaGreat
/-
  DERIVED: THE SHELF's CONTRACTS AT THIS DUMP, IN PLAIN WORDS (tools/lay-plain.mjs out of 'YtncknfhfkmmhbaaGreatLay3X.lean', which tools/lay-shelf.mjs wrote): THE SAME DECLARATIONS UNDER THE SAME NAMES: 'import', 'namespace', 'open', 'def', 'theorem' AND NOTHING ELSE: no command of the shelf's: FOR A HAND-IN. Each laying: the table of numbers ('.._ren') and one theorem, a field a fact of the dump's own or the kernel's comparison; each contract: ONE APPLICATION.
-/
namespace Go.Proofs
open Go.Shelf
def Tryz.sreL_ren : Go.Shelf.Ren := ⟨fun | 6 => 124 | 15 => 43 | 14 => 127 | 28 => 68 | 29 => 69 | 20 => 128 | 21 => 129 | 22 => 130 | 23 => 131 | 24 => 132 | 25 => 133 | 26 => 134 | 27 => 135 | 46 => 136 | 47 => 93 | 48 => 94 | 49 => 137 | 50 => 138 | 57 => 139 | n => n, fun | 22 => 34 | 24 => 48 | 25 => 95 | 3 => 3 | 39 => 80 | 0 => 0 | 53 => 112 | 55 => 58 | 4 => 4 | 46 => 105 | 45 => 104 | 50 => 109 | 5 => 5 | 9 => 9 | 66 => 125 | 70 => 129 | 76 => 141 | 77 => 142 | n => n, fun | n => n⟩
theorem Tryz.sreL : Go.Proofs.SlLaysF0.n6 Tryz.prog Tryz.sreL_ren := {
  mixed := by kernel_rfl
  f6 := ⟨Tryz.f124.name, by decide, Tryz.func124.trans (congrArg some (by kernel_rfl))⟩
  f14 := ⟨Tryz.f127.name, by decide, Tryz.func127.trans (congrArg some (by kernel_rfl))⟩
  f15 := Tryz.func43.trans (congrArg some (by kernel_rfl))
  f20 := ⟨Tryz.f128.name, by decide, Tryz.func128.trans (congrArg some (by kernel_rfl))⟩
  f21 := ⟨Tryz.f129.name, by decide, Tryz.func129.trans (congrArg some (by kernel_rfl))⟩
  f22 := ⟨Tryz.f130.name, by decide, Tryz.func130.trans (congrArg some (by kernel_rfl))⟩
  f23 := ⟨Tryz.f131.name, by decide, Tryz.func131.trans (congrArg some (by kernel_rfl))⟩
  f24 := ⟨Tryz.f132.name, by decide, Tryz.func132.trans (congrArg some (by kernel_rfl))⟩
  f25 := ⟨Tryz.f133.name, by decide, Tryz.func133.trans (congrArg some (by kernel_rfl))⟩
  f26 := ⟨Tryz.f134.name, by decide, Tryz.func134.trans (congrArg some (by kernel_rfl))⟩
  f27 := ⟨Tryz.f135.name, by decide, Tryz.func135.trans (congrArg some (by kernel_rfl))⟩
  f28 := Tryz.func68.trans (congrArg some (by kernel_rfl))
  f29 := Tryz.func69.trans (congrArg some (by kernel_rfl))
  f46 := ⟨Tryz.f136.name, by decide, Tryz.func136.trans (congrArg some (by kernel_rfl))⟩
  f47 := Tryz.func93.trans (congrArg some (by kernel_rfl))
  f48 := Tryz.func94.trans (congrArg some (by kernel_rfl))
  f49 := ⟨Tryz.f137.name, by decide, Tryz.func137.trans (congrArg some (by kernel_rfl))⟩
  f50 := ⟨Tryz.f138.name, by decide, Tryz.func138.trans (congrArg some (by kernel_rfl))⟩
  f57 := ⟨Tryz.f139.name, by decide, Tryz.func139.trans (congrArg some (by kernel_rfl))⟩
  t0 := Tryz.underlying0
  a0 := Tryz.isAgg0
  z0 := Tryz.sizeOf0
  v0 := Tryz.zeroValue0
  t3 := Tryz.underlying3
  a3 := Tryz.isAgg3
  z3 := Tryz.sizeOf3
  v3 := Tryz.zeroValue3
  t4 := Tryz.underlying4
  a4 := Tryz.isAgg4
  z4 := Tryz.sizeOf4
  v4 := Tryz.zeroValue4
  t5 := Tryz.underlying5
  a5 := Tryz.isAgg5
  z5 := Tryz.sizeOf5
  v5 := Tryz.zeroValue5
  t9 := Tryz.underlying9
  a9 := Tryz.isAgg9
  z9 := Tryz.sizeOf9
  v9 := Tryz.zeroValue9
  t22 := Tryz.underlying34
  a22 := Tryz.isAgg34
  z22 := Tryz.sizeOf34
  v22 := Tryz.zeroValue34
  t25 := Tryz.underlying95
  a25 := Tryz.isAgg95
  z25 := Tryz.sizeOf95
  v25 := Tryz.zeroValue95
  t39 := Tryz.underlying80
  a39 := Tryz.isAgg80
  z39 := Tryz.sizeOf80
  v39 := Tryz.zeroValue80
  t45 := Tryz.underlying104
  a45 := Tryz.isAgg104
  z45 := Tryz.sizeOf104
  v45 := Tryz.zeroValue104
  t46 := Tryz.underlying105
  a46 := Tryz.isAgg105
  z46 := Tryz.sizeOf105
  v46 := Tryz.zeroValue105
  t50 := Tryz.underlying109
  a50 := Tryz.isAgg109
  z50 := Tryz.sizeOf109
  v50 := Tryz.zeroValue109
  t53 := Tryz.underlying112
  a53 := Tryz.isAgg112
  z53 := Tryz.sizeOf112
  v53 := Tryz.zeroValue112
  t55 := Tryz.underlying58
  a55 := Tryz.isAgg58
  z55 := Tryz.sizeOf58
  v55 := Tryz.zeroValue58
  t66 := Tryz.underlying125
  a66 := Tryz.isAgg125
  z66 := Tryz.sizeOf125
  v66 := Tryz.zeroValue125
  t70 := Tryz.underlying129
  a70 := Tryz.isAgg129
  z70 := Tryz.sizeOf129
  v70 := Tryz.zeroValue129
  t76 := Tryz.underlying141
  a76 := Tryz.isAgg141
  z76 := Tryz.sizeOf141
  v76 := Tryz.zeroValue141
  t77 := Tryz.underlying142
  a77 := Tryz.isAgg142
  z77 := Tryz.sizeOf142
  v77 := Tryz.zeroValue142 }
end Go.Proofs
