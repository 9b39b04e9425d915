/- The table of neighbors and the lists of neighbors: the reference's side. No condition beyond those stated. -/
import Derived.Test.YtkihflnenifcgaaGreatDoorZAS
import Derived.Test.YtkihflnenifcgaaGreatDoorZAE
import Derived.Test.YtkihflnenifcgaaGreatDoorZAP
import Derived.Test.YtkihflnenifcgaaGreatDoorZAL
import Derived.StillTailTactics
import Derived.Shelf.SlGeneric
import Derived.Shelf.SortM.Plain
import Derived.Shelf.SortM.SortNone
import Derived.Ground.SlgmProg
import Derived.Test.YtkihflnenifcgaaGreatDoorProg
import Derived.Test.YtkihflnenifcgaaGreatDoorZAH
import Derived.Test.YtkihflnenifcgaaGreatDoorZAA
import Derived.Sort.OwnSortedInts
set_option linter.unusedVariables false
set_option linter.unusedSimpArgs false
namespace Go.Proofs.YtkihflnenifcgaaGreatDoor
open Go.RowKit

theorem bool_info : (Tryz.prog.info? 4).map (fun i => (i.zero, i.size, i.bytes)) = some (some (.bool false), 1, 1) := by kernel_rfl
theorem bools_info : (Tryz.prog.info? 111).map (fun i => (i.zero, i.size, i.bytes)) = some (some (.slice none 0 0), 1, 24) := by kernel_rfl
/-- both ends of an edge marked -/
theorem nbB_snoc (es : List Ed) (e : Ed) (a b : Nat) : nbB (es ++ [e]) a b = (nbB es a b || ((e.1 == (a : Int) && e.2 == (b : Int)) || (e.1 == (b : Int) && e.2 == (a : Int)))) := by simp [nbB]
theorem nbB_step {es : List Ed} {k : Nat} (hk : k < es.length) {x y : Nat} (hx : (nthE es k).1 = x) (hy : (nthE es k).2 = y) (a b : Nat) :
    (if a = y ∧ b = x then true else if a = x ∧ b = y then true else nbB (es.take k) a b) = nbB (es.take (k + 1)) a b := by
  rw [List.take_succ_eq_append_getElem hk, nbB_snoc, ← nthE_get hk, hx, hy]
  by_cases h1 : a = y ∧ b = x
  · obtain ⟨rfl, rfl⟩ := h1
    simp
  · rw [if_neg h1]
    by_cases h2 : a = x ∧ b = y
    · obtain ⟨rfl, rfl⟩ := h2
      simp
    · rw [if_neg h2]
      have e1 : (((x : Int) == (a : Int)) && ((y : Int) == (b : Int))) = false := by
        simp; intro h3 h4; exact h2 ⟨by omega, by omega⟩
      have e2 : (((x : Int) == (b : Int)) && ((y : Int) == (a : Int))) = false := by
        simp; intro h3 h4; exact h1 ⟨by omega, by omega⟩
      rw [e1, e2]
      simp
section
variable {ops : Array Oper} {rest : List Oper} {o : Oper} {a : Act} {Q : Exit → Act → World → Prop}
/-- one row of truth values more -/
theorem app_tab (w : World) (hgd : o.guard = none) (s x : Operand) (ho : o.op = .call { callee := .builtin .append, args := #[s, x], argTypes := #[109, 109] })
    (B : Nat) (A : Option Addr) (n c m : Nat) (vs : List Sl) (f : Nat → Nat → Bool) (hs : a.eval s = .slice A n c) (hown : TBv w B 111 4 A n c vs m f) (v : Sl) (hm : v.2.1 = m) (hv : OS w B 4 1 v.1 v.2.1 v.2.2 (bools m (f n))) (hap : ∀ (j : Nat) (u : Sl), vs[j]? = some u → apart u v)
    (g : Nat) (hx : a.eval x = .slice (some ⟨g, 0, none⟩) 1 1) (hgx : g = w.heap.size) (hbig : n + 1 ≤ 2199023255552) (hB : B ≤ w.heap.size)
    (h : ∀ A' c' w', TB w' B 111 4 A' (n + 1) c' m f → w.grownBy w' (blk A) → wpList Tryz.prog ops Q rest (a.put o.dst (.slice A' (n + 1) c')) w') :
    wpList Tryz.prog ops Q (o :: rest) a (w.alloc (.cells #[.slice v.1 v.2.1 v.2.2] 111)) :=
  wpList_app1' w hgd s x 109 ho 111 (.slice none 0 0) 24 Tryz.underlying109 bools_info rfl (by omega) B A n c (vs.map slv) hs hown.os (.slice v.1 v.2.1 v.2.2) g hx hgx rfl hbig hB
    fun A' c' w' h1 h2 _ => h A' c' w' (hown.push hm hv hap h2 h1) h2
end
/-- one truth value: where it stands, and what it is to write it over -/
theorem TBv.at_ {w : World} {B : Nat} {eo eb : TypeId} {A : Option Addr} {n c m : Nat} {vs : List Sl} {f : Nat → Nat → Bool} (h : TBv w B eo eb A n c vs m f) {a b : Nat} (ha : a < n) (hb : b < m) :
    ∃ g r k, A = some ⟨g, 0, none⟩ ∧ w.cell? ⟨g, a, none⟩ = some (.slice (some ⟨r, 0, none⟩) m k) ∧ m ≤ k ∧ k ≤ 9223372036854775807 ∧ w.cell? ⟨r, b, none⟩ = some (.bool (f a b)) ∧ w.frozen? ⟨r, b, none⟩ = false ∧ B ≤ r ∧ r < w.heap.size ∧ (∃ v, (⟨r, 0, none⟩ : Addr) = v ∧ OS w B eb 1 (some v) m k (bools m (f a))) ∧
      ∀ x, TBv (w.setCell ⟨r, b, none⟩ (.bool x)) B eo eb A n c vs m (fun p q => if p = a ∧ q = b then x else f p q) := by
  obtain ⟨g, v, h1, h2, h3, h4, h5, h6⟩ := h.get ha
  obtain ⟨r, hr, h7, h8, h9, h10⟩ := h6 b hb
  obtain ⟨e, ho⟩ := h.rows a _ h2
  rw [hr] at h3 ho
  rw [e] at ho
  exact ⟨g, r, v.2.2, h1, h3, h4, h5, h7, h8, h9, h10, ⟨_, rfl, ho⟩, fun x => h.set h2 hr b x⟩
/-- the vertices of edges are among the first n -/
def EdgesIn (n : Nat) (es : List Ed) : Prop := ∀ k, k < es.length → ∃ x y : Nat, (nthE es k).1 = x ∧ (nthE es k).2 = y ∧ x < n ∧ y < n
theorem EdgesOk.inn {n : Nat} {es : List Ed} (h : EdgesOk n es) : EdgesIn n es := fun k hk => by
  have := h.edge (nthE es k) (by rw [nthE_get hk]; exact List.getElem_mem hk)
  exact ⟨(nthE es k).1.toNat, (nthE es k).2.toNat, by omega, by omega, by omega, by omega⟩
set_option maxRecDepth 100000 in
set_option maxHeartbeats 4000000 in
theorem l21Table_any (A : Option Addr) (n c : Nat) (F : Option Addr) (m d : Nat) (cs : List Int) (es : List Ed) (w : World) (ha : RG w A n F m cs es) (hn : n ≤ 4096) (hm : m ≤ 1048576) (he : EdgesIn n es) :
    Calls Tryz.prog 69 #[.agg #[.slice A n c, .slice F m d]] w (fun e w' => ∃ T k, e = .returned (.slice T n k) ∧ TB w' w.heap.size 111 4 T n k n (nbB es) ∧ Below w.heap.size w w') := by
  have hla := Lib.hid ha.ri.len
  have hle := Lib.hid ha.re.len
  have HE := Lib.hid he; clear he
  have hb1 := below_alloc w (.cells #[.slice A n c, .slice F m d] 27)
  have X := Blk.new w 27 #[.slice A n c, .slice F m d]
  obtain ⟨x0, x1⟩ := X.cells2
  have hmk := run_make_row' (P := Tryz.prog) 111 4 (.bool false) 1 Tryz.underlying111 bool_info rfl .i64 .i64 n (by omega) (by omega)
  have ho0 : TB ((w.alloc (.cells #[.slice A n c, .slice F m d] 27)).alloc (.cells #[] 111)) w.heap.size 111 4 (some ⟨(w.alloc (.cells #[.slice A n c, .slice F m d] 27)).heap.size, 0, none⟩) 0 0 n (nbB []) :=
    TB.of_own (OS.lit (w.alloc (.cells #[.slice A n c, .slice F m d] 27)) w.heap.size 111 1 0 #[] (by simp) rfl (by omega)) (by decide)
  have hw0 := hb1.alloc hb1.size (.cells #[] 111)
  have X0 := X.alloc (.cells #[] 111)
  go_enter Tryz.func69, Tryz.ntmps69
  go_wp2
  clear x0 x1 hb1 X
  go_loopw [4, 5] (fun v i wr => ∃ (k : Nat) (T : Option Addr) (q : Nat), k ≤ n ∧ i = .int .i64 k ∧ v = .slice T k q ∧ TB wr w.heap.size 111 4 T k q n (nbB []) ∧ Below w.heap.size w wr ∧ Blk wr w.heap.size 27 #[.slice A n c, .slice F m d]) (fun _ i _ => n - (intOf i).toNat)
  case atStart => exact ⟨0, _, _, Nat.zero_le _, rfl, by simp, ho0, hw0, X0⟩
  case round =>
    clear ho0 hw0 X0
    obtain ⟨k, T, q, hk, rfl, rfl, ho, hw, X⟩ := hrel
    by_cases hlt : k < n
    · obtain ⟨vs, hov⟩ := ho
      have hb1 := below_alloc wr (.cells (madeCells #[.bool false] n) 4)
      have hov1 := hov.below hb1
      have hrow := OS.made wr w.heap.size 4 (.bool false) n hw.size (by omega)
      rw [bools_false n] at hrow
      have hap := hov.apart_new (v := (some ⟨wr.heap.size, 0, none⟩, n, n)) (fun b hb => by simp [blk] at hb; omega)
      have hw1 := hw.alloc hw.size (.cells (madeCells #[.bool false] n) 4)
      have X1 := X.after hb1
      clear hov hb1
      go_wp2_with (at_builtin; refine app_tab _ rfl (.tmp 17) (.tmp 20) rfl w.heap.size T k q n vs (nbB []) rfl hov1 (some ⟨wr.heap.size, 0, none⟩, n, n) rfl (by rw [show nbB [] k = fun _ => false from by funext b; simp [nbB]]; exact hrow) hap _ rfl (by simp) (by omega) (by have := hw.size; simp; omega) ?_; intro A2 c2 w3 ho3 hg3)
      have hw3 := below_own hw1 hg3 hw1.size (fun b hb => (hov1.os.lt hb).1)
      have X3 := X1.grown hg3 (OS.typed' hov1.os X1 (by decide))
      clear hov1 hrow hap hw1 X1 hg3
      go_roundw
      case rel => exact ⟨k + 1, _, _, by omega, by go_num, rfl, ho3, hw3, X3⟩
      case measure => simp [intOf]; omega
    · obtain rfl : k = n := by omega
      clear hmk
      obtain ⟨vs, hv⟩ := ho
      obtain ⟨ii, hi, hi0, hi1, hi2⟩ := info_parts edge_info
      go_wp2
      go_loopw [6] (fun i wr => ∃ (j : Nat), j ≤ m ∧ i = .int .i64 j ∧ TBv wr w.heap.size 111 4 T k q vs k (nbB (es.take j)) ∧ Below w.heap.size w wr ∧ Blk wr w.heap.size 27 #[.slice A k c, .slice F m d]) (fun i _ => m - (intOf i).toNat)
      case atStart => exact ⟨0, Nat.zero_le _, rfl, hv, hw, X⟩
      case round =>
        clear hw X hv
        obtain ⟨j, hj, rfl, hv, hw, X⟩ := hrel
        by_cases hjm : j < m
        · obtain ⟨ge, oe, rfl, ce1, ce2, i1, i2⟩ := ha.re.get hjm
          obtain ⟨x, y, hx, hy, hxn, hyn⟩ := HE.out j (by rw [hle.out]; exact hjm)
          have hst := Lib.hid (nbB_step (es := es) (k := j) (by rw [hle.out]; exact hjm) hx hy)
          rw [hx] at ce1
          rw [hy] at ce2
          clear i1 i2 hx hy
          have c1 := below_cell hw ce1
          have c2 := below_cell hw ce2
          have f1 := X.cells2.2
          have hb1 := below_alloc wr (.cells #[.int .i64 (x : Int), .int .i64 (y : Int)] 65)
          have hv1 := hv.below hb1
          have hw1 := hw.alloc hw.size (.cells #[.int .i64 (x : Int), .int .i64 (y : Int)] 65)
          have X1 := X.after hb1
          have E1 := Blk.new wr 65 #[.int .i64 (x : Int), .int .i64 (y : Int)]
          clear hv hw X ce1 ce2 hb1
          obtain ⟨e10, e11⟩ := E1.cells2
          obtain ⟨g, r, kk, rfl, d1, d2, d3, d4, d5, d6, d7, ⟨_, rfl, d8⟩, hs⟩ := hv1.at_ hxn hyn
          go_wp2
          refine region_last (P := Tryz.prog) (S := fun w' => w'.cell? ⟨wr.heap.size, 0, none⟩ = some (.int .i64 (x : Int)) ∧ w'.cell? ⟨wr.heap.size, 1, none⟩ = some (.int .i64 (y : Int)) ∧ w'.cell? ⟨g, x, none⟩ = some (.slice (some ⟨r, 0, none⟩) k kk)) (by kernel_rfl) (by simp only [List.getLast?_cons_cons, List.getLast?_singleton]; rfl) (by dsimp only [List.dropLast]) (by kernel_rfl) ⟨by simp, by simp, by simpa using d1⟩ ?_
          intro hS
          refine wpAnyH_take (i := 0) (v := ?_) rfl (by kernel_rfl) (by kernel_rfl) (by kernel_rfl) (fun _ _ _ h => h) (Or.inl ⟨by rfl, ?_⟩) (by assumption) ?_
          rotate_left
          · (intro w hSw; (try dsimp only at hSw); go_simp; (try with_reducible rfl))
          simp only [Act.put, List.setIfInBounds_toArray, List.set_cons_zero, List.set_cons_succ]
          refine wpAnyH_take (i := 1) (v := ?_) rfl (by kernel_rfl) (by kernel_rfl) (by kernel_rfl) (fun _ _ _ h => h) (Or.inl ⟨by rfl, ?_⟩) (by assumption) ?_
          rotate_left
          · (intro w hSw; (try dsimp only at hSw); go_simp; (try with_reducible rfl))
          simp only [Act.put, List.setIfInBounds_toArray, List.set_cons_zero, List.set_cons_succ]
          refine wpAnyH_take (i := 2) (v := ?_) rfl (by kernel_rfl) (by kernel_rfl) (by kernel_rfl) (fun _ _ _ h => h) (Or.inl ⟨by rfl, ?_⟩) (by assumption) ?_
          rotate_left
          · (intro w hSw; (try dsimp only at hSw); go_simp; (try with_reducible rfl))
          simp only [Act.put, List.setIfInBounds_toArray, List.set_cons_zero, List.set_cons_succ]
          refine wpAnyH_take (i := 3) (v := ?_) rfl (by kernel_rfl) (by kernel_rfl) (by kernel_rfl) (fun _ _ _ h => h) (Or.inl ⟨by rfl, ?_⟩) (by assumption) ?_
          rotate_left
          · (intro w hSw; (try dsimp only at hSw); go_simp; (try with_reducible rfl))
          simp only [Act.put, List.setIfInBounds_toArray, List.set_cons_zero, List.set_cons_succ]
          refine wpAnyH_take (i := 4) (v := ?_) rfl (by kernel_rfl) (by kernel_rfl) (by kernel_rfl) (fun _ _ _ h => h) (Or.inl ⟨by rfl, ?_⟩) (by assumption) ?_
          rotate_left
          · (intro w hSw; (try dsimp only at hSw); go_simp; (try with_reducible rfl))
          simp only [Act.put, List.setIfInBounds_toArray, List.set_cons_zero, List.set_cons_succ]
          refine wpAnyH_take (i := 5) (v := ?_) rfl (by kernel_rfl) (by kernel_rfl) (by kernel_rfl) (fun _ _ _ h => h) (Or.inl ⟨by rfl, ?_⟩) (by assumption) ?_
          rotate_left
          · (intro w hSw; (try dsimp only at hSw); go_simp; (try with_reducible rfl))
          simp only [Act.put, List.setIfInBounds_toArray, List.set_cons_zero, List.set_cons_succ]
          refine wpAnyH_take (i := 6) (v := ?_) rfl (by kernel_rfl) (by kernel_rfl) (by kernel_rfl) (fun _ _ _ h => h) (Or.inl ⟨by rfl, ?_⟩) (by assumption) ?_
          rotate_left
          · (intro w hSw; (try dsimp only at hSw); go_simp; (try with_reducible rfl))
          simp only [Act.put, List.setIfInBounds_toArray, List.set_cons_zero, List.set_cons_succ]
          refine wpAnyH_take (i := 7) (v := ?_) rfl (by kernel_rfl) (by kernel_rfl) (by kernel_rfl) (fun _ _ _ h => h) (Or.inl ⟨by rfl, ?_⟩) (by assumption) ?_
          rotate_left
          · (intro w hSw; (try dsimp only at hSw); go_simp; (try with_reducible rfl))
          simp only [Act.put, List.setIfInBounds_toArray, List.set_cons_zero, List.set_cons_succ]
          refine wpAnyH_done (by kernel_rfl) ?_ _
          dsimp only [atEnd]
          clear hS
          go_wp2
          have n1 := OS.typed' d8 E1 (by decide)
          have n2 := OS.typed' d8 X1 (by decide)
          simp only [blk, Option.map_some, ne_eq, Option.some.injEq] at n1 n2
          have hv2 := (hs true).below (below_drewn _ 1)
          have hw2 := (Below.setCell hw1 (p := ⟨r, y, none⟩) d6 (.bool true)).trans (below_drewn' _ _ 1)
          have X2 := (X1.far (p := ⟨r, y, none⟩) n2 (.bool true)).after (below_drewn _ 1)
          have E2 := (E1.far (p := ⟨r, y, none⟩) n1 (.bool true)).after (below_drewn _ 1)
          simp only [← World.drew_is_drewN] at hv2 hw2 X2 E2
          clear hs hv1 hw1 X1 E1 e10 e11 d1 d2 d3 d4 d5 d6 d7 d8 n1 n2
          generalize World.drew (World.setCell _ _ _) = W at *
          obtain ⟨e10, e11⟩ := E2.cells2
          obtain ⟨g', r', kk', hg', d1, d2, d3, d4, d5, d6, d7, ⟨_, rfl, d8⟩, hs⟩ := hv2.at_ hyn hxn
          cases hg'
          refine region_last (P := Tryz.prog) (S := fun w' => w'.cell? ⟨wr.heap.size, 0, none⟩ = some (.int .i64 (x : Int)) ∧ w'.cell? ⟨wr.heap.size, 1, none⟩ = some (.int .i64 (y : Int)) ∧ w'.cell? ⟨g, y, none⟩ = some (.slice (some ⟨r', 0, none⟩) k kk')) (by kernel_rfl) (by simp only [List.getLast?_cons_cons, List.getLast?_singleton]; rfl) (by dsimp only [List.dropLast]) (by kernel_rfl) ⟨by simpa using e10, by simpa using e11, by simpa using d1⟩ ?_
          intro hS
          refine wpAnyH_take (i := 0) (v := ?_) rfl (by kernel_rfl) (by kernel_rfl) (by kernel_rfl) (fun _ _ _ h => h) (Or.inl ⟨by rfl, ?_⟩) (by assumption) ?_
          rotate_left
          · (intro w hSw; (try dsimp only at hSw); go_simp; (try with_reducible rfl))
          simp only [Act.put, List.setIfInBounds_toArray, List.set_cons_zero, List.set_cons_succ]
          refine wpAnyH_take (i := 1) (v := ?_) rfl (by kernel_rfl) (by kernel_rfl) (by kernel_rfl) (fun _ _ _ h => h) (Or.inl ⟨by rfl, ?_⟩) (by assumption) ?_
          rotate_left
          · (intro w hSw; (try dsimp only at hSw); go_simp; (try with_reducible rfl))
          simp only [Act.put, List.setIfInBounds_toArray, List.set_cons_zero, List.set_cons_succ]
          refine wpAnyH_take (i := 2) (v := ?_) rfl (by kernel_rfl) (by kernel_rfl) (by kernel_rfl) (fun _ _ _ h => h) (Or.inl ⟨by rfl, ?_⟩) (by assumption) ?_
          rotate_left
          · (intro w hSw; (try dsimp only at hSw); go_simp; (try with_reducible rfl))
          simp only [Act.put, List.setIfInBounds_toArray, List.set_cons_zero, List.set_cons_succ]
          refine wpAnyH_take (i := 3) (v := ?_) rfl (by kernel_rfl) (by kernel_rfl) (by kernel_rfl) (fun _ _ _ h => h) (Or.inl ⟨by rfl, ?_⟩) (by assumption) ?_
          rotate_left
          · (intro w hSw; (try dsimp only at hSw); go_simp; (try with_reducible rfl))
          simp only [Act.put, List.setIfInBounds_toArray, List.set_cons_zero, List.set_cons_succ]
          refine wpAnyH_take (i := 4) (v := ?_) rfl (by kernel_rfl) (by kernel_rfl) (by kernel_rfl) (fun _ _ _ h => h) (Or.inl ⟨by rfl, ?_⟩) (by assumption) ?_
          rotate_left
          · (intro w hSw; (try dsimp only at hSw); go_simp; (try with_reducible rfl))
          simp only [Act.put, List.setIfInBounds_toArray, List.set_cons_zero, List.set_cons_succ]
          refine wpAnyH_take (i := 5) (v := ?_) rfl (by kernel_rfl) (by kernel_rfl) (by kernel_rfl) (fun _ _ _ h => h) (Or.inl ⟨by rfl, ?_⟩) (by assumption) ?_
          rotate_left
          · (intro w hSw; (try dsimp only at hSw); go_simp; (try with_reducible rfl))
          simp only [Act.put, List.setIfInBounds_toArray, List.set_cons_zero, List.set_cons_succ]
          refine wpAnyH_take (i := 6) (v := ?_) rfl (by kernel_rfl) (by kernel_rfl) (by kernel_rfl) (fun _ _ _ h => h) (Or.inl ⟨by rfl, ?_⟩) (by assumption) ?_
          rotate_left
          · (intro w hSw; (try dsimp only at hSw); go_simp; (try with_reducible rfl))
          simp only [Act.put, List.setIfInBounds_toArray, List.set_cons_zero, List.set_cons_succ]
          refine wpAnyH_take (i := 7) (v := ?_) rfl (by kernel_rfl) (by kernel_rfl) (by kernel_rfl) (fun _ _ _ h => h) (Or.inl ⟨by rfl, ?_⟩) (by assumption) ?_
          rotate_left
          · (intro w hSw; (try dsimp only at hSw); go_simp; (try with_reducible rfl))
          simp only [Act.put, List.setIfInBounds_toArray, List.set_cons_zero, List.set_cons_succ]
          refine wpAnyH_done (by kernel_rfl) ?_ _
          dsimp only [atEnd]
          clear hS
          go_wp2
          go_roundw
          case rel =>
            have n2 := OS.typed' d8 X2 (by decide)
            simp only [blk, Option.map_some, ne_eq, Option.some.injEq] at n2
            have hv3 := (hs true).below (below_drewn _ 1)
            have hw3 := (Below.setCell hw2 (p := ⟨r', x, none⟩) d6 (.bool true)).trans (below_drewn' _ _ 1)
            have X3 := (X2.far (p := ⟨r', x, none⟩) n2 (.bool true)).after (below_drewn _ 1)
            exact ⟨j + 1, by omega, by go_num, by rw [← funext fun a => funext fun b => hst.out a b]; exact hv3, hw3, X3⟩
          case measure => simp [intOf]; omega
        · obtain rfl : j = m := by omega
          have f1 := X.cells2.2
          go_wp2
          go_ret
          exact ⟨_, _, rfl, ⟨vs, by rw [List.take_of_length_le (by rw [hle.out]; omega)] at hv; exact hv⟩, hw⟩
end Go.Proofs.YtkihflnenifcgaaGreatDoor
/- The lists of neighbors, the reference's side. No condition beyond those stated. -/
namespace Go.Proofs.YtkihflnenifcgaaGreatDoor
open Go.RowKit

theorem graph_info : (Tryz.prog.info? 27).map (fun i => (i.zero, i.size, i.bytes)) = some (some (.agg #[.slice none 0 0, .slice none 0 0]), 2, 48) := by kernel_rfl
def nearTo (es : List Ed) (a j : Nat) : List Int := ((List.range j).filter fun (b : Nat) => nbB es a b).map fun (b : Nat) => (b : Int)
theorem nearTo_all (n : Nat) (es : List Ed) (a : Nat) : nearTo es a n = nearV n es a := rfl
theorem nearTo_yes {es : List Ed} {a j : Nat} (h : nbB es a j = true) : nearTo es a (j + 1) = nearTo es a j ++ [(j : Int)] := by simp [nearTo, List.range_succ, List.filter_append, h]
theorem nearTo_no {es : List Ed} {a j : Nat} (h : nbB es a j = false) : nearTo es a (j + 1) = nearTo es a j := by simp [nearTo, List.range_succ, List.filter_append, h]
theorem nearTo_len (es : List Ed) (a j : Nat) : (nearTo es a j).length ≤ j := by
  unfold nearTo
  rw [List.length_map]
  exact Nat.le_trans (List.length_filter_le _ _) (by simp)
theorem nearsTo_step (n : Nat) (es : List Ed) (k : Nat) : (List.range (k + 1)).map (nearV n es) = (List.range k).map (nearV n es) ++ [nearV n es k] := by simp [List.range_succ]
set_option maxRecDepth 100000 in
set_option maxHeartbeats 4000000 in
theorem l21Near_any (A : Option Addr) (n c : Nat) (F : Option Addr) (m d : Nat) (cs : List Int) (es : List Ed) (w : World) (ha : RG w A n F m cs es) (hn : n ≤ 4096) (hm : m ≤ 1048576) (he : EdgesIn n es) :
    Calls Tryz.prog 91 #[.agg #[.slice A n c, .slice F m d]] w (RetR w 24 2 (nearP n es)) := by
  have hb1 := below_alloc w (.cells #[.slice A n c, .slice F m d] 27)
  have X := Blk.new w 27 #[.slice A n c, .slice F m d]
  obtain ⟨x0, x1⟩ := X.cells2
  have ha1 := ha.keep hb1
  obtain ⟨ii, hi, hi0, hi1, hi2⟩ := info_parts graph_info
  have hs1 : w.heap.size < (w.alloc (.cells #[.slice A n c, .slice F m d] 27)).heap.size := by simp
  have ht := l21Table_any A n c F m d cs es _ ha1 hn hm he
  have H0 := Lib.hid (And.intro hb1 hs1)
  clear X hb1 hs1
  go_enter Tryz.func91, Tryz.ntmps91
  go_wp2_with (go_at_call 69; refine ht.mono ?_; rintro e w1 ⟨T, q, rfl, hT, hb2⟩)
  have hw1 := H0.out.1.trans (hb2.mono (Nat.le_of_lt H0.out.2))
  have hT := hT.more (Nat.le_of_lt H0.out.2)
  have ho0 : OR (w1.alloc (.cells #[] 24)) w.heap.size 24 2 (some ⟨w1.heap.size, 0, none⟩) 0 0 [] := ⟨[], OS.lit w1 w.heap.size 24 1 0 #[] hw1.size rfl (by omega), rfl, fun _ _ _ h => by simp at h, fun _ _ _ _ _ h => by simp at h, by decide⟩
  have hT0 := hT.below (below_alloc w1 (.cells #[] 24))
  have hw0 := hw1.alloc hw1.size (.cells #[] 24)
  clear hb2 hT hw1 ht ha1 x0 x1
  go_wp2
  go_loopw [4, 5] (fun v i wr => ∃ (k : Nat) (R : Option Addr) (p : Nat), k ≤ n ∧ i = .int .i64 k ∧ v = .slice R k p ∧ OR wr w.heap.size 24 2 R k p ((List.range k).map (nearV n es)) ∧ TB wr w.heap.size 111 4 T n q n (nbB es) ∧ Below w.heap.size w wr) (fun _ i _ => n - (intOf i).toNat)
  case atStart => exact ⟨0, _, _, Nat.zero_le _, rfl, by simp, ho0, hT0, hw0⟩
  case round =>
    clear ho0 hT0 hw0
    obtain ⟨k, R, p, hk, rfl, rfl, ho, hT, hw⟩ := hrel
    have hqc := hT.cap
    obtain ⟨wo, rfl⟩ : ∃ wo : World, wo = wr := ⟨_, rfl⟩
    by_cases hlt : k < n
    · have hl0 := OI.lit wo wo.heap.size 2 [] (Nat.le_refl _) (by simp) (by intro z hz; cases hz)
      have hbl := below_alloc wo (.cells (ints []).toArray 2)
      simp only [ints, List.map_nil, List.length_nil] at hl0 hbl
      go_wp2
      go_loopw [6, 7] (fun v i wr => ∃ (j : Nat) (B : Option Addr) (p1 l : Nat), j ≤ n ∧ i = .int .i64 j ∧ v = .slice B l p1 ∧ OI wr wo.heap.size 2 B l p1 (nearTo es k j) ∧ Below wo.heap.size wo wr) (fun _ i _ => n - (intOf i).toNat)
      case atStart => exact ⟨0, _, _, _, Nat.zero_le _, rfl, rfl, hl0, hbl⟩
      case round =>
        clear hl0 hbl
        obtain ⟨j, B, p1, l, hj, rfl, rfl, hl, hbw⟩ := hrel
        by_cases hjl : j < n
        · have hTi := hT.below hbw
          obtain ⟨vs, hTv⟩ := hTi
          obtain ⟨g, r, kk, rfl, d1, d2, d3, d4, d5, d6, d7, -, -⟩ := hTv.at_ hlt hjl
          have hll := hl.len
          have hnl := nearTo_len es k j
          have hw2 := hw.trans (hbw.mono hw.size)
          cases hq : nbB es k j with
          | false =>
            rw [hq] at d4
            have hN := Lib.hid (nearTo_no (es := es) (a := k) (j := j) hq)
            clear hTv
            go_wp2
            go_roundw
            case rel => exact ⟨j + 1, _, _, _, by omega, by go_num, rfl, by rw [hN.out]; exact hl, hbw⟩
            case measure => simp [intOf]; omega
          | true =>
            rw [hq] at d4
            have hN := Lib.hid (nearTo_yes (es := es) (a := k) (j := j) hq)
            clear hTv
            go_wp2_with (at_builtin; refine app_int _ rfl (.tmp 31) (.tmp 33) rfl wo.heap.size B l p1 (nearTo es k j) rfl hl (j : Int) _ rfl (by simp) ⟨by omega, by omega⟩ (by omega) hbw.size ?_; intro A' c' w3 ho3 hg3 hn3)
            have hbw3 := below_own hbw hg3 hbw.size (fun b hb => (hl.os.lt hb).1)
            go_roundw
            case rel => exact ⟨j + 1, _, _, _, by omega, by go_num, rfl, by rw [hN.out]; exact ho3, hbw3⟩
            case measure => simp [intOf]; omega
        · obtain rfl : j = n := by omega
          have hT2 := hT.below hbw
          have hw2 := hw.trans (hbw.mono hw.size)
          obtain ⟨vs, hov⟩ := ho
          rw [nearTo_all] at hl
          have hap := hov.apart_new (v := (B, l, p1)) (fun b hb => (hl.os.lt hb).1)
          have hov := hov.below hbw
          obtain ⟨us, hTv⟩ := hT2
          have hsz := hw2.size
          have hst := Lib.hid (nearsTo_step j es k)
          go_wp2_with (at_builtin; refine app_row _ rfl (.tmp 35) (.tmp 37) rfl w.heap.size R k p vs _ rfl hov (B, l, p1) (nearV j es k) (hl.more hw.size) hap _ rfl (by simp) (by omega) hsz ?_; intro A' c' w3 ho3 hg3 hn3)
          have hT3 := hTv.kept hg3 (OS.typed hTv.os hov.os (by decide)) (fun i v hv => OS.typed (hTv.rows i v hv).2 hov.os (by decide))
          have hw3 := below_own hw2 hg3 hsz (fun b hb => (hov.os.lt hb).1)
          go_roundw
          case rel => exact ⟨k + 1, _, _, by omega, by go_num, rfl, by rw [hst.out]; exact ⟨_, ho3⟩, ⟨us, hT3⟩, hw3⟩
          case measure => simp [intOf]; omega
    · obtain rfl : k = n := by omega
      go_wp2
      go_ret
      exact ⟨_, _, _, rfl, ho, hw⟩
end Go.Proofs.YtkihflnenifcgaaGreatDoor
/-
  DERIVED: THE SHELF's CONTRACTS AT THIS DUMP, IN PLAIN WORDS (tools/lay-plain.mjs out of 'YtkihflnenifcgaaGreatDoorLayX.lean', which tools/lay-shelf.mjs wrote): THE SAME DECLARATIONS UNDER THE SAME NAMES: 'import', 'namespace', 'open', 'def', 'theorem' AND NOTHING ELSE: no command of the shelf's: FOR A HAND-IN. Each laying: the table of numbers ('.._ren') and one theorem, a field a fact of the dump's own or the kernel's comparison; each contract: ONE APPLICATION.
-/
namespace Go.Proofs
open Go.Shelf
def Tryz.srtL_ren : Go.Shelf.Ren := ⟨fun | 5 => 51 | 8 => 81 | 7 => 80 | 19 => 112 | 20 => 113 | 10 => 103 | 11 => 104 | 12 => 105 | 13 => 106 | 14 => 107 | 15 => 108 | 16 => 109 | 17 => 110 | 18 => 111 | 30 => 128 | 31 => 129 | 32 => 130 | 33 => 131 | 34 => 132 | 35 => 102 | 40 => 158 | n => n, fun | 23 => 24 | 25 => 2 | 3 => 3 | 32 => 119 | 22 => 24 | 0 => 0 | 44 => 141 | 46 => 79 | 4 => 4 | 36 => 134 | 35 => 133 | 41 => 129 | 5 => 5 | 9 => 9 | 53 => 155 | 57 => 159 | 63 => 180 | 64 => 181 | n => n, fun | n => n⟩
theorem Tryz.srtL : Go.Proofs.SlLaysM.n5 Tryz.prog Tryz.srtL_ren := {
  mixed := by kernel_rfl
  f5 := ⟨Tryz.f51.name, by decide, Tryz.func51.trans (congrArg some (by kernel_rfl))⟩
  f7 := ⟨Tryz.f80.name, by decide, Tryz.func80.trans (congrArg some (by kernel_rfl))⟩
  f8 := Tryz.func81.trans (congrArg some (by kernel_rfl))
  f10 := ⟨Tryz.f103.name, by decide, Tryz.func103.trans (congrArg some (by kernel_rfl))⟩
  f11 := ⟨Tryz.f104.name, by decide, Tryz.func104.trans (congrArg some (by kernel_rfl))⟩
  f12 := ⟨Tryz.f105.name, by decide, Tryz.func105.trans (congrArg some (by kernel_rfl))⟩
  f13 := ⟨Tryz.f106.name, by decide, Tryz.func106.trans (congrArg some (by kernel_rfl))⟩
  f14 := ⟨Tryz.f107.name, by decide, Tryz.func107.trans (congrArg some (by kernel_rfl))⟩
  f15 := ⟨Tryz.f108.name, by decide, Tryz.func108.trans (congrArg some (by kernel_rfl))⟩
  f16 := ⟨Tryz.f109.name, by decide, Tryz.func109.trans (congrArg some (by kernel_rfl))⟩
  f17 := ⟨Tryz.f110.name, by decide, Tryz.func110.trans (congrArg some (by kernel_rfl))⟩
  f18 := ⟨Tryz.f111.name, by decide, Tryz.func111.trans (congrArg some (by kernel_rfl))⟩
  f19 := Tryz.func112.trans (congrArg some (by kernel_rfl))
  f20 := Tryz.func113.trans (congrArg some (by kernel_rfl))
  f30 := ⟨Tryz.f128.name, by decide, Tryz.func128.trans (congrArg some (by kernel_rfl))⟩
  f31 := Tryz.func129.trans (congrArg some (by kernel_rfl))
  f32 := Tryz.func130.trans (congrArg some (by kernel_rfl))
  f33 := ⟨Tryz.f131.name, by decide, Tryz.func131.trans (congrArg some (by kernel_rfl))⟩
  f34 := ⟨Tryz.f132.name, by decide, Tryz.func132.trans (congrArg some (by kernel_rfl))⟩
  f35 := ⟨Tryz.f102.name, by decide, Tryz.func102.trans (congrArg some (by kernel_rfl))⟩
  f40 := ⟨Tryz.f158.name, by decide, Tryz.func158.trans (congrArg some (by kernel_rfl))⟩
  t0 := Tryz.underlying0
  a0 := Tryz.isAgg0
  z0 := Tryz.sizeOf0
  v0 := Tryz.zeroValue0
  t3 := Tryz.underlying3
  a3 := Tryz.isAgg3
  z3 := Tryz.sizeOf3
  v3 := Tryz.zeroValue3
  t4 := Tryz.underlying4
  a4 := Tryz.isAgg4
  z4 := Tryz.sizeOf4
  v4 := Tryz.zeroValue4
  t5 := Tryz.underlying5
  a5 := Tryz.isAgg5
  z5 := Tryz.sizeOf5
  v5 := Tryz.zeroValue5
  t9 := Tryz.underlying9
  a9 := Tryz.isAgg9
  z9 := Tryz.sizeOf9
  v9 := Tryz.zeroValue9
  t22 := Tryz.underlying24
  a22 := Tryz.isAgg24
  z22 := Tryz.sizeOf24
  v22 := Tryz.zeroValue24
  t23 := Tryz.underlying24
  a23 := Tryz.isAgg24
  z23 := Tryz.sizeOf24
  v23 := Tryz.zeroValue24
  t25 := Tryz.underlying2
  a25 := Tryz.isAgg2
  z25 := Tryz.sizeOf2
  v25 := Tryz.zeroValue2
  t32 := Tryz.underlying119
  a32 := Tryz.isAgg119
  z32 := Tryz.sizeOf119
  v32 := Tryz.zeroValue119
  t35 := Tryz.underlying133
  a35 := Tryz.isAgg133
  z35 := Tryz.sizeOf133
  v35 := Tryz.zeroValue133
  t36 := Tryz.underlying134
  a36 := Tryz.isAgg134
  z36 := Tryz.sizeOf134
  v36 := Tryz.zeroValue134
  t41 := Tryz.underlying129
  a41 := Tryz.isAgg129
  z41 := Tryz.sizeOf129
  v41 := Tryz.zeroValue129
  t44 := Tryz.underlying141
  a44 := Tryz.isAgg141
  z44 := Tryz.sizeOf141
  v44 := Tryz.zeroValue141
  t46 := Tryz.underlying79
  a46 := Tryz.isAgg79
  z46 := Tryz.sizeOf79
  v46 := Tryz.zeroValue79
  t53 := Tryz.underlying155
  a53 := Tryz.isAgg155
  z53 := Tryz.sizeOf155
  v53 := Tryz.zeroValue155
  t57 := Tryz.underlying159
  a57 := Tryz.isAgg159
  z57 := Tryz.sizeOf159
  v57 := Tryz.zeroValue159
  t63 := Tryz.underlying180
  a63 := Tryz.isAgg180
  z63 := Tryz.sizeOf180
  v63 := Tryz.zeroValue180
  t64 := Tryz.underlying181
  a64 := Tryz.isAgg181
  z64 := Tryz.sizeOf181
  v64 := Tryz.zeroValue181 }
end Go.Proofs
/- The library's sort of numbers, in memory of the call's own. No condition beyond those stated. -/
namespace Go.Proofs.YtkihflnenifcgaaGreatDoor
open Go.RowKit Go.Sort

theorem sort_any (B : Nat) (e : TypeId) (A : Option Addr) (n c : Nat) (zs : List Int) (w : World) (ho : OI w B e A n c zs) (hn : n ≤ 4611686018427387900) :
    Calls Tryz.prog 51 #[.slice A n c] w fun en w' => en = .returned (.tuple #[]) ∧ OI w' B e A n c (srt zs) ∧ w.grownBy w' (blk A) := by
  have hl := ho.len
  have hall : All64 (srt zs) := fun z hz => ho.all z ((srt_perm zs).mem_iff.1 hz)
  rcases ho.os.cases with ⟨rfl, rfl, rfl, hx⟩ | ⟨g, cur, rfl, hB, hg, hnc, hc, hsz, htk⟩
  · have hz : zs = [] := List.eq_nil_of_length_eq_zero hl
    subst hz
    exact (AnyM.slices_Sort_int_none Tryz.srtL none 0 w).mono fun en w' ⟨he, hw⟩ => by
      subst hw
      exact ⟨he, by rw [show srt [] = [] by simp [srt]]; exact OI.nil_ _ _ _, World.grownBy.refl _ _⟩
  · have hlt : g < w.heap.size := (Array.getElem?_eq_some_iff.1 hg).1
    subst hl
    rw [Nat.mul_one] at htk hsz
    have hH : Holds (Value.int .i64) w g 0 zs.toArray := holds_of_blockI hg htk
    exact (AnyM.slices_Sort_int Tryz.srtL g 0 c zs w hH hlt (by omega)).mono fun en w' ⟨he, nn, os, hw⟩ => by
      subst hw
      refine ⟨he, ⟨?_, hall⟩, grownBy_sortedI _⟩
      have := ownsRow_sortedI (w := w) (n := nn) (os := os) (ss := zs) (ts := srt zs) (srt_len zs) hB hg hnc hc (by rw [Nat.mul_one]; exact hsz)
      exact this
end Go.Proofs.YtkihflnenifcgaaGreatDoor
