/- impl.relabeledGraph. No condition beyond those stated. -/
import Derived.Test.YtncknfhfkmmhbaaGreatZBB
set_option linter.unusedVariables false
set_option linter.unusedSimpArgs false
namespace Go.Proofs.YtncknfhfkmmhbaaGreat
open Go.RowKit

theorem GB.cells {w0 wr : World} {rb gb ga : Nat} {n c : Nat} {F : Option Addr} {m d : Nat} {cs : List Int} {es : List Ed} (h : GB w0 wr rb gb (some ⟨ga, 0, none⟩) n c F m d cs es) (j : Nat) {u : Int} (hu : I64 u) :
    GB w0 (wr.setCell ⟨ga, j, none⟩ (.int .i64 u)) rb gb (some ⟨ga, 0, none⟩) n c F m d (cs.set j u) es := by
  have n1 := OS.typed' h.oa.os h.x (by decide)
  have n2 := OS.typed' h.oa.os h.r (by decide)
  have n3 := OS.typed h.of_.os h.oa.os (by decide)
  simp only [blk, Option.map_some, ne_eq, Option.some.injEq] at n1 n2
  exact ⟨Below.setCell h.b (p := ⟨ga, j, none⟩) ((h.oa.os.lt rfl).1) _, h.x.far n1 _, h.r.far n2 _, h.oa.set j hu, h.of_.kept grown_set n3, h.rg, h.wb⟩
def rawE (p : List Int) (e : Ed) : Ed := (nth p e.1.toNat, nth p e.2.toNat)
theorem rawE_img (es : List Ed) (p : List Int) : (es.map (rawE p)).map mmP = es.map (imgE p) := by
  rw [List.map_map]
  rfl
theorem img_nodup {n : Nat} {es : List Ed} {p : List Int} (h : EdgesOk n es) (hp : Perm p) (hl : p.length = n) : (es.map (imgE p)).Nodup := by
  have hn := strict_nodup cmpE_ord h.strict
  rw [List.Nodup, List.pairwise_map]
  refine hn.imp_of_mem fun {e f} he hf hne hi => hne ?_
  obtain ⟨a1, a2, a3⟩ := h.edge e he
  obtain ⟨b1, b2, b3⟩ := h.edge f hf
  unfold imgE mmE at hi
  injection hi with h1 h2
  by_cases hs : nth p e.1.toNat = nth p f.1.toNat
  · have e1 := perm_inj hp (by omega) (by omega) hs
    have e2 := perm_inj hp (i := e.2.toNat) (j := f.2.toNat) (by omega) (by omega) (by omega)
    exact Prod.ext (by omega) (by omega)
  · have e1 := perm_inj hp (i := e.1.toNat) (j := f.2.toNat) (by omega) (by omega) (by omega)
    have e2 := perm_inj hp (i := e.2.toNat) (j := f.1.toNat) (by omega) (by omega) (by omega)
    omega
set_option maxRecDepth 100000 in
set_option maxHeartbeats 4000000 in
theorem relabeledGraph_any (A : Option Addr) (n c : Nat) (F : Option Addr) (m d : Nat) (cs : List Int) (es : List Ed) (P : Option Addr) (nP cP : Nat) (p : List Int) (w : World) (ha : RG w A n F m cs es) (hP : RI w P nP p) (hnP : nP = n) (hp : Perm p) (hn : n ≤ 4096) (hm : m ≤ 1048576) (he : EdgesOk n es) :
    Calls Tryz.prog 102 #[.agg #[.slice A n c, .slice F m d], .slice P nP cP] w (RetG w (relC cs p) (relE es p)) := by
  subst hnP
  have hla := Lib.hid ha.ri.len
  have hle := Lib.hid ha.re.len
  have hlp := Lib.hid hP.len
  have HE := Lib.hid he.inn
  have HND := Lib.hid (img_nodup he hp hP.len); clear he
  have HP := Lib.hid (fun (k : Nat) (h : k < nP) => permAt hp hP.len h); clear hp
  have hmk := run_make_row' (P := Tryz.prog) 33 2 (.int .i64 0) 8 Tryz.underlying33 int_info rfl .i64 .i64 nP (by omega) (by omega)
  generalize hW1 : w.alloc (.cells #[.slice A nP c, .slice F m d] 36) = W1
  have hs1 : W1.heap.size = w.heap.size + 1 := by rw [← hW1]; simp
  generalize hW2 : W1.alloc (.cells #[.slice none 0 0, .slice none 0 0] 36) = W2
  have hs2 : W2.heap.size = w.heap.size + 2 := by rw [← hW2]; simp [hs1]
  generalize hW3 : W2.alloc (.cells (madeCells #[.int .i64 0] nP) 2) = W3
  have hs3 : W3.heap.size = w.heap.size + 3 := by rw [← hW3]; simp [hs2]
  generalize hW4 : W3.alloc (.cells #[.slice (some ⟨w.heap.size + 2, 0, none⟩) nP nP, .slice none 0 0] 36) = W4
  have b1 : Below w.heap.size w W1 := by rw [← hW1]; exact below_alloc w _
  have b2 : Below W1.heap.size W1 W2 := by rw [← hW2]; exact below_alloc W1 _
  have b3 : Below W2.heap.size W2 W3 := by rw [← hW3]; exact below_alloc W2 _
  have b4 : Below W3.heap.size W3 W4 := by rw [← hW4]; exact below_alloc W3 _
  have X1 : Blk W1 w.heap.size 36 #[.slice A nP c, .slice F m d] := by rw [← hW1]; exact Blk.new w _ _
  have R2 : Blk W2 (w.heap.size + 1) 36 #[.slice none 0 0, .slice none 0 0] := by rw [← hW2, ← hs1]; exact Blk.new W1 _ _
  have o3 : OI W3 w.heap.size 2 (some ⟨w.heap.size + 2, 0, none⟩) nP nP (relTo cs p 0) := by
    have := OI.made W2 w.heap.size 2 nP (by omega) (by omega)
    rw [hs2, hW3] at this
    rwa [relTo_zero, hla.out]
  have G4 : Blk W4 (w.heap.size + 3) 36 #[.slice (some ⟨w.heap.size + 2, 0, none⟩) nP nP, .slice none 0 0] := by rw [← hW4, ← hs3]; exact Blk.new W3 _ _
  have X3 := (X1.after b2).after b3
  have X0 := X3.after b4
  have R0 := (R2.after b3).after b4
  have hw2 : Below w.heap.size w W2 := b1.trans (b2.mono (by omega))
  have hw3 : Below w.heap.size w W3 := hw2.trans (b3.mono (by omega))
  have hw4 : Below w.heap.size w W4 := hw3.trans (b4.mono (by omega))
  have G0 : GB w W4 (w.heap.size + 1) (w.heap.size + 3) (some ⟨w.heap.size + 2, 0, none⟩) nP nP none 0 0 (relTo cs p 0) [] := ⟨hw4, G4, R0, o3.below b4, OE.nil_ _ _ _, by omega, by omega⟩
  obtain ⟨y0, -⟩ := (X1.after b2).cells2
  clear b1 b2 b3 b4 R2 o3 G4 R0 hw2 hw3 hw4
  obtain ⟨x0, x1⟩ := X0.cells2
  obtain ⟨g0, g1⟩ := G0.x.cells2
  have f0 := G0.x.frozen 0
  have f1 := G0.x.frozen 1
  go_enter Tryz.func102, Tryz.ntmps102
  go_wp2
  have G1 := G0.edges0 (OE.nil_ W4 w.heap.size 48)
  have X1 := X0.far (p := ⟨w.heap.size + 3, 1, none⟩) (by simp) (.slice none 0 0)
  clear G0 X0 x0 x1 g0 g1 f0 f1 y0 hmk
  go_loopw [18] (fun i wr => ∃ (k : Nat), k ≤ nP ∧ i = .int .i64 k ∧ GB w wr (w.heap.size + 1) (w.heap.size + 3) (some ⟨w.heap.size + 2, 0, none⟩) nP nP none 0 0 (relTo cs p k) [] ∧ Blk wr w.heap.size 36 #[.slice A nP c, .slice F m d]) (fun i _ => nP - (intOf i).toNat)
  case atStart => exact ⟨0, Nat.zero_le _, rfl, G1, X1⟩
  case round =>
    clear G1 X1
    obtain ⟨k, hk, rfl, G, X⟩ := hrel
    by_cases hlt : k < nP
    · obtain ⟨aP, rfl, hcP, iP⟩ := hP.get hlt
      obtain ⟨aA, rfl, hcA, iA⟩ := ha.ri.get hlt
      have hst := Lib.hid (relTo_step cs p k)
      obtain ⟨q, hq, hqn⟩ := HP.out k hlt
      rw [hq] at hcP hst
      rw [Int.toNat_natCast] at hst
      have c1 := below_cell G.b hcP
      have c2 := below_cell G.b hcA
      generalize nth cs k = u at *
      obtain ⟨g', hg', c4, f4⟩ := G.oa.cell hqn
      cases hg'
      clear hcA hcP iP hq
      go_wp2
      have c3 := G.x.cells2.1
      refine region_last (P := Tryz.prog) (S := fun w' => w'.cell? (aP.add k) = some (.int .i64 (q : Int)) ∧ w'.cell? ⟨w.heap.size + 3, 0, none⟩ = some (.slice (some ⟨w.heap.size + 2, 0, none⟩) nP nP)) (by kernel_rfl) (by simp only [List.getLast?_cons_cons, List.getLast?_singleton]; rfl) (by dsimp only [List.dropLast]) (by kernel_rfl) ⟨by simpa using c1, by simpa using c3⟩ ?_
      intro hS
      refine wpAnyH_take (i := 0) (v := ?_) rfl (by kernel_rfl) (by kernel_rfl) (by kernel_rfl) (fun _ _ _ h => h) (Or.inl ⟨by rfl, ?_⟩) (by assumption) ?_
      rotate_left
      · (intro w hSw; (try dsimp only at hSw); go_simp; (try with_reducible rfl))
      simp only [Act.put, List.setIfInBounds_toArray, List.set_cons_zero, List.set_cons_succ]
      refine wpAnyH_take (i := 1) (v := ?_) rfl (by kernel_rfl) (by kernel_rfl) (by kernel_rfl) (fun _ _ _ h => h) (Or.inl ⟨by rfl, ?_⟩) (by assumption) ?_
      rotate_left
      · (intro w hSw; (try dsimp only at hSw); go_simp; (try with_reducible rfl))
      simp only [Act.put, List.setIfInBounds_toArray, List.set_cons_zero, List.set_cons_succ]
      refine wpAnyH_take (i := 2) (v := ?_) rfl (by kernel_rfl) (by kernel_rfl) (by kernel_rfl) (fun _ _ _ h => h) (Or.inl ⟨by rfl, ?_⟩) (by assumption) ?_
      rotate_left
      · (intro w hSw; (try dsimp only at hSw); go_simp; (try with_reducible rfl))
      simp only [Act.put, List.setIfInBounds_toArray, List.set_cons_zero, List.set_cons_succ]
      refine wpAnyH_take (i := 3) (v := ?_) rfl (by kernel_rfl) (by kernel_rfl) (by kernel_rfl) (fun _ _ _ h => h) (Or.inl ⟨by rfl, ?_⟩) (by assumption) ?_
      rotate_left
      · (intro w hSw; (try dsimp only at hSw); go_simp; (try with_reducible rfl))
      simp only [Act.put, List.setIfInBounds_toArray, List.set_cons_zero, List.set_cons_succ]
      refine wpAnyH_take (i := 4) (v := ?_) rfl (by kernel_rfl) (by kernel_rfl) (by kernel_rfl) (fun _ _ _ h => h) (Or.inl ⟨by rfl, ?_⟩) (by assumption) ?_
      rotate_left
      · (intro w hSw; (try dsimp only at hSw); go_simp; (try with_reducible rfl))
      simp only [Act.put, List.setIfInBounds_toArray, List.set_cons_zero, List.set_cons_succ]
      refine wpAnyH_take (i := 5) (v := ?_) rfl (by kernel_rfl) (by kernel_rfl) (by kernel_rfl) (fun _ _ _ h => h) (Or.inl ⟨by rfl, ?_⟩) (by assumption) ?_
      rotate_left
      · (intro w hSw; (try dsimp only at hSw); go_simp; (try with_reducible rfl))
      simp only [Act.put, List.setIfInBounds_toArray, List.set_cons_zero, List.set_cons_succ]
      refine wpAnyH_take (i := 6) (v := ?_) rfl (by kernel_rfl) (by kernel_rfl) (by kernel_rfl) (fun _ _ _ h => h) (Or.inl ⟨by rfl, ?_⟩) (by assumption) ?_
      rotate_left
      · (intro w hSw; (try dsimp only at hSw); go_simp; (try with_reducible rfl))
      simp only [Act.put, List.setIfInBounds_toArray, List.set_cons_zero, List.set_cons_succ]
      refine wpAnyH_take (i := 7) (v := ?_) rfl (by kernel_rfl) (by kernel_rfl) (by kernel_rfl) (fun _ _ _ h => h) (Or.inl ⟨by rfl, ?_⟩) (by assumption) ?_
      rotate_left
      · (intro w hSw; (try dsimp only at hSw); go_simp; (try with_reducible rfl))
      simp only [Act.put, List.setIfInBounds_toArray, List.set_cons_zero, List.set_cons_succ]
      refine wpAnyH_done (by kernel_rfl) ?_ _
      dsimp only [atEnd]
      clear hS c1 c2 c3
      go_wp2
      have n1 := OS.typed' G.oa.os X (by decide)
      simp only [blk, Option.map_some, ne_eq, Option.some.injEq] at n1
      have G2 := (G.cells q iA).step (below_drewn _ 1)
      have X2 := (X.far (p := ⟨w.heap.size + 2, q, none⟩) n1 (.int .i64 u)).after (below_drewn _ 1)
      rw [← hst.out] at G2
      clear G X
      go_roundw
      case rel => exact ⟨k + 1, by omega, by go_num, G2, X2⟩
      case measure => simp [intOf]; omega
    · obtain rfl : k = nP := by omega
      rw [show relTo cs p k = relC cs p from by rw [relC, hla.out]] at G
      obtain ⟨x0, x1⟩ := X.cells2
      obtain ⟨ii, hi, hi0, hi1, hi2⟩ := info_parts edge_info
      go_wp2
      clear x0 x1
      have G0 : GB w wr (w.heap.size + 1) (w.heap.size + 3) (some ⟨w.heap.size + 2, 0, none⟩) k k none 0 0 (relC cs p) ((es.map (rawE p)).take 0) := G
      clear G
      go_loopw [35] (fun i wr => ∃ (j : Nat) (T : Option Addr) (q : Nat), j ≤ m ∧ i = .int .i64 j ∧ GB w wr (w.heap.size + 1) (w.heap.size + 3) (some ⟨w.heap.size + 2, 0, none⟩) k k T j q (relC cs p) ((es.map (rawE p)).take j)) (fun i _ => m - (intOf i).toNat)
      case atStart => exact ⟨0, _, _, Nat.zero_le _, rfl, G0⟩
      case round =>
        clear G0 X
        obtain ⟨j, T, q, hj, rfl, G⟩ := hrel
        by_cases hjm : j < m
        · obtain ⟨ge, oe, rfl, ce1, ce2, i1, i2⟩ := ha.re.get hjm
          obtain ⟨x, y, hx, hy, hxn, hyn⟩ := HE.out j (by rw [hle.out]; exact hjm)
          have hst := Lib.hid (show (es.map (rawE p)).take (j + 1) = (es.map (rawE p)).take j ++ [rawE p (nthE es j)] by rw [List.take_succ_eq_append_getElem (by simp [hle.out]; exact hjm), List.getElem_map, nthE_get (by rw [hle.out]; exact hjm)])
          obtain ⟨aP, rfl, hcX, iX⟩ := hP.get hxn
          obtain ⟨aP', hq', hcY, iY⟩ := hP.get hyn
          cases hq'
          simp only [rawE] at hst
          rw [hx, hy, Int.toNat_natCast, Int.toNat_natCast] at hst
          generalize nth p x = px at *
          generalize nth p y = py at *
          rw [hx] at ce1
          rw [hy] at ce2
          clear i1 i2 hx hy
          have c1 := below_cell G.b ce1
          have c2 := below_cell G.b ce2
          have E1 := Blk.new wr 48 #[.int .i64 (x : Int), .int .i64 (y : Int)]
          have nE : some wr.heap.size ≠ blk T := fun e => by have := (G.of_.os.lt e.symm).2; omega
          have G1 := G.step (below_alloc wr (.cells #[.int .i64 (x : Int), .int .i64 (y : Int)] 48))
          clear G ce1 ce2
          go_wp2
          clear c1 c2
          generalize wr.alloc (.cells #[.int .i64 (x : Int), .int .i64 (y : Int)] 48) = W at *
          generalize wr.heap.size = eb at *
          obtain ⟨e10, e11⟩ := E1.cells2
          have a1 := below_cell G1.b hcX
          have a2 := below_cell G1.b hcY
          have d1 := G1.x.cells2.2
          refine region_last (P := Tryz.prog) (S := fun w' => w'.cell? ⟨eb, 0, none⟩ = some (.int .i64 (x : Int)) ∧ w'.cell? ⟨eb, 1, none⟩ = some (.int .i64 (y : Int)) ∧ w'.cell? ⟨w.heap.size + 3, 1, none⟩ = some (.slice T j q) ∧ w'.cell? (aP.add x) = some (.int .i64 px) ∧ w'.cell? (aP.add y) = some (.int .i64 py)) (by kernel_rfl) (by simp only [List.getLast?_cons_cons, List.getLast?_singleton]; rfl) (by dsimp only [List.dropLast]) (by kernel_rfl) ⟨by simpa using e10, by simpa using e11, by simpa using d1, by simpa using a1, by simpa using a2⟩ ?_
          intro hS
          refine wpAnyH_take (i := 0) (v := ?_) rfl (by kernel_rfl) (by kernel_rfl) (by kernel_rfl) (fun _ _ _ h => h) (Or.inl ⟨by rfl, ?_⟩) (by assumption) ?_
          rotate_left
          · (intro w hSw; (try dsimp only at hSw); go_simp; (try with_reducible rfl))
          simp only [Act.put, List.setIfInBounds_toArray, List.set_cons_zero, List.set_cons_succ]
          refine wpAnyH_take (i := 1) (v := ?_) rfl (by kernel_rfl) (by kernel_rfl) (by kernel_rfl) (fun _ _ _ h => h) (Or.inl ⟨by rfl, ?_⟩) (by assumption) ?_
          rotate_left
          · (intro w hSw; (try dsimp only at hSw); go_simp; (try with_reducible rfl))
          simp only [Act.put, List.setIfInBounds_toArray, List.set_cons_zero, List.set_cons_succ]
          refine wpAnyH_take (i := 2) (v := ?_) rfl (by kernel_rfl) (by kernel_rfl) (by kernel_rfl) (fun _ _ _ h => h) (Or.inl ⟨by rfl, ?_⟩) (by assumption) ?_
          rotate_left
          · (intro w hSw; (try dsimp only at hSw); go_simp; (try with_reducible rfl))
          simp only [Act.put, List.setIfInBounds_toArray, List.set_cons_zero, List.set_cons_succ]
          refine wpAnyH_take (i := 3) (v := ?_) rfl (by kernel_rfl) (by kernel_rfl) (by kernel_rfl) (fun _ _ _ h => h) (Or.inl ⟨by rfl, ?_⟩) (by assumption) ?_
          rotate_left
          · (intro w hSw; (try dsimp only at hSw); go_simp; (try with_reducible rfl))
          simp only [Act.put, List.setIfInBounds_toArray, List.set_cons_zero, List.set_cons_succ]
          refine wpAnyH_take (i := 4) (v := ?_) rfl (by kernel_rfl) (by kernel_rfl) (by kernel_rfl) (fun _ _ _ h => h) (Or.inl ⟨by rfl, ?_⟩) (by assumption) ?_
          rotate_left
          · (intro w hSw; (try dsimp only at hSw); go_simp; (try with_reducible rfl))
          simp only [Act.put, List.setIfInBounds_toArray, List.set_cons_zero, List.set_cons_succ]
          refine wpAnyH_take (i := 5) (v := ?_) rfl (by kernel_rfl) (by kernel_rfl) (by kernel_rfl) (fun _ _ _ h => h) (Or.inl ⟨by rfl, ?_⟩) (by assumption) ?_
          rotate_left
          · (intro w hSw; (try dsimp only at hSw); go_simp; (try with_reducible rfl))
          simp only [Act.put, List.setIfInBounds_toArray, List.set_cons_zero, List.set_cons_succ]
          refine wpAnyH_take (i := 6) (v := ?_) rfl (by kernel_rfl) (by kernel_rfl) (by kernel_rfl) (fun _ _ _ h => h) (Or.inl ⟨by rfl, ?_⟩) (by assumption) ?_
          rotate_left
          · (intro w hSw; (try dsimp only at hSw); go_simp; (try with_reducible rfl))
          simp only [Act.put, List.setIfInBounds_toArray, List.set_cons_zero, List.set_cons_succ]
          refine wpAnyH_take (i := 7) (v := ?_) rfl (by kernel_rfl) (by kernel_rfl) (by kernel_rfl) (fun _ _ _ h => h) (Or.inl ⟨by rfl, ?_⟩) (by assumption) ?_
          rotate_left
          · (intro w hSw; (try dsimp only at hSw); go_simp; (try with_reducible rfl))
          simp only [Act.put, List.setIfInBounds_toArray, List.set_cons_zero, List.set_cons_succ]
          refine wpAnyH_take (i := 8) (v := ?_) rfl (by kernel_rfl) (by kernel_rfl) (by kernel_rfl) (fun _ _ _ h => h) (Or.inl ⟨by rfl, ?_⟩) (by assumption) ?_
          rotate_left
          · (intro w hSw; (try dsimp only at hSw); go_simp; (try with_reducible rfl))
          simp only [Act.put, List.setIfInBounds_toArray, List.set_cons_zero, List.set_cons_succ]
          refine wpAnyH_take (i := 9) (v := ?_) rfl (by kernel_rfl) (by kernel_rfl) (by kernel_rfl) (fun _ _ _ h => h) (Or.inl ⟨by rfl, ?_⟩) (by assumption) ?_
          rotate_left
          · (intro w hSw; (try dsimp only at hSw); go_simp; (try with_reducible rfl))
          simp only [Act.put, List.setIfInBounds_toArray, List.set_cons_zero, List.set_cons_succ]
          refine wpAnyH_take (i := 10) (v := ?_) rfl (by kernel_rfl) (by kernel_rfl) (by kernel_rfl) (fun _ _ _ h => h) (Or.inl ⟨by rfl, ?_⟩) (by assumption) ?_
          rotate_left
          · (intro w hSw; (try dsimp only at hSw); go_simp; (try with_reducible rfl))
          simp only [Act.put, List.setIfInBounds_toArray, List.set_cons_zero, List.set_cons_succ]
          refine wpAnyH_take (i := 11) (v := ?_) rfl (by kernel_rfl) (by kernel_rfl) (by kernel_rfl) (fun _ _ _ h => h) (Or.inl ⟨by rfl, ?_⟩) (by assumption) ?_
          rotate_left
          · (intro w hSw; (try dsimp only at hSw); go_simp; (try with_reducible rfl))
          simp only [Act.put, List.setIfInBounds_toArray, List.set_cons_zero, List.set_cons_succ]
          refine wpAnyH_take (i := 12) (v := ?_) rfl (by kernel_rfl) (by kernel_rfl) (by kernel_rfl) (fun _ _ _ h => h) (Or.inl ⟨by rfl, ?_⟩) (by assumption) ?_
          rotate_left
          · (intro w hSw; (try dsimp only at hSw); go_simp; (try with_reducible rfl))
          simp only [Act.put, List.setIfInBounds_toArray, List.set_cons_zero, List.set_cons_succ]
          have hV := (below_alloc W (.cells #[.int .i64 px, .int .i64 py] 48)).trans (below_drewn' _ _ 1)
          have hlit := (RE.lit1 W 48 px py iX iY).drewN 1
          rw [← World.drew_is_drewN] at hV hlit
          have GV := G1.step hV
          have E1V := E1.after hV
          have v1 := below_cell GV.b hcX
          have v2 := below_cell GV.b hcY
          clear G1 E1 hV
          refine wpAnyH_ready (rs := [13]) (by kernel_rfl) (by simp) ?_
          refine AllReadyH.cons rfl (fun K hK => ?_) AllReadyH.nil
          go_simp
          refine hK.out _ _ ?_ (fun hS1 => ?_)
          · exact ⟨E1V.cells2.1, E1V.cells2.2, GV.x.cells2.2, v1, v2⟩
          clear hK K hS
          refine wpAnyH_ready (rs := [14]) (by kernel_rfl) (by simp) ?_
          refine AllReadyH.cons rfl (fun K hK => ?_) AllReadyH.nil
          refine step_of_list (by rfl) ?_
          refine app_edges _ (by rfl) _ _ (by rfl) w.heap.size T j q _ (by rfl) GV.of_ (some ⟨W.heap.size, 0, none⟩) 1 1 [(px, py)] (by rfl) hlit (fun e he => by simp at he; subst he; exact ⟨iX, iY⟩) (by omega) GV.b.size ?_
          intro T' q' w3 ho3 hg3 hn3
          refine list_onlyK ?_
          have E13 := E1V.grown hg3 nE
          have hw3 := below_own GV.b hg3 GV.b.size (fun b hb => (GV.of_.os.lt hb).1)
          have Gx3 := GV.x.grown hg3 (OS.typed' GV.of_.os GV.x (by decide))
          have v3 := below_cell hw3 hcX
          have v4 := below_cell hw3 hcY
          refine hK.out _ _ ?_ (fun hS2 => ?_)
          · exact ⟨E13.cells2.1, E13.cells2.2, Gx3.cells2.2, v3, v4⟩
          clear hK K hS1
          refine wpAnyH_take (i := 15) (v := ?_) rfl (by kernel_rfl) (by kernel_rfl) (by kernel_rfl) (fun _ _ _ h => h) (Or.inl ⟨by rfl, ?_⟩) (by assumption) ?_
          rotate_left
          · (intro w hSw; (try dsimp only at hSw); go_simp; (try with_reducible rfl))
          simp only [Act.put, List.setIfInBounds_toArray, List.set_cons_zero, List.set_cons_succ]
          refine wpAnyH_done (by kernel_rfl) ?_ _
          dsimp only [atEnd]
          have G3 := GV.edges hg3 ho3
          have f3 := Gx3.frozen 1
          have z3 := Gx3.cells2.2
          rw [← hst.out] at G3
          clear hS2 GV E1V v1 v2 v3 v4 a1 a2 d1 e10 e11 E13 hw3 Gx3 ho3 hg3 hn3 hlit
          go_wp2
          go_roundw
          case rel => exact ⟨j + 1, _, _, by omega, by go_num, G3⟩
          case measure => simp [intOf]; omega
        · obtain rfl : j = m := by omega
          rw [List.take_of_length_le (by simp [hle.out])] at G
          have hso := sortedEdges_any T j q _ wr G.of_.reads hm (by rw [rawE_img]; exact HND.out)
          rw [rawE_img] at hso
          obtain ⟨x0, x1⟩ := G.x.cells2
          have hsz := G.b.size
          go_wp2_with (go_at_call 119; refine hso.mono ?_; rintro e w4 ⟨A4, c4, rfl, ho4, hb4⟩; have G4 := G.step hb4; have G5 := G4.edges0 (ho4.more hsz); have f4 := G4.x.frozen 1; have z4 := G4.x.cells2.2; have u0 := G5.x.cells2.1; have u1 := G5.x.cells2.2; have r0 := G5.r.cells2.1; have r1 := G5.r.cells2.2; have f5 := G5.r.frozen 0; have f6 := G5.r.frozen 1)
          have hD := G5.done
          clear u0 u1 r0 r1
          obtain ⟨r0, r1⟩ := hD.2.2.cells2
          exact bodyPost_ret (v := .agg #[.slice (some ⟨w.heap.size + 2, 0, none⟩) k k, .slice A4 j c4]) (by simp [results, Tryz.results102, go_sem, r0, r1]) rfl ⟨_, _, _, _, _, _, rfl, hD.1, hD.2.1⟩
end Go.Proofs.YtncknfhfkmmhbaaGreat
/- The edges of a graph as one list of numbers. No condition beyond those stated. -/
namespace Go.Proofs.YtncknfhfkmmhbaaGreat
open Go.RowKit

theorem flatE_step {es : List Ed} {k : Nat} (h : k < es.length) : flatE (es.take (k + 1)) = flatE (es.take k) ++ [(nthE es k).1, (nthE es k).2] := by
  rw [List.take_succ_eq_append_getElem h, nthE_get h]
  unfold flatE
  rw [List.flatMap_append]
  rfl
set_option maxRecDepth 100000 in
set_option maxHeartbeats 2000000 in
theorem flat_any (F : Option Addr) (m d : Nat) (es : List Ed) (w : World) (hr : RE w F m es) (hm : m ≤ 1048576) :
    Calls Tryz.prog 120 #[.slice F m d] w (RetI w 2 (flatE es)) := by
  have hle := Lib.hid hr.len
  obtain ⟨ii, hi, hi0, hi1, hi2⟩ := info_parts edge_info
  have ho0 : OI w w.heap.size 2 none (2 * 0) 0 (flatE (es.take 0)) := OI.nil_ _ _ _
  have hb0 : Below w.heap.size w w := Below.refl _ _
  go_enter Tryz.func120, Tryz.ntmps120
  go_wp2
  go_loopw [3, 8] (fun v i wr => ∃ (k : Nat) (T : Option Addr) (q : Nat), k ≤ m ∧ i = .int .i64 k ∧ v = .slice T (2 * k) q ∧ OI wr w.heap.size 2 T (2 * k) q (flatE (es.take k)) ∧ Below w.heap.size w wr) (fun _ i _ => m - (intOf i).toNat)
  case atStart => exact ⟨0, _, _, Nat.zero_le _, rfl, rfl, ho0, hb0⟩
  case round =>
    clear ho0 hb0
    obtain ⟨k, T, q, hk, rfl, rfl, ho, hw⟩ := hrel
    by_cases hlt : k < m
    · obtain ⟨ge, oe, rfl, ce1, ce2, i1, i2⟩ := hr.get hlt
      have hst := Lib.hid (flatE_step (es := es) (k := k) (by rw [hle.out]; exact hlt))
      generalize nthE es k = e at *
      obtain ⟨x, y⟩ := e
      simp only at ce1 ce2 i1 i2 hst
      have c1 := below_cell hw ce1
      have c2 := below_cell hw ce2
      obtain ⟨e1, e2⟩ := (Blk.new wr 48 #[.int .i64 x, .int .i64 y]).cells2
      generalize hW1 : wr.alloc (.cells #[.int .i64 x, .int .i64 y] 48) = W1 at *
      have b1 : Below wr.heap.size wr W1 := by rw [← hW1]; exact below_alloc wr _
      have hL : OI (W1.alloc (.cells #[.int .i64 x, .int .i64 y] 2)) w.heap.size 2 (some ⟨W1.heap.size, 0, none⟩) 2 2 [x, y] := OI.lit W1 w.heap.size 2 [x, y] (Nat.le_trans hw.size b1.size) (by simp) (fun z hz => by simp at hz; rcases hz with rfl | rfl <;> assumption)
      have b2 := below_alloc W1 (.cells #[.int .i64 x, .int .i64 y] 2)
      have ho1 := (ho.below b1).below b2
      have hw1 := (hw.trans (b1.mono hw.size)).trans (b2.mono (Nat.le_trans hw.size b1.size))
      clear ho hw
      go_wp2_with (at_builtin; refine app_ints _ rfl (.tmp 12) (.tmp 17) rfl w.heap.size T (2 * k) q _ rfl ho1 (some ⟨W1.heap.size, 0, none⟩) 2 2 [x, y] rfl hL.reads (by omega) hw1.size ?_; intro A' c' w3 ho3 hg3 hn3)
      have hw3 := below_own hw1 hg3 hw1.size (fun b hb => (ho1.os.lt hb).1)
      rw [← hst.out] at ho3
      go_roundw
      case rel => exact ⟨k + 1, _, _, by omega, by go_num, rfl, ho3, hw3⟩
      case measure => simp [intOf]; omega
    · obtain rfl : k = m := by omega
      rw [List.take_of_length_le (by rw [hle.out]; exact Nat.le_refl _)] at ho
      go_wp2
      go_ret
      exact ⟨_, _, _, rfl, ho, hw⟩
end Go.Proofs.YtncknfhfkmmhbaaGreat
