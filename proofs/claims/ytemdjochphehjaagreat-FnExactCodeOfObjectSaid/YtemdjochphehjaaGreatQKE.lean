/- The code that an object stands for: the program's function. No condition beyond those stated. -/
import Derived.Test.YtemdjochphehjaaGreatQKD
import Derived.Test.YtemdjochphehjaaGreatQJG
import Derived.Test.YtemdjochphehjaaGreatQKC
import Derived.Test.YtemdjochphehjaaGreatQGE
import Derived.Test.YtemdjochphehjaaGreatQJH
import Derived.Deep.RegionHeldLaw
set_option linter.unusedVariables false
set_option linter.unusedSimpArgs false
namespace Go.Proofs.YtemdjochphehjaaGreat
open Go.RowKit

theorem four_cells {w : World} {g h : Nat} {T U : TypeId} {a b c x y z : Value} (hF : Blk w g T #[a, b, c]) (hX : Blk w h U #[x, y, z]) : w.cell? ⟨g, 0, none⟩ = some a ∧ w.cell? ⟨g, 1, none⟩ = some b ∧ w.cell? ⟨g, 2, none⟩ = some c ∧ w.cell? ⟨h, 2, none⟩ = some z := ⟨hF.cell 0, hF.cell 1, hF.cell 2, hX.cell 2⟩
set_option maxHeartbeats 1600000 in
theorem codeOfRows_any (kk s P D code : Int) (f : List Int) (A : Option Addr) (n c : Nat) (zss : List (List Int)) (w : World) (ha : RR w A n zss) (hn : n ≤ 1099511627776) (hr : cells zss ≤ 1099511627776)
    (hmk : ∀ W : World, Calls Tryz.prog 54 #[.int .i64 s] W (RetFC W P D f code)) :
    Calls Tryz.prog 70 #[.agg #[.int .i64 kk, .int .i64 s, .slice A n c]] w (RetCo w P D f zss) := by
  have hb1 := (below_alloc w (.cells #[.int .i64 kk, .int .i64 s, .slice A n c] 30)).alloc (by simp) (.cells #[.int .i64 0, .int .i64 0, .slice none 0 0, .slice none 0 0] 35)
  have X0 := (Blk.new w 30 #[.int .i64 kk, .int .i64 s, .slice A n c]).alloc (.cells #[.int .i64 0, .int .i64 0, .slice none 0 0, .slice none 0 0] 35)
  have R0 : Blk ((w.alloc (.cells #[.int .i64 kk, .int .i64 s, .slice A n c] 30)).alloc (.cells #[.int .i64 0, .int .i64 0, .slice none 0 0, .slice none 0 0] 35)) (w.heap.size + 1) 35 #[.int .i64 0, .int .i64 0, .slice none 0 0, .slice none 0 0] := by
    have := Blk.new (w.alloc (.cells #[.int .i64 kk, .int .i64 s, .slice A n c] 30)) 35 #[.int .i64 0, .int .i64 0, .slice none 0 0, .slice none 0 0]
    simpa using this
  have hz : ((w.alloc (.cells #[.int .i64 kk, .int .i64 s, .slice A n c] 30)).alloc (.cells #[.int .i64 0, .int .i64 0, .slice none 0 0, .slice none 0 0] 35)).heap.size = w.heap.size + 2 := by simp
  go_enter Tryz.func70, Tryz.ntmps70
  go_wp2_with fail
  generalize (w.alloc (.cells #[.int .i64 kk, .int .i64 s, .slice A n c] 30)).alloc (.cells #[.int .i64 0, .int .i64 0, .slice none 0 0, .slice none 0 0] 35) = W at *
  refine (hmk W).mono ?_
  rintro e w2 ⟨A4, n4, c4, rfl, ho4, hb2⟩
  dsimp only
  have X2 := X0.after hb2
  obtain ⟨x0, x1, x2⟩ := X2.cells3
  go_wp2
  have hba := below_alloc w2 (.cells #[.int .i64 P, .int .i64 D, .slice A4 n4 c4] 33)
  have F1 := Blk.new w2 33 #[.int .i64 P, .int .i64 D, .slice A4 n4 c4]
  have X1 := X2.after hba
  have R1 := (R0.after hb2).after hba
  have o1 := ho4.below hba
  have hb3 := hb2.trans (hba.mono hb2.size)
  have hgf : w.heap.size + 2 ≤ w2.heap.size := by have := hb2.size; omega
  have hs3 : (w2.alloc (.cells #[.int .i64 P, .int .i64 D, .slice A4 n4 c4] 33)).heap.size = w2.heap.size + 1 := by simp
  have HLT := Lib.hid (fun k (hk : blk A4 = some k) => (ho4.os.lt hk))
  clear x0 x1 x2 X2 ho4 hba
  generalize w2.alloc (.cells #[.int .i64 P, .int .i64 D, .slice A4 n4 c4] 33) = w3 at *
  generalize w2.heap.size = gf at *
  have bd : Below w3.heap.size w3 w3.drew := by have := below_drewn w3 1; simpa [← World.drew_is_drewN] using this
  have Fd := F1.after bd
  have Xd := X1.after bd
  have hzz := hb3.size
  have hcp := copyLists_any A n c zss w3.drew (((ha.keep hb1).keep hb3).keep bd) hn hr
  have hzd := bd.size
  have ne : w.heap.size ≠ w.heap.size + 1 := by omega
  have nf : gf ≠ w.heap.size + 1 := by omega
  go_region_held_law (fun w' => w'.cell? ⟨gf, 0, none⟩ = some (.int .i64 P) ∧ w'.cell? ⟨gf, 1, none⟩ = some (.int .i64 D) ∧ w'.cell? ⟨gf, 2, none⟩ = some (.slice A4 n4 c4) ∧ w'.cell? ⟨w.heap.size, 2, none⟩ = some (.slice A n c))
    (first | with_reducible exact four_cells Fd Xd | with_reducible exact four_cells F4 X4 | with_reducible exact four_cells ((((F4.far (p := ⟨w.heap.size + 1, 0, none⟩) nf _).far (p := ⟨w.heap.size + 1, 1, none⟩) nf _).far (p := ⟨w.heap.size + 1, 2, none⟩) nf _).far (p := ⟨w.heap.size + 1, 3, none⟩) nf _) ((((X4.far (p := ⟨w.heap.size + 1, 0, none⟩) ne _).far (p := ⟨w.heap.size + 1, 1, none⟩) ne _).far (p := ⟨w.heap.size + 1, 2, none⟩) ne _).far (p := ⟨w.heap.size + 1, 3, none⟩) ne _))
    ((go_at_call 105; (with_reducible refine hcp.mono ?_); rintro e w4 ⟨A2, n2, c2, rfl, ho, hb⟩; have hb4 := bd.trans (hb.mono hzd); have X4 := X1.after hb4; have F4 := F1.after hb4; have R4 := R1.after hb4; obtain ⟨r0, r1, r2, r3⟩ := tri_blk R4; have f0 := R4.frozen 0; have f1 := (R4.set_ 0 (.int .i64 P)).frozen 1; have f2 := ((R4.set_ 0 (.int .i64 P)).set_ 1 (.int .i64 D)).frozen 2; have f3 := (((R4.set_ 0 (.int .i64 P)).set_ 1 (.int .i64 D)).set_ 2 (.slice A4 n4 c4)).frozen 3; have t1 := (R4.set_ 0 (.int .i64 P)).cell 1; have t2 := ((R4.set_ 0 (.int .i64 P)).set_ 1 (.int .i64 D)).cell 2; have t3 := (((R4.set_ 0 (.int .i64 P)).set_ 1 (.int .i64 D)).set_ 2 (.slice A4 n4 c4)).cell 3))
  have R5 : Blk ((((w4.setCell ⟨w.heap.size + 1, 0, none⟩ (.int .i64 P)).setCell ⟨w.heap.size + 1, 1, none⟩ (.int .i64 D)).setCell ⟨w.heap.size + 1, 2, none⟩ (.slice A4 n4 c4)).setCell ⟨w.heap.size + 1, 3, none⟩ (.slice A2 n2 c2)) (w.heap.size + 1) 35 #[.int .i64 P, .int .i64 D, .slice A4 n4 c4, .slice A2 n2 c2] := by
    have := (((R4.set_ 0 (.int .i64 P)).set_ 1 (.int .i64 D)).set_ 2 (.slice A4 n4 c4)).set_ 3 (.slice A2 n2 c2)
    simpa using this
  have o4 := (o1.below bd).below hb
  have hz4 := hb.size
  have hw4 := hb1.trans (((hb3.trans (bd.mono hzz)).trans (hb.mono (by omega))).mono hb1.size)
  have hm1 : w.heap.size + 2 ≤ w3.drew.heap.size := by omega
  clear r0 r1 r2 r3 f0 f1 f2 f3 t1 t2 t3
  go_wp2
  refine bodyPost_ret (results_cell_row (P := Tryz.prog) rfl _ _ (w.heap.size + 1) 35 _ (0, 0) _ rfl R5 Tryz.underlying35 rfl (by kernel_rfl)) rfl ?_
  refine ⟨A4, n4, c4, A2, n2, c2, w3.drew.heap.size, rfl, ?_, fun k hk => by have := (HLT.out k hk).2; omega, ?_, by omega, by simpa using hz4, ?_⟩
  · refine OI.more (B := w.heap.size + 2) ?_ (by omega)
    repeat (refine OI.setLow ?_ (by simp <;> omega) _)
    rw [hz] at o4
    exact o4
  · repeat (refine OR.setLow ?_ (by simp <;> omega) _)
    exact ho
  · repeat (refine Below.setCell ?_ (by simp <;> omega) _)
    exact hw4
end Go.Proofs.YtemdjochphehjaaGreat
/- The graph of any rows: the program's function. No condition beyond those stated. -/
namespace Go.Proofs.YtemdjochphehjaaGreat
open Go.RowKit

/-- the memory of graphOfRows -/
structure LR (w : World) (kk : Int) (N : Option Addr) (q r n : Nat) (F : Option Addr) (k d : Nat) (w' : World) : Prop where
  b : Below w.heap.size w w'
  x : Blk w' w.heap.size 30 #[.int .i64 kk, .int .i64 n, .slice N q r]
  res : Blk w' (w.heap.size + 1) 99 #[.slice none 0 0, .slice none 0 0]
  y : Blk w' (w.heap.size + 2) 2 (madeCells #[.int .i64 0] n)
  z : Blk w' (w.heap.size + 3) 99 #[.slice (some ⟨w.heap.size + 2, 0, none⟩) n n, .slice F k d]
section
variable {w w' w'' : World} {kk : Int} {N : Option Addr} {q r n : Nat} {F F' : Option Addr} {k d k' d' : Nat}
theorem LR.step (h : LR w kk N q r n F k d w') (hb : Below w'.heap.size w' w'') : LR w kk N q r n F k d w'' := ⟨h.b.trans (hb.mono h.b.size), h.x.after hb, h.res.after hb, h.y.after hb, h.z.after hb⟩
theorem LR.grown {t : Option Nat} (h : LR w kk N q r n F k d w') (hg : w'.grownBy w'' t) (hr : ∀ b, t = some b → w.heap.size + 4 ≤ b) : LR w kk N q r n F k d w'' :=
  ⟨h.b.grown hg h.b.size (fun b hb => by have := hr b hb; omega), h.x.grown hg (fun e => by have := hr _ e.symm; omega), h.res.grown hg (fun e => by have := hr _ e.symm; omega), h.y.grown hg (fun e => by have := hr _ e.symm; omega), h.z.grown hg (fun e => by have := hr _ e.symm; omega)⟩
theorem LR.put (h : LR w kk N q r n F k d w') (F' : Option Addr) (k' d' : Nat) : LR w kk N q r n F' k' d' (w'.setCell ⟨w.heap.size + 3, 1, none⟩ (.slice F' k' d')) := by
  have hg : w'.grownBy (w'.setCell ⟨w.heap.size + 3, 1, none⟩ (.slice F' k' d')) (some (w.heap.size + 3)) := grown_set
  refine ⟨h.b.setCell (by simp) _, h.x.grown hg (fun e => by simp at e), h.res.grown hg (fun e => by simp at e), h.y.grown hg (fun e => by simp at e), ?_⟩
  have := h.z.set_ 1 (.slice F' k' d')
  simpa using this
end
/-- a graph and whether it is one -/
def RetGB (w : World) (ok : Bool) (e : Ending) (w' : World) : Prop := ∃ (A1 : Option Addr) (n1 c1 : Nat) (F1 : Option Addr) (m1 d1 : Nat), e = .returned (.tuple #[.agg #[.slice A1 n1 c1, .slice F1 m1 d1], .bool ok]) ∧ Below w.heap.size w w'
set_option maxHeartbeats 1000000 in
theorem graphOfRows_out (kk s : Int) (N : Option Addr) (q r : Nat) (w : World) (hs : inB s 0 64 = false) :
    Calls Tryz.prog 71 #[.agg #[.int .i64 kk, .int .i64 s, .slice N q r]] w (RetGB w false) := by
  have hb1 := (below_alloc w (.cells #[.int .i64 kk, .int .i64 s, .slice N q r] 30)).alloc (by simp) (.cells #[.slice none 0 0, .slice none 0 0] 99)
  have R : Blk ((w.alloc (.cells #[.int .i64 kk, .int .i64 s, .slice N q r] 30)).alloc (.cells #[.slice none 0 0, .slice none 0 0] 99)) (w.heap.size + 1) 99 #[.slice none 0 0, .slice none 0 0] := by
    have := Blk.new (w.alloc (.cells #[.int .i64 kk, .int .i64 s, .slice N q r] 30)) 99 #[.slice none 0 0, .slice none 0 0]
    simpa using this
  go_enter Tryz.func71, Tryz.ntmps71
  go_wp2_with (go_at_call 115; refine (within_any _ _ _ _).mono ?_; rintro e w' ⟨rfl, rfl⟩; rw [hs])
  have v0 := R.frozen 0
  have v1 := R.frozen 1
  obtain ⟨v2, v3⟩ := R.cells2
  refine bodyPost_ret (v := .tuple #[.agg #[.slice none 0 0, .slice none 0 0], .bool false]) (by simp [results, Tryz.results71, go_sem, v2, v3]) rfl ⟨_, _, _, _, _, _, rfl, ?_⟩
  repeat (refine Below.setCell ?_ (by simp <;> omega) _)
  exact hb1
set_option maxRecDepth 100000 in
set_option maxHeartbeats 4000000 in
theorem graphOfRows_in (kk : Int) (n : Nat) (N : Option Addr) (q r : Nat) (rows : List (List Int)) (b : Nat) (es : List Ed) (w : World) (hle0 : es.length = b) (hbq : b ≤ q) (hrow : ∀ k, k < b → row rows k = [(nthE es k).1, (nthE es k).2]) (hbad : b < q → (row rows b).length ≠ 2) (ha : RR w N q rows) (hn : n ≤ 64) (hq : q ≤ 1099511627776) :
    Calls Tryz.prog 71 #[.agg #[.int .i64 kk, .int .i64 n, .slice N q r]] w (RetGB w (decide (b = q) && tB (GraphOk (List.replicate n 0) es))) := by
  have hla := Lib.hid ha.len
  have hle := Lib.hid hle0
  have HROW := Lib.hid hrow
  have HBAD := Lib.hid hbad
  clear hle0 hrow hbad
  have hin : inB (n : Int) 0 64 = true := inB_mk ⟨by omega, by omega⟩
  have hmk := run_make_row' (P := Tryz.prog) 22 2 (.int .i64 0) 8 Tryz.underlying22 int_info rfl .i64 .i64 n (by omega) (by omega)
  go_enter Tryz.func71, Tryz.ntmps71
  go_wp2_with (go_at_call 115; refine (within_any _ _ _ _).mono ?_; rintro e w' ⟨rfl, rfl⟩; rw [hin])
  have b1 := below_alloc w (.cells #[.int .i64 kk, .int .i64 n, .slice N q r] 30)
  have b2 := b1.alloc (by simp) (.cells #[.slice none 0 0, .slice none 0 0] 99)
  have b3 := b2.alloc (by simp; omega) (.cells (madeCells #[.int .i64 0] n) 2)
  have b4 := b3.alloc (by simp; omega) (.cells #[.slice (some ⟨w.heap.size + 1 + 1, 0, none⟩) n n, .slice none 0 0] 99)
  have hX := (((Blk.new w 30 #[.int .i64 kk, .int .i64 n, .slice N q r]).alloc (.cells #[.slice none 0 0, .slice none 0 0] 99)).alloc (.cells (madeCells #[.int .i64 0] n) 2)).alloc (.cells #[.slice (some ⟨w.heap.size + 1 + 1, 0, none⟩) n n, .slice none 0 0] 99)
  have hR := ((Blk.new (w.alloc (.cells #[.int .i64 kk, .int .i64 n, .slice N q r] 30)) 99 #[.slice none 0 0, .slice none 0 0]).alloc (.cells (madeCells #[.int .i64 0] n) 2)).alloc (.cells #[.slice (some ⟨w.heap.size + 1 + 1, 0, none⟩) n n, .slice none 0 0] 99)
  have hY := (Blk.new ((w.alloc (.cells #[.int .i64 kk, .int .i64 n, .slice N q r] 30)).alloc (.cells #[.slice none 0 0, .slice none 0 0] 99)) 2 (madeCells #[.int .i64 0] n)).alloc (.cells #[.slice (some ⟨w.heap.size + 1 + 1, 0, none⟩) n n, .slice none 0 0] 99)
  have hZ := Blk.new (((w.alloc (.cells #[.int .i64 kk, .int .i64 n, .slice N q r] 30)).alloc (.cells #[.slice none 0 0, .slice none 0 0] 99)).alloc (.cells (madeCells #[.int .i64 0] n) 2)) 99 #[.slice (some ⟨w.heap.size + 1 + 1, 0, none⟩) n n, .slice none 0 0]
  have hL0 : LR w kk N q r n none 0 0 _ := ⟨b4, hX, by simpa using hR, by simpa using hY, by simpa using hZ⟩
  have hz0 : w.heap.size + 4 ≤ ((((w.alloc (.cells #[.int .i64 kk, .int .i64 n, .slice N q r] 30)).alloc (.cells #[.slice none 0 0, .slice none 0 0] 99)).alloc (.cells (madeCells #[.int .i64 0] n) 2)).alloc (.cells #[.slice (some ⟨w.heap.size + 1 + 1, 0, none⟩) n n, .slice none 0 0] 99)).heap.size   := by simp
  clear hmk hX hY hZ hR b1 b2 b3 b4
  go_loopw [6, 19] (fun _ i wr => ∃ (k : Nat) (F : Option Addr) (d : Nat), i = .int .i64 k ∧ k ≤ b ∧ LR w kk N q r n F k d wr ∧ OE wr (w.heap.size + 4) 148 F k d (es.take k) ∧ w.heap.size + 4 ≤ wr.heap.size) (fun _ i _ => b - (intOf i).toNat)
  case atStart => exact ⟨0, _, _, rfl, Nat.zero_le _, hL0, OE.nil_ _ _ _, hz0⟩
  case round =>
    clear hL0 hz0
    obtain ⟨k, F, d, rfl, hk, hL, hoe, hz⟩ := hrel
    by_cases hlt : k < b
    · obtain ⟨a, A1, n1, c1, rfl, hca, hn1, hc1, ha1⟩ := ha.get (k := k) (by omega)
      have hrw := HROW.out k hlt
      have hst := Lib.hid (ecells_take (es := es) (k := k) (by rw [hle.out]; exact hlt))
      rw [hrw] at ha1
      obtain rfl : n1 = 2 := by have := ha1.len; simpa using this.symm
      have H64 := Lib.hid (all64E_take (es := es) (k := k) hoe.all (by rw [hle.out]; exact hlt) (ha1.get (k := 0) (by omega)).choose_spec.2.2 (ha1.get (k := 1) (by omega)).choose_spec.2.2)
      generalize nthE es k = e at *
      obtain ⟨x, y⟩ := e
      obtain ⟨bb, rfl, hc0, i0⟩ := ha1.get (k := 0) (by omega)
      obtain ⟨bb', hbb, hc1', i1⟩ := ha1.get (k := 1) (by omega)
      cases hbb
      have hcx : w.cell? bb = some (.int .i64 x) := by
        have : bb.add 0 = bb := by simp [Addr.add]
        rw [this] at hc0
        exact hc0
      have hcy : w.cell? ⟨bb.block, bb.off + 1, none⟩ = some (.int .i64 y) := by
        have : bb.add 1 = ⟨bb.block, bb.off + 1, none⟩ := by simp [Addr.add]
        rw [← this]
        exact hc1'
      have hcar := below_cell hL.b hca
      obtain ⟨ii, hi, hi0, hi1, hi2⟩ := info_parts edge_info
      have hlq : (k : Int) < q := by omega
      clear hrw hc0 hc1'
      go_wp2
      have hS2 : ∀ (w' : World), LR w kk (some a) q r n F k d w' → w'.cell? bb = some (.int .i64 x) ∧ w'.cell? ⟨bb.block, bb.off + 1, none⟩ = some (.int .i64 y) ∧ w'.cell? ⟨w.heap.size + 1 + 1 + 1, 1, none⟩ = some (.slice F k d) := fun w' h => ⟨below_cell h.b hcx, below_cell h.b hcy, h.z.cells2.2⟩
      have HS2 := Lib.hid hS2
      have HL := Lib.hid (hL.step (below_drewn _ 1))
      clear hS2 hcar hca hcx hcy
      refine region_suf (P := Tryz.prog) (n := 11) (S := fun w' => w'.cell? bb = some (.int .i64 x) ∧ w'.cell? ⟨bb.block, bb.off + 1, none⟩ = some (.int .i64 y) ∧ w'.cell? ⟨w.heap.size + 1 + 1 + 1, 1, none⟩ = some (.slice F k d)) (by kernel_rfl) (by simp only [List.take_succ_cons, List.take_zero]; rfl) (by simp only [List.drop_succ_cons, List.drop_zero]; rfl) (by kernel_rfl) (by have := HS2.out _ HL.out; simpa [← World.drew_is_drewN] using this) ?_
      intro hS
      refine wpAnyH_take (i := 0) (v := ?_) rfl (by kernel_rfl) (by kernel_rfl) (by kernel_rfl) (fun _ _ _ h => h) (Or.inl ⟨by rfl, ?_⟩) (by assumption) ?_
      rotate_left
      · (intro w hSw; (try dsimp only at hSw); go_simp; (try with_reducible rfl))
      simp only [Act.put, List.setIfInBounds_toArray, List.set_cons_zero, List.set_cons_succ]
      refine wpAnyH_take (i := 1) (v := ?_) rfl (by kernel_rfl) (by kernel_rfl) (by kernel_rfl) (fun _ _ _ h => h) (Or.inl ⟨by rfl, ?_⟩) (by assumption) ?_
      rotate_left
      · (intro w hSw; (try dsimp only at hSw); go_simp; (try with_reducible rfl))
      simp only [Act.put, List.setIfInBounds_toArray, List.set_cons_zero, List.set_cons_succ]
      refine wpAnyH_take (i := 2) (v := ?_) rfl (by kernel_rfl) (by kernel_rfl) (by kernel_rfl) (fun _ _ _ h => h) (Or.inl ⟨by rfl, ?_⟩) (by assumption) ?_
      rotate_left
      · (intro w hSw; (try dsimp only at hSw); go_simp; (try with_reducible rfl))
      simp only [Act.put, List.setIfInBounds_toArray, List.set_cons_zero, List.set_cons_succ]
      refine wpAnyH_take (i := 3) (v := ?_) rfl (by kernel_rfl) (by kernel_rfl) (by kernel_rfl) (fun _ _ _ h => h) (Or.inl ⟨by rfl, ?_⟩) (by assumption) ?_
      rotate_left
      · (intro w hSw; (try dsimp only at hSw); go_simp; (try with_reducible rfl))
      simp only [Act.put, List.setIfInBounds_toArray, List.set_cons_zero, List.set_cons_succ]
      refine wpAnyH_take (i := 4) (v := ?_) rfl (by kernel_rfl) (by kernel_rfl) (by kernel_rfl) (fun _ _ _ h => h) (Or.inl ⟨by rfl, ?_⟩) (by assumption) ?_
      rotate_left
      · (intro w hSw; (try dsimp only at hSw); go_simp; (try with_reducible rfl))
      simp only [Act.put, List.setIfInBounds_toArray, List.set_cons_zero, List.set_cons_succ]
      refine wpAnyH_take (i := 5) (v := ?_) rfl (by kernel_rfl) (by kernel_rfl) (by kernel_rfl) (fun _ _ _ h => h) (Or.inl ⟨by rfl, ?_⟩) (by assumption) ?_
      rotate_left
      · (intro w hSw; (try dsimp only at hSw); go_simp; (try with_reducible rfl))
      simp only [Act.put, List.setIfInBounds_toArray, List.set_cons_zero, List.set_cons_succ]
      refine wpAnyH_take (i := 6) (v := ?_) rfl (by kernel_rfl) (by kernel_rfl) (by kernel_rfl) (fun _ _ _ h => h) (Or.inl ⟨by rfl, ?_⟩) (by assumption) ?_
      rotate_left
      · (intro w hSw; (try dsimp only at hSw); go_simp; (try with_reducible rfl))
      simp only [Act.put, List.setIfInBounds_toArray, List.set_cons_zero, List.set_cons_succ]
      refine wpAnyH_take (i := 7) (v := ?_) rfl (by kernel_rfl) (by kernel_rfl) (by kernel_rfl) (fun _ _ _ h => h) (Or.inl ⟨by rfl, ?_⟩) (by assumption) ?_
      rotate_left
      · (intro w hSw; (try dsimp only at hSw); go_simp; (try with_reducible rfl))
      simp only [Act.put, List.setIfInBounds_toArray, List.set_cons_zero, List.set_cons_succ]
      refine wpAnyH_take (i := 8) (v := ?_) rfl (by kernel_rfl) (by kernel_rfl) (by kernel_rfl) (fun _ _ _ h => h) (Or.inl ⟨by rfl, ?_⟩) (by assumption) ?_
      rotate_left
      · (intro w hSw; (try dsimp only at hSw); go_simp; (try with_reducible rfl))
      simp only [Act.put, List.setIfInBounds_toArray, List.set_cons_zero, List.set_cons_succ]
      simp only [List.getElem_toArray, List.getElem_cons_succ, List.getElem_cons_zero]
      refine wpAnyH_ready (rs := [9]) (by kernel_rfl) (by simp) ?_
      refine AllReadyH.cons rfl (fun K hK => ?_) AllReadyH.nil
      go_simp
      refine hK.out _ _ (HS2.out _ (hL.step ((below_alloc wr _).trans (below_drewn' _ _ 1)))) (fun hS1 => ?_)
      clear hK K hS
      refine wpAnyH_ready (rs := [10]) (by kernel_rfl) (by simp) ?_
      refine AllReadyH.cons rfl (fun K hK => ?_) AllReadyH.nil
      refine step_append_lies _ (by rfl) _ _ 97 (by rfl) (w.heap.size + 4) 148 ii (.agg #[.int .i64 0, .int .i64 0]) 2 16 Tryz.underlying97 hi hi0 hi1 hi2 rfl (by omega) (.slice F k d) k (ecells (es.take k)) (by rfl) (hoe.os.alloc (.cells #[.int .i64 x, .int .i64 y] 148)) ⟨wr.heap.size, 0, none⟩ 1 1 [.int .i64 x, .int .i64 y] (by rfl) rfl (World.news_of_block (cs := #[.int .i64 x, .int .i64 y]) (t := 148) (fr := (0, 0)) (newsAt1 wr _ _)) (fun u hu => by simp at hu; rcases hu with rfl | rfl <;> rfl) (by omega) (by unfold maxLen; omega) (by omega) (by simp; omega) (wr.heap.size + 1) (by simp) ?_
      intro G cap w3 hown3 hgrow3 hat3 hlt3
      have hL3 := LR.grown (hL.step ((below_alloc wr (.cells #[.int .i64 x, .int .i64 y] 148)).trans (below_drewn' _ _ 1))) hgrow3 (fun b hb => (hoe.os.lt (by rw [← ownBlock_slice F k d]; exact hb)).1)
      refine hK.out _ _ (HS2.out _ hL3) (fun hS2 => ?_)
      clear hK K hS1
      refine wpAnyH_done (by kernel_rfl) ?_ _
      dsimp only [atEnd]
      have fz := hL3.z.frozen 1
      have cz := hL3.z.cells2.2
      clear hS2
      have hz3 := hgrow3.size
      have hL4 := hL3.put (some ⟨G, 0, none⟩) (k + 1) cap
      have hO : OE w3 (w.heap.size + 4) 148 (some ⟨G, 0, none⟩) (k + 1) cap (es.take (k + 1)) := ⟨by rw [hst.out]; exact hown3, H64.out⟩
      clear hown3 hgrow3 hat3 hlt3
      go_wp2
      go_roundw
      case rel => exact ⟨k + 1, _, _, by go_num, by omega, hL4, hO.setLow (by simp) _, by simp [World.setCell] at hz3 ⊢; omega⟩
      case measure => simp [intOf]; omega
    · have hkm : k = b := by omega
      subst hkm
      obtain ⟨x0, x1, x2⟩ := hL.x.cells3
      by_cases hkq : k < q
      · obtain ⟨a, A1, n1, c1, rfl, hca, -, hc1, ha1⟩ := ha.get (k := k) hkq
        have hl2 : n1 ≠ 2 := by rw [← ha1.len]; exact HBAD.out hkq
        have hne : ((n1 : Int) != 2) = true := by simp; omega
        have hcar := below_cell hL.b hca
        have hlq : (k : Int) < q := by omega
        have v0 := hL.res.frozen 0
        have v1 := hL.res.frozen 1
        obtain ⟨v2, v3⟩ := hL.res.cells2
        have hend := hL.b
        have HD := Lib.hid (show decide (k = q) = false from decide_eq_false (by omega))
        clear hk hlt hl2
        go_wp2
        refine bodyPost_ret (v := .tuple #[.agg #[.slice none 0 0, .slice none 0 0], .bool false]) (by simp [results, Tryz.results71, go_sem, v2, v3]) rfl ⟨_, _, _, _, _, _, by rw [HD.out, Bool.false_and], ?_⟩
        repeat (refine Below.setCell ?_ (by simp <;> omega) _)
        exact hend
      · obtain rfl : k = q := by omega
        have hes := Lib.hid (show es.take k = es by rw [List.take_of_length_le (Nat.le_of_eq hle.out)])
        rw [hes.out] at hoe
        have hRG : RG wr (some ⟨w.heap.size + 2, 0, none⟩) n F k (List.replicate n 0) es := ⟨zerosBlk hL.y (by omega), hoe.reads⟩
        have bd : Below wr.heap.size wr wr.drew := by have := below_drewn wr 1; simpa [← World.drew_is_drewN] using this
        have hcall := validGraph_any (some ⟨w.heap.size + 2, 0, none⟩) n n F k d (List.replicate n 0) es wr.drew (hRG.keep bd) (by omega) (by omega)
        have hLd := hL.step bd
        have HD := Lib.hid (show (decide (k = k) && tB (GraphOk (List.replicate n 0) es)) = tB (GraphOk (List.replicate n 0) es) by simp)
        generalize hgb : tB (GraphOk (List.replicate n 0) es) = gb at *
        clear hgb
        rw [HD.out]
        have ne : w.heap.size + 3 ≠ w.heap.size + 1 := by omega
        clear hk hlt hRG
        go_wp2
        go_region_held_law (fun w' => w'.cell? ⟨w.heap.size + 1 + 1 + 1, 0, none⟩ = some (.slice (some ⟨w.heap.size + 1 + 1, 0, none⟩) n n) ∧ w'.cell? ⟨w.heap.size + 1 + 1 + 1, 1, none⟩ = some (.slice F k d))
          (first | exact hLd.z.cells2 | exact hL2.z.cells2 | exact ((hL2.z.far (p := ⟨w.heap.size + 1, 0, none⟩) ne _).far (p := ⟨w.heap.size + 1, 1, none⟩) ne _).cells2)
          ((go_at_call 126; (refine hcall.mono ?_); rintro e w2 ⟨rfl, hb2⟩; have hL2 := hLd.step hb2; have v0 := hL2.res.frozen 0; have v1 := hL2.res.frozen 1; obtain ⟨v2, v3⟩ := hL2.res.cells2))
        have hend := hL2.b
        go_wp2
        refine bodyPost_ret (v := .tuple #[.agg #[.slice (some ⟨w.heap.size + 2, 0, none⟩) n n, .slice F k d], .bool gb]) (by simp [results, Tryz.results71, go_sem, v2, v3]) rfl ⟨_, _, _, _, _, _, rfl, ?_⟩
        repeat (refine Below.setCell ?_ (by simp <;> omega) _)
        exact hend
theorem graphOfRows_any (kk s : Int) (N : Option Addr) (q r : Nat) (zss : List (List Int)) (w : World) (ha : RR w N q zss) (hq : q ≤ 1099511627776) :
    Calls Tryz.prog 71 #[.agg #[.int .i64 kk, .int .i64 s, .slice N q r]] w (RetGB w (tB (GObj s zss))) := by
  cases hs : inB s 0 64 with
  | false =>
    rw [tB_no (p := GObj s zss) fun h => by rw [inB_mk ⟨h.1, h.2.1⟩] at hs; cases hs]
    exact graphOfRows_out kk s N q r w hs
  | true =>
    obtain ⟨s1, s2⟩ := inB_true hs
    obtain ⟨n, rfl⟩ : ∃ n : Nat, s = n := ⟨s.toNat, by omega⟩
    obtain ⟨b, h1, h2, h3⟩ := first_bad zss
    have hl := ha.len
    rw [← tB_GObj (by omega) h1 h2 h3, hl]
    exact graphOfRows_in kk n N q r zss b (edsOf (zss.take b)) w (by rw [edsOf_len, List.length_take]; omega) (by omega) (edsOf_rows h1 h2) (fun h => h3 (by omega)) ha (by omega) hq
end Go.Proofs.YtemdjochphehjaaGreat
