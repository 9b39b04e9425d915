/- The graph of an object's rows. No condition beyond those stated. -/
import Derived.Test.YtainkgckahcdnaaGobj
import Derived.Deep.RegionHeldLaw
import Derived.Test.YtainkgckahcdnaaLast
namespace Go.Proofs.Ytainkgckahcdnaa
open Go.RowKit

theorem ecells_take {es : List Ed} {k : Nat} (h : k < es.length) : ecells (es.take (k + 1)) = ecells (es.take k) ++ [.int .i64 (nthE es k).1, .int .i64 (nthE es k).2] := by
  rw [List.take_succ_eq_append_getElem h, nthE_get h, ecells_app]
  rfl
theorem rowsOf_row {es : List Ed} {k : Nat} (h : k < es.length) : row (rowsOf es) k = [(nthE es k).1, (nthE es k).2] := by
  rw [nthE_get h, row_eq (z := erow es[k]) (by simp [rowsOf, h])]
  rfl
/-- the variables of a call that makes the graph of rows -/
structure LG (w : World) (g : Nat) (s : Int) (N : Option Addr) (q r : Nat) (n : Nat) (F : Option Addr) (k d : Nat) (w' : World) : Prop where
  b : Below w.heap.size w w'
  o : Blk w' g 25 #[.int .i64 6, .int .i64 s, .slice N q r]
  x : Blk w' w.heap.size 59 #[.slice none 0 0, .slice none 0 0]
  y : Blk w' (w.heap.size + 1) 2 (madeCells #[.int .i64 0] n)
  z : Blk w' (w.heap.size + 1 + 1) 59 #[.slice (some ⟨w.heap.size + 1, 0, none⟩) n n, .slice F k d]
section
variable {w w' w'' : World} {g : Nat} {s : Int} {N : Option Addr} {q r n : Nat} {F : Option Addr} {k d : Nat}
theorem LG.step (h : LG w g s N q r n F k d w') (hb : Below w'.heap.size w' w'') : LG w g s N q r n F k d w'' := ⟨h.b.trans (hb.mono h.b.size), h.o.after hb, h.x.after hb, h.y.after hb, h.z.after hb⟩
theorem LG.grown {t : Option Nat} (h : LG w g s N q r n F k d w') (hg : w'.grownBy w'' t) (hgl : g < w.heap.size) (hr : ∀ b, t = some b → w.heap.size + 1 + 1 + 1 ≤ b) : LG w g s N q r n F k d w'' :=
  ⟨h.b.grown hg h.b.size (fun b hb => by have := hr b hb; omega), h.o.grown hg (fun e => by have := hr _ e.symm; omega), h.x.grown hg (fun e => by have := hr _ e.symm; omega), h.y.grown hg (fun e => by have := hr _ e.symm; omega), h.z.grown hg (fun e => by have := hr _ e.symm; omega)⟩
/-- what a round reads -/
def LS (w : World) (g : Nat) (s : Int) (N : Option Addr) (q r : Nat) (n : Nat) (F : Option Addr) (k d : Nat) (p0 p1 p2 : Addr) (v0 v1 v2 : Value) (w' : World) : Prop :=
  LG w g s N q r n F k d w' ∧ w'.cell? ⟨g, 2, none⟩ = some (.slice N q r) ∧ w'.cell? ⟨w.heap.size + 1 + 1, 1, none⟩ = some (.slice F k d) ∧ w'.frozen? ⟨w.heap.size + 1 + 1, 1, none⟩ = false ∧ w'.cell? p0 = some v0 ∧ w'.cell? p1 = some v1 ∧ w'.cell? p2 = some v2
theorem LG.full {p0 p1 p2 : Addr} {v0 v1 v2 : Value} (h : LG w g s N q r n F k d w') (h0 : w.cell? p0 = some v0) (h1 : w.cell? p1 = some v1) (h2 : w.cell? p2 = some v2) :
    LG w g s N q r n F k d w' ∧ w'.cell? ⟨g, 2, none⟩ = some (.slice N q r) ∧ w'.cell? ⟨w.heap.size + 1 + 1, 1, none⟩ = some (.slice F k d) ∧ w'.frozen? ⟨w.heap.size + 1 + 1, 1, none⟩ = false ∧ w'.cell? p0 = some v0 ∧ w'.cell? p1 = some v1 ∧ w'.cell? p2 = some v2 :=
  ⟨h, h.o.cells3.2.2, h.z.cells2.2, h.z.frozen 1, below_cell h.b h0, below_cell h.b h1, below_cell h.b h2⟩
end
theorem LG.put {w w' : World} {g : Nat} {s : Int} {N : Option Addr} {q r n : Nat} {F F' : Option Addr} {k d k' d' : Nat} (h : LG w g s N q r n F k d w') (hgl : g < w.heap.size) :
    LG w g s N q r n F' k' d' (w'.setCell ⟨w.heap.size + 1 + 1, 1, none⟩ (.slice F' k' d')) := by
  have hg : w'.grownBy (w'.setCell ⟨w.heap.size + 1 + 1, 1, none⟩ (.slice F' k' d')) (some (w.heap.size + 1 + 1)) := grown_set
  refine ⟨h.b.setCell (by simp; omega) _, h.o.grown hg (fun e => by simp at e; omega), h.x.grown hg (fun e => by simp at e; omega), h.y.grown hg (fun e => by simp at e), ?_⟩
  exact h.z.set_ 1 _
theorem all64E_take {es : List Ed} {k : Nat} (h : All64E (es.take k)) (hk : k < es.length) (hx : I64 (nthE es k).1) (hy : I64 (nthE es k).2) : All64E (es.take (k + 1)) := by
  intro e he
  rw [List.take_succ_eq_append_getElem hk] at he
  rcases List.mem_append.1 he with he | he
  · exact h e he
  · rw [List.mem_singleton.1 he, ← nthE_get hk]
    exact ⟨hx, hy⟩
theorem zerosBlk {w : World} {b n : Nat} (h : Blk w b 2 (madeCells #[.int .i64 0] n)) (hn : n ≤ 9223372036854775807) : RI w (some ⟨b, 0, none⟩) n (List.replicate n 0) := by
  have hO : OI w 0 2 (some ⟨b, 0, none⟩) n n (List.replicate n 0) := by
    refine ⟨⟨by simp [ints], .inr ⟨b, n, _, rfl, Nat.zero_le _, h, Nat.le_refl _, hn, by simp [size_madeCells], ?_⟩⟩, fun z hz => by rw [List.eq_of_mem_replicate hz]; exact ⟨by omega, by omega⟩⟩
    rw [toList_madeCells_one, Nat.mul_one, ints, List.map_replicate]
    exact List.take_of_length_le (by simp)
  exact hO.reads
theorem newsAt1 (wr : World) (a : Array Value) (e : TypeId) : ((wr.alloc (.cells a e)).drew).heap[wr.heap.size]? = some (.cells a e (0, 0)) := heap_alloc_new wr (.cells a e)
set_option maxRecDepth 100000 in
set_option maxHeartbeats 4000000 in
theorem l30Graph_any (g n : Nat) (N : Option Addr) (q r : Nat) (es : List Ed) (w : World) (hB : Blk w g 25 #[.int .i64 6, .int .i64 n, .slice N q r]) (ha : RR w N q (rowsOf es)) (hn : n ≤ 64) (hq : q ≤ 512) :
    Calls Try.prog 88 #[.pointer (some ⟨g, 0, none⟩)] w fun e w' => ∃ (A1 : Option Addr) (n1 c1 : Nat) (F1 : Option Addr) (m1 d1 : Nat), e = .returned (.tuple #[.agg #[.slice A1 n1 c1, .slice F1 m1 d1], .bool (tB (GraphOk (List.replicate n 0) es))]) ∧ Below w.heap.size w w' := by
  have hgl := hB.lt
  have hla := Lib.hid ha.len
  have hle := Lib.hid (show es.length = q by rw [← hla.out, rowsOf_len])
  have hin : inB (n : Int) 0 64 = true := inB_mk ⟨by omega, by omega⟩
  have hb0 := below_alloc w (.cells #[.slice none 0 0, .slice none 0 0] 59)
  have hB0 := hB.after hb0
  obtain ⟨k0, k1, k2⟩ := hB0.cells3
  have hmk := run_make_row' (P := Try.prog) 51 2 (.int .i64 0) 8 Try.underlying51 int_info rfl .i64 .i64 n (by omega) (by omega)
  go_enter Try.func88, Try.ntmps88
  go_wp2_with (go_at_call 66; refine (l00In_any _ _ _ _).mono ?_; rintro e w' ⟨rfl, rfl⟩; rw [hin])
  have hY : Blk ((w.alloc (.cells #[.slice none 0 0, .slice none 0 0] 59)).alloc (.cells (madeCells #[.int .i64 0] n) 2)) (w.heap.size + 1) 2 (madeCells #[.int .i64 0] n) := by
    have := Blk.new (w.alloc (.cells #[.slice none 0 0, .slice none 0 0] 59)) 2 (madeCells #[.int .i64 0] n)
    simpa using this
  have hZ : Blk (((w.alloc (.cells #[.slice none 0 0, .slice none 0 0] 59)).alloc (.cells (madeCells #[.int .i64 0] n) 2)).alloc (.cells #[.slice (some ⟨w.heap.size + 1, 0, none⟩) n n, .slice none 0 0] 59)) (w.heap.size + 1 + 1) 59 #[.slice (some ⟨w.heap.size + 1, 0, none⟩) n n, .slice none 0 0] := by
    have := Blk.new ((w.alloc (.cells #[.slice none 0 0, .slice none 0 0] 59)).alloc (.cells (madeCells #[.int .i64 0] n) 2)) 59 #[.slice (some ⟨w.heap.size + 1, 0, none⟩) n n, .slice none 0 0]
    simpa using this
  have hX := ((Blk.new w 59 #[.slice none 0 0, .slice none 0 0]).alloc (.cells (madeCells #[.int .i64 0] n) 2)).alloc (.cells #[.slice (some ⟨w.heap.size + 1, 0, none⟩) n n, .slice none 0 0] 59)
  have hbb := below_then (below_then hb0 (below_alloc _ (.cells (madeCells #[.int .i64 0] n) 2))) (below_alloc _ (.cells #[.slice (some ⟨w.heap.size + 1, 0, none⟩) n n, .slice none 0 0] 59))
  have hL0 : LG w g n N q r n none 0 0 _ := ⟨hbb, hB.after hbb, hX, hY.alloc _, hZ⟩
  have hz0 : w.heap.size + 1 + 1 + 1 ≤ (((w.alloc (.cells #[.slice none 0 0, .slice none 0 0] 59)).alloc (.cells (madeCells #[.int .i64 0] n) 2)).alloc (.cells #[.slice (some ⟨w.heap.size + 1, 0, none⟩) n n, .slice none 0 0] 59)).heap.size := by simp
  clear hmk hX hY hZ hbb hB0 hb0 k0 k1 k2
  go_loopw [5] (fun i wr => ∃ (k : Nat) (F : Option Addr) (d : Nat), i = .int .i64 k ∧ k ≤ q ∧ LG w g n N q r n F k d wr ∧ OE wr (w.heap.size + 1 + 1 + 1) 77 F k d (es.take k) ∧ w.heap.size + 1 + 1 + 1 ≤ wr.heap.size) (fun i _ => q - (intOf i).toNat)
  case atStart => exact ⟨0, _, _, rfl, Nat.zero_le _, hL0, OE.nil_ _ _ _, hz0⟩
  case round =>
    clear hL0 hz0
    obtain ⟨k, F, d, rfl, hk, hL, hoe, hz⟩ := hrel
    obtain ⟨k0, k1, k2⟩ := hL.o.cells3
    by_cases hlt : k < q
    · obtain ⟨a, A1, n1, c1, rfl, hca, hn1, hc1, ha1⟩ := ha.get hlt
      have hrw := rowsOf_row (es := es) (k := k) (by rw [hle.out]; exact hlt)
      have hst := Lib.hid (ecells_take (es := es) (k := k) (by rw [hle.out]; exact hlt))
      rw [hrw] at ha1
      obtain rfl : n1 = 2 := by have := ha1.len; simpa using this.symm
      have H64 := Lib.hid (all64E_take (es := es) (k := k) hoe.all (by rw [hle.out]; exact hlt) (ha1.get (k := 0) (by omega)).choose_spec.2.2 (ha1.get (k := 1) (by omega)).choose_spec.2.2)
      generalize nthE es k = e at *
      obtain ⟨x, y⟩ := e
      obtain ⟨b, rfl, hc0, i0⟩ := ha1.get (k := 0) (by omega)
      obtain ⟨b', hbb, hc1', i1⟩ := ha1.get (k := 1) (by omega)
      cases hbb
      have hcx : w.cell? b = some (.int .i64 x) := by
        have : b.add 0 = b := by simp [Addr.add]
        rw [this] at hc0
        exact hc0
      have hcy : w.cell? ⟨b.block, b.off + 1, none⟩ = some (.int .i64 y) := by
        have : b.add 1 = ⟨b.block, b.off + 1, none⟩ := by simp [Addr.add]
        rw [← this]
        exact hc1'
      have hcar := below_cell hL.b hca
      obtain ⟨ii, hi, hi0, hi1, hi2⟩ := info_parts edge_info
      clear hrw hc0 hc1'
      go_wp2
      obtain ⟨_, q0, q1, q2, q3, q4, q5⟩ := hL.full hca hcx hcy
      obtain ⟨_, _, q6, _, _, _, _⟩ := (hL.step (below_alloc wr (.cells #[.int .i64 x, .int .i64 y] 77))).full hca hcx hcy
      have q4 := below_cell hL.b hcx
      have q5 := below_cell hL.b hcy
      have q1 := hL.z.cells2.2
      obtain ⟨_, _, q6, _, _, _, _⟩ := (hL.step (below_alloc wr (.cells #[.int .i64 x, .int .i64 y] 77))).full hca hcx hcy
      have hS2 : ∀ (w' : World), LG w g n (some a) q r n F k d w' → LG w g n (some a) q r n F k d w' ∧ w'.cell? ⟨g, 2, none⟩ = some (.slice (some a) q r) ∧ w'.cell? (a.add k) = some (.slice (some b) 2 c1) ∧ w'.cell? b = some (.int .i64 x) ∧ w'.cell? ⟨b.block, b.off + 1, none⟩ = some (.int .i64 y) ∧ w'.cell? ⟨w.heap.size + 1 + 1, 1, none⟩ = some (.slice F k d) := fun w' h => ⟨h, h.o.cells3.2.2, below_cell h.b hca, below_cell h.b hcx, below_cell h.b hcy, h.z.cells2.2⟩
      have HS2 := Lib.hid hS2
      clear hS2 k0 k1 k2 hcar hca hcx hcy
      refine region_last (P := Try.prog) (S := fun w' => LG w g n (some a) q r n F k d w' ∧ w'.cell? ⟨g, 2, none⟩ = some (.slice (some a) q r) ∧ w'.cell? (a.add k) = some (.slice (some b) 2 c1) ∧ w'.cell? b = some (.int .i64 x) ∧ w'.cell? ⟨b.block, b.off + 1, none⟩ = some (.int .i64 y) ∧ w'.cell? ⟨w.heap.size + 1 + 1, 1, none⟩ = some (.slice F k d)) (by kernel_rfl) (by simp only [List.getLast?_cons_cons, List.getLast?_singleton]; rfl) (by dsimp only [List.dropLast]) (by kernel_rfl) ?_ ?_
      · exact HS2.out _ (hL.step (below_drewn _ 1))
      intro hS
      refine wpAnyH_take (i := 0) (v := ?_) rfl (by kernel_rfl) (by kernel_rfl) (by kernel_rfl) (fun _ _ _ h => h) (Or.inl ⟨by rfl, ?_⟩) (by assumption) ?_
      rotate_left
      · (intro w hSw; (try dsimp only at hSw); go_simp; (try with_reducible rfl))
      simp only [Act.put, List.setIfInBounds_toArray, List.set_cons_zero, List.set_cons_succ]
      refine wpAnyH_take (i := 1) (v := ?_) rfl (by kernel_rfl) (by kernel_rfl) (by kernel_rfl) (fun _ _ _ h => h) (Or.inl ⟨by rfl, ?_⟩) (by assumption) ?_
      rotate_left
      · (intro w hSw; (try dsimp only at hSw); go_simp; (try with_reducible rfl))
      simp only [Act.put, List.setIfInBounds_toArray, List.set_cons_zero, List.set_cons_succ]
      refine wpAnyH_take (i := 2) (v := ?_) rfl (by kernel_rfl) (by kernel_rfl) (by kernel_rfl) (fun _ _ _ h => h) (Or.inl ⟨by rfl, ?_⟩) (by assumption) ?_
      rotate_left
      · (intro w hSw; (try dsimp only at hSw); go_simp; (try with_reducible rfl))
      simp only [Act.put, List.setIfInBounds_toArray, List.set_cons_zero, List.set_cons_succ]
      refine wpAnyH_take (i := 3) (v := ?_) rfl (by kernel_rfl) (by kernel_rfl) (by kernel_rfl) (fun _ _ _ h => h) (Or.inl ⟨by rfl, ?_⟩) (by assumption) ?_
      rotate_left
      · (intro w hSw; (try dsimp only at hSw); go_simp; (try with_reducible rfl))
      simp only [Act.put, List.setIfInBounds_toArray, List.set_cons_zero, List.set_cons_succ]
      refine wpAnyH_take (i := 4) (v := ?_) rfl (by kernel_rfl) (by kernel_rfl) (by kernel_rfl) (fun _ _ _ h => h) (Or.inl ⟨by rfl, ?_⟩) (by assumption) ?_
      rotate_left
      · (intro w hSw; (try dsimp only at hSw); go_simp; (try with_reducible rfl))
      simp only [Act.put, List.setIfInBounds_toArray, List.set_cons_zero, List.set_cons_succ]
      refine wpAnyH_take (i := 5) (v := ?_) rfl (by kernel_rfl) (by kernel_rfl) (by kernel_rfl) (fun _ _ _ h => h) (Or.inl ⟨by rfl, ?_⟩) (by assumption) ?_
      rotate_left
      · (intro w hSw; (try dsimp only at hSw); go_simp; (try with_reducible rfl))
      simp only [Act.put, List.setIfInBounds_toArray, List.set_cons_zero, List.set_cons_succ]
      refine wpAnyH_take (i := 6) (v := ?_) rfl (by kernel_rfl) (by kernel_rfl) (by kernel_rfl) (fun _ _ _ h => h) (Or.inl ⟨by rfl, ?_⟩) (by assumption) ?_
      rotate_left
      · (intro w hSw; (try dsimp only at hSw); go_simp; (try with_reducible rfl))
      simp only [Act.put, List.setIfInBounds_toArray, List.set_cons_zero, List.set_cons_succ]
      refine wpAnyH_take (i := 7) (v := ?_) rfl (by kernel_rfl) (by kernel_rfl) (by kernel_rfl) (fun _ _ _ h => h) (Or.inl ⟨by rfl, ?_⟩) (by assumption) ?_
      rotate_left
      · (intro w hSw; (try dsimp only at hSw); go_simp; (try with_reducible rfl))
      simp only [Act.put, List.setIfInBounds_toArray, List.set_cons_zero, List.set_cons_succ]
      refine wpAnyH_take (i := 8) (v := ?_) rfl (by kernel_rfl) (by kernel_rfl) (by kernel_rfl) (fun _ _ _ h => h) (Or.inl ⟨by rfl, ?_⟩) (by assumption) ?_
      rotate_left
      · (intro w hSw; (try dsimp only at hSw); go_simp; (try with_reducible rfl))
      simp only [Act.put, List.setIfInBounds_toArray, List.set_cons_zero, List.set_cons_succ]
      refine wpAnyH_take (i := 9) (v := ?_) rfl (by kernel_rfl) (by kernel_rfl) (by kernel_rfl) (fun _ _ _ h => h) (Or.inl ⟨by rfl, ?_⟩) (by assumption) ?_
      rotate_left
      · (intro w hSw; (try dsimp only at hSw); go_simp; (try with_reducible rfl))
      simp only [Act.put, List.setIfInBounds_toArray, List.set_cons_zero, List.set_cons_succ]
      refine wpAnyH_take (i := 10) (v := ?_) rfl (by kernel_rfl) (by kernel_rfl) (by kernel_rfl) (fun _ _ _ h => h) (Or.inl ⟨by rfl, ?_⟩) (by assumption) ?_
      rotate_left
      · (intro w hSw; (try dsimp only at hSw); go_simp; (try with_reducible rfl))
      simp only [Act.put, List.setIfInBounds_toArray, List.set_cons_zero, List.set_cons_succ]
      refine wpAnyH_take (i := 11) (v := ?_) rfl (by kernel_rfl) (by kernel_rfl) (by kernel_rfl) (fun _ _ _ h => h) (Or.inl ⟨by rfl, ?_⟩) (by assumption) ?_
      rotate_left
      · (intro w hSw; (try dsimp only at hSw); go_simp; (try with_reducible rfl))
      simp only [Act.put, List.setIfInBounds_toArray, List.set_cons_zero, List.set_cons_succ]
      refine wpAnyH_take (i := 12) (v := ?_) rfl (by kernel_rfl) (by kernel_rfl) (by kernel_rfl) (fun _ _ _ h => h) (Or.inl ⟨by rfl, ?_⟩) (by assumption) ?_
      rotate_left
      · (intro w hSw; (try dsimp only at hSw); go_simp; (try with_reducible rfl))
      simp only [Act.put, List.setIfInBounds_toArray, List.set_cons_zero, List.set_cons_succ]
      refine wpAnyH_take (i := 13) (v := ?_) rfl (by kernel_rfl) (by kernel_rfl) (by kernel_rfl) (fun _ _ _ h => h) (Or.inl ⟨by rfl, ?_⟩) (by assumption) ?_
      rotate_left
      · (intro w hSw; (try dsimp only at hSw); go_simp; (try with_reducible rfl))
      simp only [Act.put, List.setIfInBounds_toArray, List.set_cons_zero, List.set_cons_succ]
      refine wpAnyH_take (i := 14) (v := ?_) rfl (by kernel_rfl) (by kernel_rfl) (by kernel_rfl) (fun _ _ _ h => h) (Or.inl ⟨by rfl, ?_⟩) (by assumption) ?_
      rotate_left
      · (intro w hSw; (try dsimp only at hSw); go_simp; (try with_reducible rfl))
      simp only [Act.put, List.setIfInBounds_toArray, List.set_cons_zero, List.set_cons_succ]
      refine wpAnyH_take (i := 15) (v := ?_) rfl (by kernel_rfl) (by kernel_rfl) (by kernel_rfl) (fun _ _ _ h => h) (Or.inl ⟨by rfl, ?_⟩) (by assumption) ?_
      rotate_left
      · (intro w hSw; (try dsimp only at hSw); go_simp; (try with_reducible rfl))
      simp only [Act.put, List.setIfInBounds_toArray, List.set_cons_zero, List.set_cons_succ]
      refine wpAnyH_take (i := 16) (v := ?_) rfl (by kernel_rfl) (by kernel_rfl) (by kernel_rfl) (fun _ _ _ h => h) (Or.inl ⟨by rfl, ?_⟩) (by assumption) ?_
      rotate_left
      · (intro w hSw; (try dsimp only at hSw); go_simp; (try with_reducible rfl))
      simp only [Act.put, List.setIfInBounds_toArray, List.set_cons_zero, List.set_cons_succ]
      refine wpAnyH_take (i := 17) (v := ?_) rfl (by kernel_rfl) (by kernel_rfl) (by kernel_rfl) (fun _ _ _ h => h) (Or.inl ⟨by rfl, ?_⟩) (by assumption) ?_
      rotate_left
      · (intro w hSw; (try dsimp only at hSw); go_simp; (try with_reducible rfl))
      simp only [Act.put, List.setIfInBounds_toArray, List.set_cons_zero, List.set_cons_succ]
      refine wpAnyH_take (i := 18) (v := ?_) rfl (by kernel_rfl) (by kernel_rfl) (by kernel_rfl) (fun _ _ _ h => h) (Or.inl ⟨by rfl, ?_⟩) (by assumption) ?_
      rotate_left
      · (intro w hSw; (try dsimp only at hSw); go_simp; (try with_reducible rfl))
      simp only [Act.put, List.setIfInBounds_toArray, List.set_cons_zero, List.set_cons_succ]
      refine wpAnyH_take (i := 19) (v := ?_) rfl (by kernel_rfl) (by kernel_rfl) (by kernel_rfl) (fun _ _ _ h => h) (Or.inl ⟨by rfl, ?_⟩) (by assumption) ?_
      rotate_left
      · (intro w hSw; (try dsimp only at hSw); go_simp; (try with_reducible rfl))
      simp only [Act.put, List.setIfInBounds_toArray, List.set_cons_zero, List.set_cons_succ]
      refine wpAnyH_take (i := 20) (v := ?_) rfl (by kernel_rfl) (by kernel_rfl) (by kernel_rfl) (fun _ _ _ h => h) (Or.inl ⟨by rfl, ?_⟩) (by assumption) ?_
      rotate_left
      · (intro w hSw; (try dsimp only at hSw); go_simp; (try with_reducible rfl))
      simp only [Act.put, List.setIfInBounds_toArray, List.set_cons_zero, List.set_cons_succ]
      refine wpAnyH_ready (rs := [21]) (by kernel_rfl) (by simp) ?_
      refine AllReadyH.cons rfl (fun K hK => ?_) AllReadyH.nil
      go_simp
      refine hK.out _ _ ?_ (fun hS1 => ?_)
      · exact HS2.out _ (hL.step ((below_alloc wr _).trans (below_drewn' _ _ 1)))
      clear hK K hS
      refine wpAnyH_ready (rs := [22]) (by kernel_rfl) (by simp) ?_
      refine AllReadyH.cons rfl (fun K hK => ?_) AllReadyH.nil
      refine step_append_lies _ (by rfl) _ _ 57 (by rfl) (w.heap.size + 1 + 1 + 1) 77 ii (.agg #[.int .i64 0, .int .i64 0]) 2 16 Try.underlying57 hi hi0 hi1 hi2 rfl (by omega) (.slice F k d) k (ecells (es.take k)) (by rfl) (hoe.os.alloc (.cells #[.int .i64 x, .int .i64 y] 77)) ⟨wr.heap.size, 0, none⟩ 1 1 [.int .i64 x, .int .i64 y] (by rfl) rfl (World.news_of_block (cs := #[.int .i64 x, .int .i64 y]) (t := 77) (fr := (0, 0)) (newsAt1 wr _ _)) (fun u hu => by simp at hu; rcases hu with rfl | rfl <;> rfl) (by omega) (by unfold maxLen; omega) (by omega) (by simp; omega) (wr.heap.size + 1) (by simp) ?_
      intro G cap w3 hown3 hgrow3 hat3 hlt3
      have hL3 := LG.grown (hL.step ((below_alloc wr (.cells #[.int .i64 x, .int .i64 y] 77)).trans (below_drewn' _ _ 1))) hgrow3 hgl (fun b hb => (hoe.os.lt (by rw [← ownBlock_slice F k d]; exact hb)).1)
      refine hK.out _ _ ?_ (fun hS2 => ?_)
      · exact HS2.out _ hL3
      clear hK K hS1
      refine wpAnyH_take (i := 23) (v := ?_) rfl (by kernel_rfl) (by kernel_rfl) (by kernel_rfl) (fun _ _ _ h => h) (Or.inl ⟨by rfl, ?_⟩) (by assumption) ?_
      rotate_left
      · (intro w hSw; (try dsimp only at hSw); go_simp; (try with_reducible rfl))
      simp only [Act.put, List.setIfInBounds_toArray, List.set_cons_zero, List.set_cons_succ]
      refine wpAnyH_done (by kernel_rfl) ?_ _
      dsimp only [atEnd]
      have fz := hL3.z.frozen 1
      have cz := hL3.z.cells2.2
      clear hS2
      go_wp2
      have hz3 := hgrow3.size
      have hL4 := hL3.put (F' := some ⟨G, 0, none⟩) (k' := k + 1) (d' := cap) hgl
      have hO : OE w3 (w.heap.size + 1 + 1 + 1) 77 (some ⟨G, 0, none⟩) (k + 1) cap (es.take (k + 1)) := ⟨by rw [hst.out]; exact hown3, H64.out⟩
      clear hown3 hgrow3 hat3 hlt3
      go_roundw
      case rel => exact ⟨k + 1, _, _, by go_num, by omega, hL4, hO.setLow (by simp) _, by simp [World.setCell] at hz3 ⊢; omega⟩
      case measure => simp [intOf]; omega
    · have hkm : k = q := by omega
      subst hkm
      have hes := Lib.hid (show es.take k = es by rw [List.take_of_length_le (Nat.le_of_eq hle.out)])
      rw [hes.out] at hoe
      have hyo := hL.y
      have hRG : RG wr (some ⟨w.heap.size + 1, 0, none⟩) n F k (List.replicate n 0) es := ⟨zerosBlk hyo (by omega), hoe.reads⟩
      have hRG' := Lib.hid hRG
      obtain ⟨y0, y1⟩ := hL.z.cells2
      have hL' := Lib.hid hL
      clear hk hlt hRG hyo
      go_wp2
      have hcall := l21Ok_any (some ⟨w.heap.size + 1, 0, none⟩) n n F k d (List.replicate n 0) es (wr.drewN 1) (hRG'.out.keep (below_drewn wr 1)) (by omega) (by omega)
      have HC := Lib.hid hcall
      clear k0 k1 k2 hcall
      go_region_held_law (fun w' => w'.cell? ⟨w.heap.size + 1 + 1, 0, none⟩ = some (.slice (some ⟨w.heap.size + 1, 0, none⟩) n n) ∧ w'.cell? ⟨w.heap.size + 1 + 1, 1, none⟩ = some (.slice F k d))
        (first | exact (hL'.out.step (below_drewn _ 1)).z.cells2 | exact ((by assumption : LG w g (n : Int) N k r n F k d _).z).cells2 | exact ((((by assumption : LG w g (n : Int) N k r n F k d _).z.grown grown_set (fun e => by injection e; omega)).grown grown_set (fun e => by injection e; omega))).cells2)
        ((go_at_call 50; refine HC.out.mono ?_; rintro e w2 ⟨rfl, hb2⟩; have hL2 := (hL'.out.step (below_drewn _ 1)).step hb2; have v0 := hL2.x.frozen 0; have v1 := hL2.x.frozen 1; obtain ⟨v2, v3⟩ := hL2.x.cells2))
      have hend := hL2.b
      go_wp2
      refine bodyPost_ret (v := .tuple #[.agg #[.slice (some ⟨w.heap.size + 1, 0, none⟩) n n, .slice F k d], .bool (tB (GraphOk (List.replicate n 0) es))]) (by simp [results, Try.results88, go_sem, v2, v3]) rfl ⟨_, _, _, _, _, _, rfl, ?_⟩
      repeat (refine Below.setCell ?_ (by simp <;> omega) _)
      exact hend
set_option maxHeartbeats 2000000 in
theorem judgeGraph (n : Nat) (es : List Ed) (w : World) (hn : n ≤ 64) (hq : es.length ≤ 512) : Judge 6 n (rowsOf es) (tB (GraphOk (List.replicate n 0) es)) w := by
  intro g A q c W _ hB ha hc1 hc2
  have hql : q ≤ 512 := by rw [← ha.len, rowsOf_len]; exact hq
  have hcall := l30Graph_any g n A q c es W hB ha hn hql
  obtain ⟨k1, k2, k3⟩ := hB.cells3
  go_enter Try.func59, Try.ntmps59
  go_wp2_with fail
  refine hcall.mono ?_
  rintro e w1 ⟨A1, n1, c1, F1, m1, d1, rfl, hb1⟩
  have hb2 := hb1.trans ((below_alloc w1 (.cells #[.slice A1 n1 c1, .slice F1 m1 d1] 59)).mono hb1.size)
  go_wp2
  go_ret
  exact ⟨rfl, hb2⟩
end Go.Proofs.Ytainkgckahcdnaa
