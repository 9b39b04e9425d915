/- The graph of an object's rows. No condition beyond those stated. -/
import Derived.Test.YtemdjochphehjaaGreatQJB
import Derived.Deep.RegionHeldLaw
import Derived.Test.YtemdjochphehjaaGreatQGF
set_option linter.unusedVariables false
set_option linter.unusedSimpArgs false
namespace Go.Proofs.YtemdjochphehjaaGreat
open Go.RowKit

theorem ecells_take {es : List Ed} {k : Nat} (h : k < es.length) : ecells (es.take (k + 1)) = ecells (es.take k) ++ [.int .i64 (nthE es k).1, .int .i64 (nthE es k).2] := by
  rw [List.take_succ_eq_append_getElem h, nthE_get h, ecells_app]
  rfl
/-- the variables of a call that makes the graph of rows -/
structure LG (w : World) (g : Nat) (s : Int) (N : Option Addr) (q r : Nat) (n : Nat) (F : Option Addr) (k d : Nat) (w' : World) : Prop where
  b : Below w.heap.size w w'
  o : Blk w' g 30 #[.int .i64 6, .int .i64 s, .slice N q r]
  x : Blk w' w.heap.size 99 #[.slice none 0 0, .slice none 0 0]
  y : Blk w' (w.heap.size + 1) 2 (madeCells #[.int .i64 0] n)
  z : Blk w' (w.heap.size + 1 + 1) 99 #[.slice (some ⟨w.heap.size + 1, 0, none⟩) n n, .slice F k d]
section
variable {w w' w'' : World} {g : Nat} {s : Int} {N : Option Addr} {q r n : Nat} {F : Option Addr} {k d : Nat}
theorem LG.step (h : LG w g s N q r n F k d w') (hb : Below w'.heap.size w' w'') : LG w g s N q r n F k d w'' := ⟨h.b.trans (hb.mono h.b.size), h.o.after hb, h.x.after hb, h.y.after hb, h.z.after hb⟩
theorem LG.grown {t : Option Nat} (h : LG w g s N q r n F k d w') (hg : w'.grownBy w'' t) (hgl : g < w.heap.size) (hr : ∀ b, t = some b → w.heap.size + 1 + 1 + 1 ≤ b) : LG w g s N q r n F k d w'' :=
  ⟨h.b.grown hg h.b.size (fun b hb => by have := hr b hb; omega), h.o.grown hg (fun e => by have := hr _ e.symm; omega), h.x.grown hg (fun e => by have := hr _ e.symm; omega), h.y.grown hg (fun e => by have := hr _ e.symm; omega), h.z.grown hg (fun e => by have := hr _ e.symm; omega)⟩
theorem LG.full {p0 p1 p2 : Addr} {v0 v1 v2 : Value} (h : LG w g s N q r n F k d w') (h0 : w.cell? p0 = some v0) (h1 : w.cell? p1 = some v1) (h2 : w.cell? p2 = some v2) :
    LG w g s N q r n F k d w' ∧ w'.cell? ⟨g, 2, none⟩ = some (.slice N q r) ∧ w'.cell? ⟨w.heap.size + 1 + 1, 1, none⟩ = some (.slice F k d) ∧ w'.frozen? ⟨w.heap.size + 1 + 1, 1, none⟩ = false ∧ w'.cell? p0 = some v0 ∧ w'.cell? p1 = some v1 ∧ w'.cell? p2 = some v2 :=
  ⟨h, h.o.cells3.2.2, h.z.cells2.2, h.z.frozen 1, below_cell h.b h0, below_cell h.b h1, below_cell h.b h2⟩
end
theorem LG.put {w w' : World} {g : Nat} {s : Int} {N : Option Addr} {q r n : Nat} {F F' : Option Addr} {k d k' d' : Nat} (h : LG w g s N q r n F k d w') (hgl : g < w.heap.size) :
    LG w g s N q r n F' k' d' (w'.setCell ⟨w.heap.size + 1 + 1, 1, none⟩ (.slice F' k' d')) := by
  have hg : w'.grownBy (w'.setCell ⟨w.heap.size + 1 + 1, 1, none⟩ (.slice F' k' d')) (some (w.heap.size + 1 + 1)) := grown_set
  refine ⟨h.b.setCell (by simp; omega) _, h.o.grown hg (fun e => by simp at e; omega), h.x.grown hg (fun e => by simp at e; omega), h.y.grown hg (fun e => by simp at e), ?_⟩
  exact h.z.set_ 1 _
theorem all64E_take {es : List Ed} {k : Nat} (h : All64E (es.take k)) (hk : k < es.length) (hx : I64 (nthE es k).1) (hy : I64 (nthE es k).2) : All64E (es.take (k + 1)) := by
  intro e he
  rw [List.take_succ_eq_append_getElem hk] at he
  rcases List.mem_append.1 he with he | he
  · exact h e he
  · rw [List.mem_singleton.1 he, ← nthE_get hk]
    exact ⟨hx, hy⟩
theorem zerosBlk {w : World} {b n : Nat} (h : Blk w b 2 (madeCells #[.int .i64 0] n)) (hn : n ≤ 9223372036854775807) : RI w (some ⟨b, 0, none⟩) n (List.replicate n 0) := by
  have hO : OI w 0 2 (some ⟨b, 0, none⟩) n n (List.replicate n 0) := by
    refine ⟨⟨by simp [ints], .inr ⟨b, n, _, rfl, Nat.zero_le _, h, Nat.le_refl _, hn, by simp [size_madeCells], ?_⟩⟩, fun z hz => by rw [List.eq_of_mem_replicate hz]; exact ⟨by omega, by omega⟩⟩
    rw [toList_madeCells_one, Nat.mul_one, ints, List.map_replicate]
    exact List.take_of_length_le (by simp)
  exact hO.reads
theorem newsAt1 (wr : World) (a : Array Value) (e : TypeId) : ((wr.alloc (.cells a e)).drew).heap[wr.heap.size]? = some (.cells a e (0, 0)) := heap_alloc_new wr (.cells a e)
end Go.Proofs.YtemdjochphehjaaGreat
/- The graph of any rows, on the reference's side. No condition beyond those stated. -/
namespace Go.Proofs.YtemdjochphehjaaGreat
open Go.RowKit

def edOf (r : List Int) : Ed := (nth r 0, nth r 1)
def edsOf (rows : List (List Int)) : List Ed := rows.map edOf
theorem edsOf_len (rows : List (List Int)) : (edsOf rows).length = rows.length := by simp [edsOf]
theorem edsOf_row {rows : List (List Int)} {k : Nat} (h : k < rows.length) (h2 : (row rows k).length = 2) : row rows k = [(nthE (edsOf rows) k).1, (nthE (edsOf rows) k).2] := by
  rw [nthE_get (by rw [edsOf_len]; exact h)]
  have e : (edsOf rows)[k]'(by rw [edsOf_len]; exact h) = edOf (row rows k) := by rw [row_get h]; simp [edsOf]
  rw [e]
  unfold edOf
  generalize row rows k = z at *
  match z, h2 with
  | [x, y], _ => rfl
/-- rows that are a graph's edges, on so many points -/
def GObj (s : Int) (rows : List (List Int)) : Prop := 0 ≤ s ∧ s ≤ 64 ∧ (∀ i, i < rows.length → (row rows i).length = 2) ∧ GraphOk (List.replicate s.toNat 0) (edsOf rows)
/-- the first row that is no edge, or the end -/
theorem first_bad (rows : List (List Int)) : ∃ b, b ≤ rows.length ∧ (∀ i, i < b → (row rows i).length = 2) ∧ (b < rows.length → (row rows b).length ≠ 2) := by
  have : ∀ m, m ≤ rows.length → (∀ i, i < rows.length - m → (row rows i).length = 2) → ∃ b, b ≤ rows.length ∧ (∀ i, i < b → (row rows i).length = 2) ∧ (b < rows.length → (row rows b).length ≠ 2) := by
    intro m
    induction m with
    | zero => intro _ h; exact ⟨rows.length, Nat.le_refl _, fun i hi => h i (by omega), fun h => absurd h (by omega)⟩
    | succ m ih =>
      intro hm h
      by_cases e : (row rows (rows.length - (m + 1))).length = 2
      · refine ih (by omega) fun i hi => ?_
        by_cases e2 : i = rows.length - (m + 1)
        · rw [e2]; exact e
        · exact h i (by omega)
      · exact ⟨rows.length - (m + 1), by omega, h, fun _ => e⟩
  exact this rows.length (Nat.le_refl _) (fun i hi => absurd hi (by omega))
theorem tB_GObj {n : Nat} {rows : List (List Int)} {b : Nat} (hn : n ≤ 64) (h1 : b ≤ rows.length) (h2 : ∀ i, i < b → (row rows i).length = 2) (h3 : b < rows.length → (row rows b).length ≠ 2) :
    (decide (b = rows.length) && tB (GraphOk (List.replicate n 0) (edsOf (rows.take b)))) = tB (GObj n rows) := by
  by_cases e : b = rows.length
  · subst e
    rw [decide_eq_true rfl, Bool.true_and, List.take_length]
    by_cases hg : GraphOk (List.replicate n 0) (edsOf rows)
    · rw [tB_yes hg, tB_yes]
      exact ⟨by omega, by omega, h2, by rw [Int.toNat_natCast]; exact hg⟩
    · rw [tB_no hg, tB_no]
      rintro ⟨-, -, -, h⟩
      rw [Int.toNat_natCast] at h
      exact hg h
  · rw [decide_eq_false e, Bool.false_and, tB_no]
    rintro ⟨-, -, h, -⟩
    exact h3 (by omega) (h b (by omega))
theorem row_takeR {rows : List (List Int)} {b k : Nat} (h : k < b) : row (rows.take b) k = row rows k := by
  unfold row
  simp only [List.getD, List.getElem?_take, if_pos h]
theorem edsOf_rows {rows : List (List Int)} {b : Nat} (h1 : b ≤ rows.length) (h2 : ∀ i, i < b → (row rows i).length = 2) : ∀ k, k < b → row rows k = [(nthE (edsOf (rows.take b)) k).1, (nthE (edsOf (rows.take b)) k).2] := fun k hk => by
  rw [← row_takeR hk]
  exact edsOf_row (by rw [List.length_take]; omega) (by rw [row_takeR hk]; exact h2 k hk)
set_option maxRecDepth 100000 in
set_option maxHeartbeats 4000000 in
theorem l30GraphR_any (g n : Nat) (N : Option Addr) (q r : Nat) (rows : List (List Int)) (b : Nat) (es : List Ed) (w : World) (hle0 : es.length = b) (hbq : b ≤ q) (hrow : ∀ k, k < b → row rows k = [(nthE es k).1, (nthE es k).2]) (hbad : b < q → (row rows b).length ≠ 2) (hB : Blk w g 30 #[.int .i64 6, .int .i64 n, .slice N q r]) (ha : RR w N q rows) (hn : n ≤ 64) (hq : q ≤ 1099511627776) :
    Calls Tryz.prog 113 #[.pointer (some ⟨g, 0, none⟩)] w fun e w' => ∃ (A1 : Option Addr) (n1 c1 : Nat) (F1 : Option Addr) (m1 d1 : Nat), e = .returned (.tuple #[.agg #[.slice A1 n1 c1, .slice F1 m1 d1], .bool (decide (b = q) && tB (GraphOk (List.replicate n 0) es))]) ∧ Below w.heap.size w w' := by
  have hgl := hB.lt
  have hla := Lib.hid ha.len
  have hle := Lib.hid hle0
  have HROW := Lib.hid hrow
  have HBAD := Lib.hid hbad
  clear hle0 hrow hbad
  have hin : inB (n : Int) 0 64 = true := inB_mk ⟨by omega, by omega⟩
  have hb0 := below_alloc w (.cells #[.slice none 0 0, .slice none 0 0] 99)
  have hB0 := hB.after hb0
  obtain ⟨k0, k1, k2⟩ := hB0.cells3
  have hmk := run_make_row' (P := Tryz.prog) 22 2 (.int .i64 0) 8 Tryz.underlying22 int_info rfl .i64 .i64 n (by omega) (by omega)
  go_enter Tryz.func113, Tryz.ntmps113
  go_wp2_with (go_at_call 80; refine (l00In_any _ _ _ _).mono ?_; rintro e w' ⟨rfl, rfl⟩; rw [hin])
  have hY : Blk ((w.alloc (.cells #[.slice none 0 0, .slice none 0 0] 99)).alloc (.cells (madeCells #[.int .i64 0] n) 2)) (w.heap.size + 1) 2 (madeCells #[.int .i64 0] n) := by
    have := Blk.new (w.alloc (.cells #[.slice none 0 0, .slice none 0 0] 99)) 2 (madeCells #[.int .i64 0] n)
    simpa using this
  have hZ : Blk (((w.alloc (.cells #[.slice none 0 0, .slice none 0 0] 99)).alloc (.cells (madeCells #[.int .i64 0] n) 2)).alloc (.cells #[.slice (some ⟨w.heap.size + 1, 0, none⟩) n n, .slice none 0 0] 99)) (w.heap.size + 1 + 1) 99 #[.slice (some ⟨w.heap.size + 1, 0, none⟩) n n, .slice none 0 0] := by
    have := Blk.new ((w.alloc (.cells #[.slice none 0 0, .slice none 0 0] 99)).alloc (.cells (madeCells #[.int .i64 0] n) 2)) 99 #[.slice (some ⟨w.heap.size + 1, 0, none⟩) n n, .slice none 0 0]
    simpa using this
  have hX := ((Blk.new w 99 #[.slice none 0 0, .slice none 0 0]).alloc (.cells (madeCells #[.int .i64 0] n) 2)).alloc (.cells #[.slice (some ⟨w.heap.size + 1, 0, none⟩) n n, .slice none 0 0] 99)
  have hbb := below_then (below_then hb0 (below_alloc _ (.cells (madeCells #[.int .i64 0] n) 2))) (below_alloc _ (.cells #[.slice (some ⟨w.heap.size + 1, 0, none⟩) n n, .slice none 0 0] 99))
  have hL0 : LG w g n N q r n none 0 0 _ := ⟨hbb, hB.after hbb, hX, hY.alloc _, hZ⟩
  have hz0 : w.heap.size + 1 + 1 + 1 ≤ (((w.alloc (.cells #[.slice none 0 0, .slice none 0 0] 99)).alloc (.cells (madeCells #[.int .i64 0] n) 2)).alloc (.cells #[.slice (some ⟨w.heap.size + 1, 0, none⟩) n n, .slice none 0 0] 99)).heap.size := by simp
  clear hmk hX hY hZ hbb hB0 hb0 k0 k1 k2
  go_loopw [5] (fun i wr => ∃ (k : Nat) (F : Option Addr) (d : Nat), i = .int .i64 k ∧ k ≤ b ∧ LG w g n N q r n F k d wr ∧ OE wr (w.heap.size + 1 + 1 + 1) 148 F k d (es.take k) ∧ w.heap.size + 1 + 1 + 1 ≤ wr.heap.size) (fun i _ => q - (intOf i).toNat)
  case atStart => exact ⟨0, _, _, rfl, Nat.zero_le _, hL0, OE.nil_ _ _ _, hz0⟩
  case round =>
    clear hL0 hz0
    obtain ⟨k, F, d, rfl, hk, hL, hoe, hz⟩ := hrel
    obtain ⟨k0, k1, k2⟩ := hL.o.cells3
    by_cases hlt : k < b
    · obtain ⟨a, A1, n1, c1, rfl, hca, hn1, hc1, ha1⟩ := ha.get (k := k) (by omega)
      have hrw := HROW.out k hlt
      have hst := Lib.hid (ecells_take (es := es) (k := k) (by rw [hle.out]; exact hlt))
      rw [hrw] at ha1
      obtain rfl : n1 = 2 := by have := ha1.len; simpa using this.symm
      have H64 := Lib.hid (all64E_take (es := es) (k := k) hoe.all (by rw [hle.out]; exact hlt) (ha1.get (k := 0) (by omega)).choose_spec.2.2 (ha1.get (k := 1) (by omega)).choose_spec.2.2)
      generalize nthE es k = e at *
      obtain ⟨x, y⟩ := e
      obtain ⟨bb, rfl, hc0, i0⟩ := ha1.get (k := 0) (by omega)
      obtain ⟨bb', hbb, hc1', i1⟩ := ha1.get (k := 1) (by omega)
      cases hbb
      have hcx : w.cell? bb = some (.int .i64 x) := by
        have : bb.add 0 = bb := by simp [Addr.add]
        rw [this] at hc0
        exact hc0
      have hcy : w.cell? ⟨bb.block, bb.off + 1, none⟩ = some (.int .i64 y) := by
        have : bb.add 1 = ⟨bb.block, bb.off + 1, none⟩ := by simp [Addr.add]
        rw [← this]
        exact hc1'
      have hcar := below_cell hL.b hca
      obtain ⟨ii, hi, hi0, hi1, hi2⟩ := info_parts edge_info
      clear hrw hc0 hc1'
      go_wp2
      obtain ⟨_, q0, q1, q2, q3, q4, q5⟩ := hL.full hca hcx hcy
      obtain ⟨_, _, q6, _, _, _, _⟩ := (hL.step (below_alloc wr (.cells #[.int .i64 x, .int .i64 y] 148))).full hca hcx hcy
      have q4 := below_cell hL.b hcx
      have q5 := below_cell hL.b hcy
      have q1 := hL.z.cells2.2
      obtain ⟨_, _, q6, _, _, _, _⟩ := (hL.step (below_alloc wr (.cells #[.int .i64 x, .int .i64 y] 148))).full hca hcx hcy
      have hS2 : ∀ (w' : World), LG w g n (some a) q r n F k d w' → LG w g n (some a) q r n F k d w' ∧ w'.cell? ⟨g, 2, none⟩ = some (.slice (some a) q r) ∧ w'.cell? (a.add k) = some (.slice (some bb) 2 c1) ∧ w'.cell? bb = some (.int .i64 x) ∧ w'.cell? ⟨bb.block, bb.off + 1, none⟩ = some (.int .i64 y) ∧ w'.cell? ⟨w.heap.size + 1 + 1, 1, none⟩ = some (.slice F k d) := fun w' h => ⟨h, h.o.cells3.2.2, below_cell h.b hca, below_cell h.b hcx, below_cell h.b hcy, h.z.cells2.2⟩
      have HS2 := Lib.hid hS2
      clear hS2 k0 k1 k2 hcar hca hcx hcy
      refine region_last (P := Tryz.prog) (S := fun w' => LG w g n (some a) q r n F k d w' ∧ w'.cell? ⟨g, 2, none⟩ = some (.slice (some a) q r) ∧ w'.cell? (a.add k) = some (.slice (some bb) 2 c1) ∧ w'.cell? bb = some (.int .i64 x) ∧ w'.cell? ⟨bb.block, bb.off + 1, none⟩ = some (.int .i64 y) ∧ w'.cell? ⟨w.heap.size + 1 + 1, 1, none⟩ = some (.slice F k d)) (by kernel_rfl) (by simp only [List.getLast?_cons_cons, List.getLast?_singleton]; rfl) (by dsimp only [List.dropLast]) (by kernel_rfl) ?_ ?_
      · exact HS2.out _ (hL.step (below_drewn _ 1))
      intro hS
      refine wpAnyH_take (i := 0) (v := ?_) rfl (by kernel_rfl) (by kernel_rfl) (by kernel_rfl) (fun _ _ _ h => h) (Or.inl ⟨by rfl, ?_⟩) (by assumption) ?_
      rotate_left
      · (intro w hSw; (try dsimp only at hSw); go_simp; (try with_reducible rfl))
      simp only [Act.put, List.setIfInBounds_toArray, List.set_cons_zero, List.set_cons_succ]
      refine wpAnyH_take (i := 1) (v := ?_) rfl (by kernel_rfl) (by kernel_rfl) (by kernel_rfl) (fun _ _ _ h => h) (Or.inl ⟨by rfl, ?_⟩) (by assumption) ?_
      rotate_left
      · (intro w hSw; (try dsimp only at hSw); go_simp; (try with_reducible rfl))
      simp only [Act.put, List.setIfInBounds_toArray, List.set_cons_zero, List.set_cons_succ]
      refine wpAnyH_take (i := 2) (v := ?_) rfl (by kernel_rfl) (by kernel_rfl) (by kernel_rfl) (fun _ _ _ h => h) (Or.inl ⟨by rfl, ?_⟩) (by assumption) ?_
      rotate_left
      · (intro w hSw; (try dsimp only at hSw); go_simp; (try with_reducible rfl))
      simp only [Act.put, List.setIfInBounds_toArray, List.set_cons_zero, List.set_cons_succ]
      refine wpAnyH_take (i := 3) (v := ?_) rfl (by kernel_rfl) (by kernel_rfl) (by kernel_rfl) (fun _ _ _ h => h) (Or.inl ⟨by rfl, ?_⟩) (by assumption) ?_
      rotate_left
      · (intro w hSw; (try dsimp only at hSw); go_simp; (try with_reducible rfl))
      simp only [Act.put, List.setIfInBounds_toArray, List.set_cons_zero, List.set_cons_succ]
      refine wpAnyH_take (i := 4) (v := ?_) rfl (by kernel_rfl) (by kernel_rfl) (by kernel_rfl) (fun _ _ _ h => h) (Or.inl ⟨by rfl, ?_⟩) (by assumption) ?_
      rotate_left
      · (intro w hSw; (try dsimp only at hSw); go_simp; (try with_reducible rfl))
      simp only [Act.put, List.setIfInBounds_toArray, List.set_cons_zero, List.set_cons_succ]
      refine wpAnyH_take (i := 5) (v := ?_) rfl (by kernel_rfl) (by kernel_rfl) (by kernel_rfl) (fun _ _ _ h => h) (Or.inl ⟨by rfl, ?_⟩) (by assumption) ?_
      rotate_left
      · (intro w hSw; (try dsimp only at hSw); go_simp; (try with_reducible rfl))
      simp only [Act.put, List.setIfInBounds_toArray, List.set_cons_zero, List.set_cons_succ]
      refine wpAnyH_take (i := 6) (v := ?_) rfl (by kernel_rfl) (by kernel_rfl) (by kernel_rfl) (fun _ _ _ h => h) (Or.inl ⟨by rfl, ?_⟩) (by assumption) ?_
      rotate_left
      · (intro w hSw; (try dsimp only at hSw); go_simp; (try with_reducible rfl))
      simp only [Act.put, List.setIfInBounds_toArray, List.set_cons_zero, List.set_cons_succ]
      refine wpAnyH_take (i := 7) (v := ?_) rfl (by kernel_rfl) (by kernel_rfl) (by kernel_rfl) (fun _ _ _ h => h) (Or.inl ⟨by rfl, ?_⟩) (by assumption) ?_
      rotate_left
      · (intro w hSw; (try dsimp only at hSw); go_simp; (try with_reducible rfl))
      simp only [Act.put, List.setIfInBounds_toArray, List.set_cons_zero, List.set_cons_succ]
      refine wpAnyH_take (i := 8) (v := ?_) rfl (by kernel_rfl) (by kernel_rfl) (by kernel_rfl) (fun _ _ _ h => h) (Or.inl ⟨by rfl, ?_⟩) (by assumption) ?_
      rotate_left
      · (intro w hSw; (try dsimp only at hSw); go_simp; (try with_reducible rfl))
      simp only [Act.put, List.setIfInBounds_toArray, List.set_cons_zero, List.set_cons_succ]
      refine wpAnyH_take (i := 9) (v := ?_) rfl (by kernel_rfl) (by kernel_rfl) (by kernel_rfl) (fun _ _ _ h => h) (Or.inl ⟨by rfl, ?_⟩) (by assumption) ?_
      rotate_left
      · (intro w hSw; (try dsimp only at hSw); go_simp; (try with_reducible rfl))
      simp only [Act.put, List.setIfInBounds_toArray, List.set_cons_zero, List.set_cons_succ]
      refine wpAnyH_take (i := 10) (v := ?_) rfl (by kernel_rfl) (by kernel_rfl) (by kernel_rfl) (fun _ _ _ h => h) (Or.inl ⟨by rfl, ?_⟩) (by assumption) ?_
      rotate_left
      · (intro w hSw; (try dsimp only at hSw); go_simp; (try with_reducible rfl))
      simp only [Act.put, List.setIfInBounds_toArray, List.set_cons_zero, List.set_cons_succ]
      refine wpAnyH_take (i := 11) (v := ?_) rfl (by kernel_rfl) (by kernel_rfl) (by kernel_rfl) (fun _ _ _ h => h) (Or.inl ⟨by rfl, ?_⟩) (by assumption) ?_
      rotate_left
      · (intro w hSw; (try dsimp only at hSw); go_simp; (try with_reducible rfl))
      simp only [Act.put, List.setIfInBounds_toArray, List.set_cons_zero, List.set_cons_succ]
      refine wpAnyH_take (i := 12) (v := ?_) rfl (by kernel_rfl) (by kernel_rfl) (by kernel_rfl) (fun _ _ _ h => h) (Or.inl ⟨by rfl, ?_⟩) (by assumption) ?_
      rotate_left
      · (intro w hSw; (try dsimp only at hSw); go_simp; (try with_reducible rfl))
      simp only [Act.put, List.setIfInBounds_toArray, List.set_cons_zero, List.set_cons_succ]
      refine wpAnyH_take (i := 13) (v := ?_) rfl (by kernel_rfl) (by kernel_rfl) (by kernel_rfl) (fun _ _ _ h => h) (Or.inl ⟨by rfl, ?_⟩) (by assumption) ?_
      rotate_left
      · (intro w hSw; (try dsimp only at hSw); go_simp; (try with_reducible rfl))
      simp only [Act.put, List.setIfInBounds_toArray, List.set_cons_zero, List.set_cons_succ]
      refine wpAnyH_take (i := 14) (v := ?_) rfl (by kernel_rfl) (by kernel_rfl) (by kernel_rfl) (fun _ _ _ h => h) (Or.inl ⟨by rfl, ?_⟩) (by assumption) ?_
      rotate_left
      · (intro w hSw; (try dsimp only at hSw); go_simp; (try with_reducible rfl))
      simp only [Act.put, List.setIfInBounds_toArray, List.set_cons_zero, List.set_cons_succ]
      refine wpAnyH_take (i := 15) (v := ?_) rfl (by kernel_rfl) (by kernel_rfl) (by kernel_rfl) (fun _ _ _ h => h) (Or.inl ⟨by rfl, ?_⟩) (by assumption) ?_
      rotate_left
      · (intro w hSw; (try dsimp only at hSw); go_simp; (try with_reducible rfl))
      simp only [Act.put, List.setIfInBounds_toArray, List.set_cons_zero, List.set_cons_succ]
      refine wpAnyH_take (i := 16) (v := ?_) rfl (by kernel_rfl) (by kernel_rfl) (by kernel_rfl) (fun _ _ _ h => h) (Or.inl ⟨by rfl, ?_⟩) (by assumption) ?_
      rotate_left
      · (intro w hSw; (try dsimp only at hSw); go_simp; (try with_reducible rfl))
      simp only [Act.put, List.setIfInBounds_toArray, List.set_cons_zero, List.set_cons_succ]
      refine wpAnyH_take (i := 17) (v := ?_) rfl (by kernel_rfl) (by kernel_rfl) (by kernel_rfl) (fun _ _ _ h => h) (Or.inl ⟨by rfl, ?_⟩) (by assumption) ?_
      rotate_left
      · (intro w hSw; (try dsimp only at hSw); go_simp; (try with_reducible rfl))
      simp only [Act.put, List.setIfInBounds_toArray, List.set_cons_zero, List.set_cons_succ]
      refine wpAnyH_take (i := 18) (v := ?_) rfl (by kernel_rfl) (by kernel_rfl) (by kernel_rfl) (fun _ _ _ h => h) (Or.inl ⟨by rfl, ?_⟩) (by assumption) ?_
      rotate_left
      · (intro w hSw; (try dsimp only at hSw); go_simp; (try with_reducible rfl))
      simp only [Act.put, List.setIfInBounds_toArray, List.set_cons_zero, List.set_cons_succ]
      refine wpAnyH_take (i := 19) (v := ?_) rfl (by kernel_rfl) (by kernel_rfl) (by kernel_rfl) (fun _ _ _ h => h) (Or.inl ⟨by rfl, ?_⟩) (by assumption) ?_
      rotate_left
      · (intro w hSw; (try dsimp only at hSw); go_simp; (try with_reducible rfl))
      simp only [Act.put, List.setIfInBounds_toArray, List.set_cons_zero, List.set_cons_succ]
      refine wpAnyH_take (i := 20) (v := ?_) rfl (by kernel_rfl) (by kernel_rfl) (by kernel_rfl) (fun _ _ _ h => h) (Or.inl ⟨by rfl, ?_⟩) (by assumption) ?_
      rotate_left
      · (intro w hSw; (try dsimp only at hSw); go_simp; (try with_reducible rfl))
      simp only [Act.put, List.setIfInBounds_toArray, List.set_cons_zero, List.set_cons_succ]
      refine wpAnyH_ready (rs := [21]) (by kernel_rfl) (by simp) ?_
      refine AllReadyH.cons rfl (fun K hK => ?_) AllReadyH.nil
      go_simp
      refine hK.out _ _ ?_ (fun hS1 => ?_)
      · exact HS2.out _ (hL.step ((below_alloc wr _).trans (below_drewn' _ _ 1)))
      clear hK K hS
      refine wpAnyH_ready (rs := [22]) (by kernel_rfl) (by simp) ?_
      refine AllReadyH.cons rfl (fun K hK => ?_) AllReadyH.nil
      refine step_append_lies _ (by rfl) _ _ 97 (by rfl) (w.heap.size + 1 + 1 + 1) 148 ii (.agg #[.int .i64 0, .int .i64 0]) 2 16 Tryz.underlying97 hi hi0 hi1 hi2 rfl (by omega) (.slice F k d) k (ecells (es.take k)) (by rfl) (hoe.os.alloc (.cells #[.int .i64 x, .int .i64 y] 148)) ⟨wr.heap.size, 0, none⟩ 1 1 [.int .i64 x, .int .i64 y] (by rfl) rfl (World.news_of_block (cs := #[.int .i64 x, .int .i64 y]) (t := 148) (fr := (0, 0)) (newsAt1 wr _ _)) (fun u hu => by simp at hu; rcases hu with rfl | rfl <;> rfl) (by omega) (by unfold maxLen; omega) (by omega) (by simp; omega) (wr.heap.size + 1) (by simp) ?_
      intro G cap w3 hown3 hgrow3 hat3 hlt3
      have hL3 := LG.grown (hL.step ((below_alloc wr (.cells #[.int .i64 x, .int .i64 y] 148)).trans (below_drewn' _ _ 1))) hgrow3 hgl (fun b hb => (hoe.os.lt (by rw [← ownBlock_slice F k d]; exact hb)).1)
      refine hK.out _ _ ?_ (fun hS2 => ?_)
      · exact HS2.out _ hL3
      clear hK K hS1
      refine wpAnyH_take (i := 23) (v := ?_) rfl (by kernel_rfl) (by kernel_rfl) (by kernel_rfl) (fun _ _ _ h => h) (Or.inl ⟨by rfl, ?_⟩) (by assumption) ?_
      rotate_left
      · (intro w hSw; (try dsimp only at hSw); go_simp; (try with_reducible rfl))
      simp only [Act.put, List.setIfInBounds_toArray, List.set_cons_zero, List.set_cons_succ]
      refine wpAnyH_done (by kernel_rfl) ?_ _
      dsimp only [atEnd]
      have fz := hL3.z.frozen 1
      have cz := hL3.z.cells2.2
      clear hS2
      go_wp2
      have hz3 := hgrow3.size
      have hL4 := hL3.put (F' := some ⟨G, 0, none⟩) (k' := k + 1) (d' := cap) hgl
      have hO : OE w3 (w.heap.size + 1 + 1 + 1) 148 (some ⟨G, 0, none⟩) (k + 1) cap (es.take (k + 1)) := ⟨by rw [hst.out]; exact hown3, H64.out⟩
      clear hown3 hgrow3 hat3 hlt3
      go_roundw
      case rel => exact ⟨k + 1, _, _, by go_num, by omega, hL4, hO.setLow (by simp) _, by simp [World.setCell] at hz3 ⊢; omega⟩
      case measure => simp [intOf]; omega
    · have hkm : k = b := by omega
      subst hkm
      by_cases hkq : k < q
      · obtain ⟨a, A1, n1, c1, rfl, hca, -, hc1, ha1⟩ := ha.get (k := k) hkq
        have hl2 : n1 ≠ 2 := by rw [← ha1.len]; exact HBAD.out hkq
        have hne : ((n1 : Int) != 2) = true := by simp; omega
        have hcar := below_cell hL.b hca
        have v0 := hL.x.frozen 0
        have v1 := hL.x.frozen 1
        obtain ⟨v2, v3⟩ := hL.x.cells2
        have hend := hL.b
        clear hk hlt hl2
        go_wp2
        refine bodyPost_ret (v := .tuple #[.agg #[.slice none 0 0, .slice none 0 0], .bool false]) (by simp [results, Tryz.results113, go_sem, v2, v3]) rfl ⟨_, _, _, _, _, _, by rw [decide_eq_false (by omega), Bool.false_and], ?_⟩
        repeat (refine Below.setCell ?_ (by simp <;> omega) _)
        exact hend
      obtain rfl : k = q := by omega
      have hes := Lib.hid (show es.take k = es by rw [List.take_of_length_le (Nat.le_of_eq hle.out)])
      rw [hes.out] at hoe
      have hyo := hL.y
      have hRG : RG wr (some ⟨w.heap.size + 1, 0, none⟩) n F k (List.replicate n 0) es := ⟨zerosBlk hyo (by omega), hoe.reads⟩
      have hRG' := Lib.hid hRG
      obtain ⟨y0, y1⟩ := hL.z.cells2
      have hL' := Lib.hid hL
      clear hk hlt hRG hyo
      go_wp2
      have hcall := l21Ok_any (some ⟨w.heap.size + 1, 0, none⟩) n n F k d (List.replicate n 0) es (wr.drewN 1) (hRG'.out.keep (below_drewn wr 1)) (by omega) (by omega)
      have HC := Lib.hid hcall
      clear k0 k1 k2 hcall
      go_region_held_law (fun w' => w'.cell? ⟨w.heap.size + 1 + 1, 0, none⟩ = some (.slice (some ⟨w.heap.size + 1, 0, none⟩) n n) ∧ w'.cell? ⟨w.heap.size + 1 + 1, 1, none⟩ = some (.slice F k d))
        (first | exact (hL'.out.step (below_drewn _ 1)).z.cells2 | exact ((by assumption : LG w g (n : Int) N k r n F k d _).z).cells2 | exact ((((by assumption : LG w g (n : Int) N k r n F k d _).z.grown grown_set (fun e => by injection e; omega)).grown grown_set (fun e => by injection e; omega))).cells2)
        ((go_at_call 162; refine HC.out.mono ?_; rintro e w2 ⟨rfl, hb2⟩; have hL2 := (hL'.out.step (below_drewn _ 1)).step hb2; have v0 := hL2.x.frozen 0; have v1 := hL2.x.frozen 1; obtain ⟨v2, v3⟩ := hL2.x.cells2))
      have hend := hL2.b
      go_wp2
      refine bodyPost_ret (v := .tuple #[.agg #[.slice (some ⟨w.heap.size + 1, 0, none⟩) n n, .slice F k d], .bool (tB (GraphOk (List.replicate n 0) es))]) (by simp [results, Tryz.results113, go_sem, v2, v3]) rfl ⟨⟨_, _, _, _, _, _, rfl⟩, ?_⟩
      repeat (refine Below.setCell ?_ (by simp <;> omega) _)
      exact hend
set_option maxHeartbeats 1000000 in
theorem l30Graph_out (g : Nat) (s : Int) (N : Option Addr) (q r : Nat) (w : World) (hB : Blk w g 30 #[.int .i64 6, .int .i64 s, .slice N q r]) (hs : inB s 0 64 = false) :
    Calls Tryz.prog 113 #[.pointer (some ⟨g, 0, none⟩)] w fun e w' => ∃ (A1 : Option Addr) (n1 c1 : Nat) (F1 : Option Addr) (m1 d1 : Nat), e = .returned (.tuple #[.agg #[.slice A1 n1 c1, .slice F1 m1 d1], .bool false]) ∧ Below w.heap.size w w' := by
  have hb0 := below_alloc w (.cells #[.slice none 0 0, .slice none 0 0] 99)
  have hX := Blk.new w 99 #[.slice none 0 0, .slice none 0 0]
  have hB0 := hB.after hb0
  obtain ⟨k0, k1, k2⟩ := hB0.cells3
  go_enter Tryz.func113, Tryz.ntmps113
  go_wp2_with (go_at_call 80; refine (l00In_any _ _ _ _).mono ?_; rintro e w' ⟨rfl, rfl⟩; rw [hs])
  have v0 := hX.frozen 0
  have v1 := hX.frozen 1
  obtain ⟨v2, v3⟩ := hX.cells2
  refine bodyPost_ret (v := .tuple #[.agg #[.slice none 0 0, .slice none 0 0], .bool false]) (by simp [results, Tryz.results113, go_sem, v2, v3]) rfl ⟨_, _, _, _, _, _, rfl, ?_⟩
  repeat (refine Below.setCell ?_ (by simp <;> omega) _)
  exact hb0
set_option maxHeartbeats 2000000 in
theorem judgeGraphR (s : Int) (zss : List (List Int)) (w : World) (hz : zss.length ≤ 1099511627776) : Judge 6 s zss (tB (GObj s zss)) w := by
  intro g A q c W _ hB ha hc1 hc2
  obtain ⟨k0, k1, k2⟩ := hB.cells3
  have hall : Calls Tryz.prog 113 #[.pointer (some ⟨g, 0, none⟩)] W fun e w' => ∃ (A1 : Option Addr) (n1 c1 : Nat) (F1 : Option Addr) (m1 d1 : Nat), e = .returned (.tuple #[.agg #[.slice A1 n1 c1, .slice F1 m1 d1], .bool (tB (GObj s zss))]) ∧ Below W.heap.size W w' := by
    cases hs : inB s 0 64 with
    | false =>
      rw [tB_no (p := GObj s zss) fun h => by rw [inB_mk ⟨h.1, h.2.1⟩] at hs; cases hs]
      exact l30Graph_out g s A q c W hB hs
    | true =>
      obtain ⟨s1, s2⟩ := inB_true hs
      obtain ⟨n, rfl⟩ : ∃ n : Nat, s = n := ⟨s.toNat, by omega⟩
      obtain ⟨b, h1, h2, h3⟩ := first_bad zss
      have hl := ha.len
      rw [← tB_GObj (by omega) h1 h2 h3, hl]
      exact l30GraphR_any g n A q c zss b (edsOf (zss.take b)) W (by rw [edsOf_len, List.length_take]; omega) (by omega) (edsOf_rows h1 h2) (fun h => h3 (by omega)) hB ha (by omega) (by omega)
  clear hB ha
  generalize tB (GObj s zss) = ok at *
  go_enter Tryz.func62, Tryz.ntmps62
  go_wp2_with fail
  refine hall.mono ?_
  rintro e w1 ⟨A1, n1, c1, F1, m1, d1, rfl, hb⟩
  have hb2 := hb.trans ((below_alloc w1 (.cells #[.slice A1 n1 c1, .slice F1 m1 d1] 99)).mono hb.size)
  go_wp2
  go_ret
  exact ⟨rfl, hb2⟩
end Go.Proofs.YtemdjochphehjaaGreat
