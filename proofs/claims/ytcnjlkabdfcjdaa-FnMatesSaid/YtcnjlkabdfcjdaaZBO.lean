/- Transversals, the program's TransversalsOf. No condition beyond those stated. -/
import Derived.Test.YtcnjlkabdfcjdaaZBN
import Derived.Test.YtcnjlkabdfcjdaaZBD
import Derived.Test.YtcnjlkabdfcjdaaZBK
set_option linter.unusedVariables false
set_option linter.unusedSimpArgs false
namespace Go.Proofs.Ytcnjlkabdfcjdaa
open Go.RowKit

/-- what TransversalsOf answers: its code -/
noncomputable def trK (a : List (List Int)) (lim b : Int) : Int := if tB (Square a) then (if inB b 1 20000 then (if inB lim 1 100 then (if (trR a lim.toNat b.toNat).spent then 5 else 0) else 2) else 2) else 1
/-- and its list -/
noncomputable def trF (a : List (List Int)) (lim b : Int) : List (List Int) := if trK a lim b = 0 then (trR a lim.toNat b.toNat).found else []
def RetTr (w : World) (a : List (List Int)) (lim b : Int) (e : Ending) (w' : World) : Prop :=
  Below w.heap.size w w' ∧ ∃ FA fn fk vs, e = .returned (.tuple #[.slice FA fn fk, .int .i64 (trK a lim b)]) ∧ ORv w' w.heap.size 30 2 FA fn fk vs (trF a lim b)
theorem ORv.nil_ (w : World) (B : Nat) : ORv w B 30 2 none 0 0 [] [] := ⟨OS.nil_ _ _ _ _, rfl, fun j u z h => by simp at h, fun i j u x _ h => by simp at h, by decide⟩
theorem ORv.more {w : World} {B B' : Nat} {A : Option Addr} {n c : Nat} {vs : List Sl} {zss : List (List Int)} (h : ORv w B 30 2 A n c vs zss) (hB : B' ≤ B) : ORv w B' 30 2 A n c vs zss :=
  ⟨h.os.more hB, h.len, fun j v z hv hz => (h.rows j v z hv hz).more hB, h.sep, h.ne⟩
theorem RetTr.no {w w' : World} {a : List (List Int)} {lim b c : Int} (hb : Below w.heap.size w w') (hk : trK a lim b = c) (hc : c ≠ 0) : RetTr w a lim b (.returned (.tuple #[.slice none 0 0, .int .i64 c])) w' :=
  ⟨hb, none, 0, 0, [], by rw [hk], by rw [trF, hk, if_neg hc]; exact ORv.nil_ _ _⟩
theorem searchT_any (w0 : World) (M n : Nat) (SA : Option Addr) (sc : Nat) (a : List (List Int)) (lim : Nat) (hq : Square a) (hn : n ≤ 10) (hlim : lim ≤ 100) : ∀ k, SubT w0 M n SA sc a lim k
  | 0 => fun w' s' cols' C' FA' hl hsp hfl hsl hS => by
    rw [trS]
    exact searchT_leaf w0 w' M n SA sc a lim s' cols' C' FA' hS (by omega) hn (by omega)
  | k + 1 => fun w' s' cols' C' FA' hl hsp hfl hsl hS => searchT_step w0 w' M n SA sc a lim k s' cols' C' FA' hq hl hlim hsp hfl hsl hS (searchT_any w0 M n SA sc a lim hq hn hlim k)
theorem bool_infoT : (Try.prog.info? 4).map (fun i => (i.zero, i.size, i.bytes)) = some (some (.bool false), 1, 1) := by kernel_rfl
set_option maxRecDepth 100000 in
set_option maxHeartbeats 4000000 in
theorem transversalsOf_any (A : Option Addr) (n c : Nat) (a : List (List Int)) (lim b : Int) (w : World) (ha : RR w A n a) (hn : n ≤ 1099511627776) (hr : cells a ≤ 1099511627776) :
    Calls Try.prog 9 #[.slice A n c, .int .i64 lim, .int .i64 b] w (RetTr w a lim b) := by
  have hval := validSquare_any A n c a w ha hn hr
  cases hc : tB (Square a) with
  | false =>
    rw [hc] at hval
    have HK := Lib.hid (show trK a lim b = 1 by rw [trK, hc]; rfl)
    go_enter Try.func9, Try.ntmps9
    go_wp2_with (go_at_call 18; refine hval.mono ?_; rintro e w2 ⟨rfl, hb2⟩)
    go_ret2
    exact RetTr.no hb2 HK.out (by decide)
  | true =>
    rw [hc] at hval
    have hq := tB_true.1 hc
    cases hi : inB b 1 20000 with
    | false =>
      have HK := Lib.hid (show trK a lim b = 2 by rw [trK, hc, hi]; rfl)
      go_enter Try.func9, Try.ntmps9
      go_wp2_with (first | (go_at_call 18; refine hval.mono ?_; rintro e w2 ⟨rfl, hb2⟩) | (go_at_call 35; refine (isBudget_any _ _).mono ?_; rintro e w3 ⟨rfl, rfl⟩; rw [hi]))
      go_ret2
      exact RetTr.no hb2 HK.out (by decide)
    | true =>
      cases hj : inB lim 1 100 with
      | false =>
        have HK := Lib.hid (show trK a lim b = 2 by rw [trK, hc, hi, hj]; rfl)
        go_enter Try.func9, Try.ntmps9
        go_wp2_with (first | (go_at_call 18; refine hval.mono ?_; rintro e w2 ⟨rfl, hb2⟩) | (go_at_call 35; refine (isBudget_any _ _).mono ?_; rintro e w3 ⟨rfl, rfl⟩; rw [hi]) | (go_at_call 36; refine (within_any _ _ _ _).mono ?_; rintro e w3 ⟨rfl, rfl⟩; rw [hj]))
        go_ret2
        exact RetTr.no hb2 HK.out (by decide)
      | true =>
        have hbb := inB_true hi
        have hll := inB_true hj
        obtain ⟨lim', rfl⟩ : ∃ l' : Nat, lim = (l' : Int) := ⟨lim.toNat, by omega⟩
        obtain ⟨b', rfl⟩ : ∃ l' : Nat, b = (l' : Int) := ⟨b.toNat, by omega⟩
        have hal := ha.len
        have hn10 : n ≤ 10 := by have := hq.2.1; omega
        have hmk1 := run_make_row' (P := Try.prog) 57 4 (.bool false) 1 Try.underlying57 bool_infoT rfl .i64 .i64 n (by omega) (by omega)
        have HK := Lib.hid (show trK a (lim' : Int) (b' : Int) = if (trR a lim' b').spent then 5 else 0 by rw [trK, hc, hi, hj]; rfl)
        go_enter Try.func9, Try.ntmps9
        go_wp2_with (first | (go_at_call 18; refine hval.mono ?_; rintro e w2 ⟨rfl, hb2⟩) | (go_at_call 35; refine (isBudget_any _ _).mono ?_; rintro e w3 ⟨rfl, rfl⟩; rw [hi]) | (go_at_call 36; refine (within_any _ _ _ _).mono ?_; rintro e w3 ⟨rfl, rfl⟩; rw [hj]))
        have hsz := hb2.size
        obtain ⟨WA, hWA⟩ : ∃ WA, w2.alloc (.cells (madeCells #[.bool false] n) 4) = WA := ⟨_, rfl⟩
        have hbA : Below w2.heap.size w2 WA := hWA ▸ below_alloc w2 _
        have hsA : WA.heap.size = w2.heap.size + 1 := by rw [← hWA]; simp
        have hdA := OS.made w2 w2.heap.size 4 (.bool false) n (Nat.le_refl _) (by omega)
        rw [show List.replicate n (Value.bool false) = flags n (fun z => memB (symT a []) (z : Nat)) by
          refine (List.eq_replicate_iff.2 ⟨flags_len _ _, fun u hu => ?_⟩).symm
          obtain ⟨j, -, rfl⟩ := List.mem_map.1 hu
          rfl, hWA] at hdA
        rw [hWA]
        obtain ⟨WB, hWB⟩ : ∃ WB, WA.alloc (.cells #[.int .i64 b', .bool false, .slice A n c, .int .i64 lim', .slice none 0 0, .slice (some ⟨w2.heap.size, 0, none⟩) n n, .slice none 0 0] 59) = WB := ⟨_, rfl⟩
        have hbB : Below WA.heap.size WA WB := hWB ▸ below_alloc WA _
        have hbAB := below_then hbA hbB
        have hXB : Blk WB (w2.heap.size + 1) 59 #[.int .i64 b', .bool false, .slice A n c, .int .i64 lim', .slice none 0 0, .slice (some ⟨w2.heap.size, 0, none⟩) n n, .slice none 0 0] := by
          rw [← hWB, ← hsA]; exact Blk.new WA _ _
        have hsB : WB.heap.size = w2.heap.size + 2 := by rw [← hWB]; simp [hsA]
        have hit : ITr w2 WB (w2.heap.size + 2) n A c a lim' none 0 0 none 0 0 ((b' : Nat) : Int) false (fun z => memB (symT a []) (z : Nat)) [] [] [] :=
          ⟨hXB, hbAB, ha.keep hb2, Nat.le_refl _, by omega, hdA.below hbB, OI.nil_ _ _ _, ORv.nil_ _ _, fun j u h => by simp at h⟩
        have hse := searchT_any w2 (w2.heap.size + 2) n A c a lim' hq hn10 (by omega) n WB ⟨b', false, []⟩ [] none none (by simp) rfl (by simp only [List.length_nil]; omega) (by dsimp only; omega) ⟨0, 0, 0, 0, [], hit⟩
        rw [show trS a lim' n [] ⟨b', false, []⟩ = trR a lim' b' by rw [trR, hal]] at hse
        have hbw := hb2.trans (hbAB.mono hsz)
        rw [hWB]
        clear hval hmk1 hWA hbA hsA hdA hWB hbB hbAB hXB hsB hit hbb hll
        refine hse.mono ?_
        rintro e w3 ⟨rfl, C3, F3, ⟨m3, mc3, fn3, fk3, vs3, h3⟩, k3⟩
        obtain ⟨⟨-, x1, -, -⟩, -, -, x6⟩ := h3.cells
        have hB3 : Below w.heap.size w w3 := hb2.trans (h3.b.mono hsz)
        have HR3 := Lib.hid (h3.r.more (show w.heap.size ≤ w2.heap.size + 2 by omega))
        clear h3 k3 hse
        cases hsp : (trR a lim' b').spent with
        | true =>
          rw [hsp] at x1
          have HK2 := Lib.hid (show trK a (lim' : Int) (b' : Int) = 5 by rw [HK.out, if_pos hsp])
          go_wp2
          go_ret2
          exact RetTr.no hB3 HK2.out (by decide)
        | false =>
          rw [hsp] at x1
          have HK2 := Lib.hid (show trK a (lim' : Int) (b' : Int) = 0 by rw [HK.out, if_neg (by rw [hsp]; decide)])
          go_wp2
          go_ret2
          refine ⟨hB3, F3, fn3, fk3, vs3, by rw [HK2.out]; rfl, ?_⟩
          rw [trF, if_pos HK2.out]
          exact HR3.out
end Go.Proofs.Ytcnjlkabdfcjdaa
/- Transversals, the reference's search: its state in memory, whether a cell is free. No condition beyond those stated. -/
namespace Go.Proofs.Ytcnjlkabdfcjdaa
open Go.RowKit

theorem freeT_yes {a : List (List Int)} {cols : List Int} {y : Nat} (h : ∀ j, j < cols.length → nth cols j ≠ (y : Int) ∧ nth (row a j) (nth cols j).toNat ≠ nth (row a cols.length) y) : freeT a cols y = true := by
  rw [freeT_memB, memB_false.2, memB_false.2]
  · rfl
  · intro hm
    obtain ⟨i, hi, e⟩ := symT_mem.1 hm
    exact (h i hi).2 e
  · intro hm
    obtain ⟨i, hi, e⟩ := mem_nth hm
    exact (h i hi).1 e
theorem freeT_no1 {a : List (List Int)} {cols : List Int} {y j : Nat} (hj : j < cols.length) (h : nth cols j = (y : Int)) : freeT a cols y = false := by
  rw [freeT_memB, memB_true.2]
  · rfl
  · rw [← h, nth_get hj]; exact List.getElem_mem _
theorem freeT_no2 {a : List (List Int)} {cols : List Int} {y j : Nat} (hj : j < cols.length) (h : nth (row a j) (nth cols j).toNat = nth (row a cols.length) y) : freeT a cols y = false := by
  rw [freeT_memB, show memB (symT a cols) (nth (row a cols.length) y) = true from memB_true.2 (symT_mem.2 ⟨j, hj, h⟩)]
  simp
/-- the reference's search in memory: the struct in the block behind w0, all else from M on -/
structure ISt (w0 w : World) (M n : Nat) (SA : Option Addr) (sc : Nat) (a : List (List Int)) (lim : Nat) (C : Option Addr) (m mc : Nat) (FA : Option Addr) (fn fk : Nat) (nodes budget : Int) (full : Bool) (cols : List Int) (vs : List Sl) (found : List (List Int)) : Prop where
  x : Blk w w0.heap.size 62 #[.slice SA n sc, .slice C m mc, .slice FA fn fk, .int .i64 lim, .int .i64 nodes, .int .i64 budget, .bool full]
  b : Below w0.heap.size w0 w
  o0 : RR w0 SA n a
  M2 : w0.heap.size + 1 ≤ M
  M3 : M ≤ w.heap.size
  c : OI w M 2 C m mc cols
  r : ORv w M 30 2 FA fn fk vs found
  rc : ∀ (j : Nat) (u : Sl), vs[j]? = some u → blk u.1 = none ∨ blk u.1 ≠ blk C
section
variable {w0 w w' : World} {M n : Nat} {SA : Option Addr} {sc : Nat} {a : List (List Int)} {lim : Nat} {C C' : Option Addr} {m mc m' mc' : Nat} {FA FA' : Option Addr} {fn fk fk' : Nat} {nodes budget : Int} {full : Bool} {cols cols' : List Int} {vs : List Sl} {found : List (List Int)}
theorem ISt.cells (h : ISt w0 w M n SA sc a lim C m mc FA fn fk nodes budget full cols vs found) :
    (w.cell? ⟨w0.heap.size, 0, none⟩ = some (.slice SA n sc) ∧ w.cell? ⟨w0.heap.size, 1, none⟩ = some (.slice C m mc) ∧ w.cell? ⟨w0.heap.size, 2, none⟩ = some (.slice FA fn fk) ∧ w.cell? ⟨w0.heap.size, 3, none⟩ = some (.int .i64 lim)) ∧
    w.cell? ⟨w0.heap.size, 4, none⟩ = some (.int .i64 nodes) ∧ w.cell? ⟨w0.heap.size, 5, none⟩ = some (.int .i64 budget) ∧ w.cell? ⟨w0.heap.size, 6, none⟩ = some (.bool full) :=
  ⟨⟨h.x.cell 0, h.x.cell 1, h.x.cell 2, h.x.cell 3⟩, h.x.cell 4, h.x.cell 5, h.x.cell 6⟩
theorem ISt.o (h : ISt w0 w M n SA sc a lim C m mc FA fn fk nodes budget full cols vs found) : RR w SA n a := h.o0.keep h.b
theorem ISt.below (h : ISt w0 w M n SA sc a lim C m mc FA fn fk nodes budget full cols vs found) (hb : Below w.heap.size w w') : ISt w0 w' M n SA sc a lim C m mc FA fn fk nodes budget full cols vs found :=
  ⟨h.x.after hb, h.b.trans (hb.mono h.b.size), h.o0, h.M2, Nat.le_trans h.M3 hb.size, h.c.below hb, h.r.below hb, h.rc⟩
theorem ISt.put (h : ISt w0 w M n SA sc a lim C m mc FA fn fk nodes budget full cols vs found) (i : Nat) (u : Value) :
    (∀ cs, Blk w w0.heap.size 62 cs → Blk (w.setCell ⟨w0.heap.size, i, none⟩ u) w0.heap.size 62 (cs.setIfInBounds i u)) ∧ Below w0.heap.size w0 (w.setCell ⟨w0.heap.size, i, none⟩ u) ∧ M ≤ (w.setCell ⟨w0.heap.size, i, none⟩ u).heap.size ∧
    OI (w.setCell ⟨w0.heap.size, i, none⟩ u) M 2 C m mc cols ∧ ORv (w.setCell ⟨w0.heap.size, i, none⟩ u) M 30 2 FA fn fk vs found := by
  have hM := h.M2
  have hlow : (⟨w0.heap.size, i, none⟩ : Addr).block < M := by show w0.heap.size < M; omega
  exact ⟨fun cs hc => hc.set_ i u, h.b.setCell (Nat.le_refl _) _, by rw [size_setCell']; exact h.M3, h.c.setLow hlow u, h.r.low hlow u⟩
theorem ISt.nodes_ (h : ISt w0 w M n SA sc a lim C m mc FA fn fk nodes budget full cols vs found) (u : Int) :
    ISt w0 (w.setCell ⟨w0.heap.size, 4, none⟩ (.int .i64 u)) M n SA sc a lim C m mc FA fn fk u budget full cols vs found := by
  obtain ⟨h1, h2, h3, h5, h6⟩ := h.put 4 (.int .i64 u)
  exact ⟨h1 _ h.x, h2, h.o0, h.M2, h3, h5, h6, h.rc⟩
theorem ISt.full_ (h : ISt w0 w M n SA sc a lim C m mc FA fn fk nodes budget full cols vs found) (u : Bool) :
    ISt w0 (w.setCell ⟨w0.heap.size, 6, none⟩ (.bool u)) M n SA sc a lim C m mc FA fn fk nodes budget u cols vs found := by
  obtain ⟨h1, h2, h3, h5, h6⟩ := h.put 6 (.bool u)
  exact ⟨h1 _ h.x, h2, h.o0, h.M2, h3, h5, h6, h.rc⟩
theorem ISt.grow (h : ISt w0 w M n SA sc a lim C m mc FA fn fk nodes budget full cols vs found) {r : Option Nat} (hg : w.grownBy w' r) (hr : ∀ k, r = some k → M ≤ k ∧ k < w.heap.size) :
    Blk w' w0.heap.size 62 #[.slice SA n sc, .slice C m mc, .slice FA fn fk, .int .i64 lim, .int .i64 nodes, .int .i64 budget, .bool full] ∧ Below w0.heap.size w0 w' ∧ M ≤ w'.heap.size := by
  have hM := h.M2
  have hM3 := h.M3
  exact ⟨h.x.grown hg (fun e => by have := hr _ e.symm; omega), h.b.grown hg (by omega) (fun k hk => by have := hr k hk; omega), Nat.le_trans h.M3 hg.size⟩
/-- a column more -/
theorem ISt.push (h : ISt w0 w M n SA sc a lim C m mc FA fn fk nodes budget full cols vs found) (hg : w.grownBy w' (blk C)) (hc : OI w' M 2 C' m' mc' cols') (hn : blk C' = blk C ∨ ∃ k, blk C' = some k ∧ w.heap.size ≤ k) :
    ISt w0 (w'.setCell ⟨w0.heap.size, 1, none⟩ (.slice C' m' mc')) M n SA sc a lim C' m' mc' FA fn fk nodes budget full cols' vs found := by
  have hM := h.M2
  have hlow : (⟨w0.heap.size, 1, none⟩ : Addr).block < M := by show w0.heap.size < M; omega
  obtain ⟨g1, g2, g3⟩ := h.grow hg (fun k hk => h.c.os.lt hk)
  refine ⟨g1.set_ 1 _, g2.setCell (Nat.le_refl _) _, h.o0, h.M2, by rw [size_setCell']; exact g3, hc.setLow hlow _,
    (h.r.kept hg (OS.typed h.r.os h.c.os (by decide)) h.rc).low hlow _, fun j u hu => ?_⟩
  rcases hn with e | ⟨k, e, hk⟩
  · rw [e]; exact h.rc j u hu
  · rw [e]
    refine .inr fun e' => ?_
    have := (h.r.row_lt hu e').2
    omega
/-- the last column taken back -/
theorem ISt.pop {gC : Nat} {k : Int} (h : ISt w0 w M n SA sc a lim (some ⟨gC, 0, none⟩) (m + 1) mc FA fn fk nodes budget full (cols ++ [k]) vs found) :
    ISt w0 (w.setCell ⟨w0.heap.size, 1, none⟩ (.slice (some ⟨gC, 0, none⟩) m mc)) M n SA sc a lim (some ⟨gC, 0, none⟩) m mc FA fn fk nodes budget full cols vs found := by
  have hl : m = cols.length := by
    have := h.c.len
    simp at this
    omega
  have hc : OI w M 2 (some ⟨gC, 0, none⟩) m mc cols := by
    refine ⟨?_, fun z hz => h.c.all z (List.mem_append_left _ hz)⟩
    have := h.c.os.short (k := m) (by omega)
    rw [show (ints (cols ++ [k])).take m = ints cols by
      unfold ints
      rw [List.map_append, List.take_append_of_le_length (by simp [hl]), List.take_of_length_le (by simp [hl])]] at this
    exact this
  exact h.push (World.grownBy.refl w _) hc (.inl rfl)
/-- a transversal more -/
theorem ISt.more {u : Sl} {z : List Int} (h : ISt w0 w M n SA sc a lim C m mc FA fn fk nodes budget full cols vs found) (hg : w.grownBy w' (blk FA)) (hr : ORv w' M 30 2 FA' (fn + 1) fk' (vs ++ [u]) (found ++ [z]))
    (hC : blk u.1 = none ∨ blk u.1 ≠ blk C) :
    ISt w0 (w'.setCell ⟨w0.heap.size, 2, none⟩ (.slice FA' (fn + 1) fk')) M n SA sc a lim C m mc FA' (fn + 1) fk' nodes budget full cols (vs ++ [u]) (found ++ [z]) := by
  have hM := h.M2
  have hlow : (⟨w0.heap.size, 2, none⟩ : Addr).block < M := by show w0.heap.size < M; omega
  obtain ⟨g1, g2, g3⟩ := h.grow hg (fun k hk => h.r.os.lt hk)
  refine ⟨g1.set_ 2 _, g2.setCell (Nat.le_refl _) _, h.o0, h.M2, by rw [size_setCell']; exact g3,
    (h.c.kept hg (OS.typed h.c.os h.r.os (by decide))).setLow hlow _, hr.low hlow _, fun j y hy => ?_⟩
  rw [List.getElem?_append] at hy
  split at hy
  · exact h.rc j y hy
  · have := List.mem_of_getElem? hy
    rw [List.mem_singleton.1 this]; exact hC
end
def Bnd (n : Nat) (cols : List Int) : Prop := ∀ i, i < cols.length → 0 ≤ nth cols i ∧ nth cols i < (n : Int)
theorem Bnd.snoc {n y : Nat} {cols : List Int} (h : Bnd n cols) (hy : y < n) : Bnd n (cols ++ [(y : Int)]) := fun i hi => by
  rw [List.length_append, List.length_singleton] at hi
  rw [nth_snocT]
  split
  · exact h i (by assumption)
  · rw [if_pos (by omega)]; omega
set_option maxRecDepth 100000 in
set_option maxHeartbeats 4000000 in
theorem freeS_any {w0 w : World} {M n : Nat} {SA : Option Addr} {sc : Nat} {a : List (List Int)} {lim : Nat} {C : Option Addr} {m mc : Nat} {FA : Option Addr} {fn fk : Nat} {nodes budget : Int} {full : Bool} {cols : List Int} {vs : List Sl} {found : List (List Int)} (h : ISt w0 w M n SA sc a lim C m mc FA fn fk nodes budget full cols vs found)
    (hq : Square a) (hx : cols.length < n) (y : Nat) (hy : y < n) (hcb : Bnd n cols) :
    Calls Try.prog 75 #[.pointer (some ⟨w0.heap.size, 0, none⟩), .int .i64 (cols.length : Int), .int .i64 (y : Int)] w (Quiet w (.bool (freeT a cols y))) := by
  have hml := h.c.len
  obtain rfl : m = cols.length := by omega
  obtain ⟨⟨x0, x1, x2, x3⟩, x4, x5, x6⟩ := h.cells
  have hRR := Lib.hid h.o
  have hol := h.o.len
  have HC := Lib.hid h.c.reads
  have hn10 : n ≤ 10 := by have := hq.2.1; omega
  obtain ⟨ad, RX, rn, rc, rfl, hcx, -, -, hRX⟩ := h.o.get hx
  obtain ⟨r1, -⟩ := hq.2.2.1 cols.length (by omega)
  have hrl := hRX.len
  obtain rfl : rn = n := by omega
  obtain ⟨rx, rfl, hcxy, -⟩ := hRX.get hy
  have HQ := Lib.hid (fun i (hi : i < rn) => (show (row a i).length = rn by have := (hq.2.2.1 i (by omega)).1; omega))
  have HB := Lib.hid hcb
  clear h hq hRX r1 hrl hol hcb
  generalize hcl : cols.length = x at *
  generalize hzz : nth (row a x) y = zz at *
  go_enter Try.func75, Try.ntmps75
  go_wp2
  go_loopw [7] (fun i wr => ∃ j : Nat, j ≤ x ∧ i = .int .i64 j ∧ Drawn w wr ∧ ∀ k, k < j → nth cols k ≠ (y : Int) ∧ nth (row a k) (nth cols k).toNat ≠ zz) (fun i _ => x - (intOf i).toNat)
  case atStart => exact ⟨0, Nat.zero_le _, rfl, Drawn.refl _, fun k h => absurd h (by omega)⟩
  case round =>
    obtain ⟨j, hj, rfl, hd, hno⟩ := hrel
    obtain ⟨q, rfl⟩ := hd
    by_cases hlt : j < x
    · obtain ⟨b0, b1⟩ := HB.out j (by omega)
      obtain ⟨u, hu⟩ : ∃ u : Nat, nth cols j = (u : Int) := ⟨(nth cols j).toNat, by omega⟩
      obtain ⟨ca, rfl, hcj, -⟩ := HC.out.get hlt
      obtain ⟨ad', RJ, jn, jc, had, hcr, -, -, hRJ⟩ := hRR.out.get (show j < rn by omega)
      injection had with had
      subst had
      have hjl := hRJ.len
      obtain rfl : jn = rn := by have := HQ.out j (by omega); omega
      obtain ⟨rj, rfl, hcju, -⟩ := hRJ.get (show u < jn by omega)
      rw [hu] at hcj b1
      have hun : u < jn := by omega
      by_cases h1 : u = y
      · subst h1
        have HF := Lib.hid (freeT_no1 (a := a) (by omega) hu)
        clear hno hRJ b0 b1
        go_wp2
        go_quiet (fail)
        go_wp2
        go_ret
        rw [HF.out]
        exact ⟨rfl, ⟨_, (World.drewN_drewN _ _ _)⟩⟩
      · have h1b : ((u : Int) == (y : Int)) = false := by simp; omega
        by_cases h2 : nth (row a j) u = zz
        · have HF := Lib.hid (freeT_no2 (a := a) (cols := cols) (y := y) (j := j) (by omega) (by rw [hu, Int.toNat_natCast, h2, hcl, hzz]))
          rw [h2] at hcju
          clear hno hRJ b0 b1 h2
          go_wp2
          go_quiet (fail)
          go_wp2
          go_ret
          rw [HF.out]
          exact ⟨rfl, ⟨_, (World.drewN_drewN _ _ _)⟩⟩
        · have HN := Lib.hid (show ∀ k, k < j + 1 → nth cols k ≠ (y : Int) ∧ nth (row a k) (nth cols k).toNat ≠ zz from fun k hk => by
            rcases Nat.lt_succ_iff_lt_or_eq.1 hk with h | rfl
            · exact hno k h
            · rw [hu, Int.toNat_natCast]; exact ⟨by omega, h2⟩)
          have h2b : (nth (row a j) u == zz) = false := by simp; exact h2
          clear hno hRJ b0 b1 h2
          generalize nth (row a j) u = z2 at *
          go_wp2
          go_quiet (fail)
          go_wp2
          go_roundw
          case rel => exact ⟨j + 1, by omega, by go_num, ⟨_, rfl⟩, HN.out⟩
          case measure => simp [intOf]; omega
    · obtain rfl : j = x := by omega
      have HF := Lib.hid (freeT_yes (a := a) (cols := cols) (y := y) (by rw [hcl, hzz]; exact hno))
      clear hno
      go_wp2
      go_ret
      rw [HF.out]
      exact ⟨rfl, ⟨_, rfl⟩⟩
end Go.Proofs.Ytcnjlkabdfcjdaa
