/- Transversals, the program's search: its state in memory. No condition beyond those stated. -/
import Derived.Test.YtcnjlkabdfcjdaaZAO
import Derived.Test.YtcnjlkabdfcjdaaZAB
import Derived.Test.YtcnjlkabdfcjdaaZAI
set_option linter.unusedVariables false
set_option linter.unusedSimpArgs false
namespace Go.Proofs.Ytcnjlkabdfcjdaa
open Go.RowKit

/-- flags in memory -/
def flags (n : Nat) (f : Nat → Bool) : List Value := (List.range n).map fun j => .bool (f j)
theorem flags_len (n : Nat) (f : Nat → Bool) : (flags n f).length = n := by simp [flags]
theorem flags_at {n : Nat} {f : Nat → Bool} {j : Nat} (h : j < n) : (flags n f)[j]? = some (.bool (f j)) := by simp [flags, h]
theorem flags_set {n i : Nat} {f : Nat → Bool} (b : Bool) : (flags n f).set i (.bool b) = flags n (fun j => if j = i then b else f j) := by
  refine List.ext_getElem (by simp [flags]) fun j h1 h2 => ?_
  rw [List.getElem_set]
  simp only [flags, List.getElem_map, List.getElem_range]
  by_cases h : i = j
  · subst h; simp
  · rw [if_neg h, if_neg (fun e => h e.symm)]
theorem flags_congr {n : Nat} {f g : Nat → Bool} (h : ∀ i, i < n → f i = g i) : flags n f = flags n g := List.map_congr_left fun i hi => by rw [h i (List.mem_range.1 hi)]
theorem ne_of_none {a b : Option Nat} (h : a = none ∨ a ≠ b) (hb : b ≠ none) : a ≠ b := by
  rcases h with h | h
  · rw [h]; exact fun e => hb e.symm
  · exact h
theorem OS.short {w : World} {B : Nat} {e : TypeId} {g n c k : Nat} {xs : List Value} (h : OS w B e 1 (some ⟨g, 0, none⟩) n c xs) (hk : k ≤ n) : OS w B e 1 (some ⟨g, 0, none⟩) k c (xs.take k) := by
  rcases h.cases with ⟨h0, _⟩ | ⟨g', cur, h0, hB, hg, hnc, hc, hs, ht⟩
  · cases h0
  · injection h0 with h0
    injection h0 with h0
    subst h0
    refine ⟨by have := h.len; simp; omega, .inr ⟨g, c, cur, rfl, hB, hg, by omega, hc, hs, ?_⟩⟩
    rw [← ht, Nat.mul_one, Nat.mul_one, List.take_take, Nat.min_eq_left hk]
theorem ORv.low {w : World} {B : Nat} {e2 e1 : TypeId} {A : Option Addr} {n c : Nat} {vs : List Sl} {zss : List (List Int)} (h : ORv w B e2 e1 A n c vs zss) {p : Addr} (hp : p.block < B) (u : Value) : ORv (w.setCell p u) B e2 e1 A n c vs zss :=
  ⟨h.os.setLow hp u, h.len, fun j v z hv hz => (h.rows j v z hv hz).setLow hp u, h.sep, h.ne⟩
theorem size_setCell' (w : World) (p : Addr) (u : Value) : (w.setCell p u).heap.size = w.heap.size := by simp [World.setCell]
/-- the program's search in memory: the symbols' flags in the block behind w0, the struct in the next one, all else from M on -/
structure ITr (w0 w : World) (M n : Nat) (SA : Option Addr) (sc : Nat) (a : List (List Int)) (lim : Nat) (C : Option Addr) (m mc : Nat) (FA : Option Addr) (fn fk : Nat) (left : Int) (spent : Bool) (dn : Nat → Bool) (cols : List Int) (vs : List Sl) (found : List (List Int)) : Prop where
  x : Blk w (w0.heap.size + 1) 59 #[.int .i64 left, .bool spent, .slice SA n sc, .int .i64 lim, .slice C m mc, .slice (some ⟨w0.heap.size, 0, none⟩) n n, .slice FA fn fk]
  b : Below w0.heap.size w0 w
  o0 : RR w0 SA n a
  M2 : w0.heap.size + 2 ≤ M
  M3 : M ≤ w.heap.size
  d : OS w w0.heap.size 4 1 (some ⟨w0.heap.size, 0, none⟩) n n (flags n dn)
  c : OI w M 2 C m mc cols
  r : ORv w M 30 2 FA fn fk vs found
  rc : ∀ (j : Nat) (u : Sl), vs[j]? = some u → blk u.1 = none ∨ blk u.1 ≠ blk C
section
variable {w0 w w' : World} {M n : Nat} {SA : Option Addr} {sc : Nat} {a : List (List Int)} {lim : Nat} {C C' : Option Addr} {m mc m' mc' : Nat} {FA FA' : Option Addr} {fn fk fk' : Nat} {left : Int} {spent : Bool} {dn dn' : Nat → Bool} {cols cols' : List Int} {vs : List Sl} {found : List (List Int)}
theorem ITr.cells (h : ITr w0 w M n SA sc a lim C m mc FA fn fk left spent dn cols vs found) :
    (w.cell? ⟨w0.heap.size + 1, 0, none⟩ = some (.int .i64 left) ∧ w.cell? ⟨w0.heap.size + 1, 1, none⟩ = some (.bool spent) ∧ w.cell? ⟨w0.heap.size + 1, 2, none⟩ = some (.slice SA n sc) ∧ w.cell? ⟨w0.heap.size + 1, 3, none⟩ = some (.int .i64 lim)) ∧
    w.cell? ⟨w0.heap.size + 1, 4, none⟩ = some (.slice C m mc) ∧ w.cell? ⟨w0.heap.size + 1, 5, none⟩ = some (.slice (some ⟨w0.heap.size, 0, none⟩) n n) ∧ w.cell? ⟨w0.heap.size + 1, 6, none⟩ = some (.slice FA fn fk) :=
  ⟨⟨h.x.cell 0, h.x.cell 1, h.x.cell 2, h.x.cell 3⟩, h.x.cell 4, h.x.cell 5, h.x.cell 6⟩
theorem ITr.o (h : ITr w0 w M n SA sc a lim C m mc FA fn fk left spent dn cols vs found) : RR w SA n a := h.o0.keep h.b
theorem ITr.below (h : ITr w0 w M n SA sc a lim C m mc FA fn fk left spent dn cols vs found) (hb : Below w.heap.size w w') : ITr w0 w' M n SA sc a lim C m mc FA fn fk left spent dn cols vs found :=
  ⟨h.x.after hb, h.b.trans (hb.mono h.b.size), h.o0, h.M2, Nat.le_trans h.M3 hb.size, h.d.below hb, h.c.below hb, h.r.below hb, h.rc⟩
/-- a cell of the struct is stored -/
theorem ITr.put (h : ITr w0 w M n SA sc a lim C m mc FA fn fk left spent dn cols vs found) (i : Nat) (u : Value) :
    (∀ cs, Blk w (w0.heap.size + 1) 59 cs → Blk (w.setCell ⟨w0.heap.size + 1, i, none⟩ u) (w0.heap.size + 1) 59 (cs.setIfInBounds i u)) ∧ Below w0.heap.size w0 (w.setCell ⟨w0.heap.size + 1, i, none⟩ u) ∧ M ≤ (w.setCell ⟨w0.heap.size + 1, i, none⟩ u).heap.size ∧
    OS (w.setCell ⟨w0.heap.size + 1, i, none⟩ u) w0.heap.size 4 1 (some ⟨w0.heap.size, 0, none⟩) n n (flags n dn) ∧
    OI (w.setCell ⟨w0.heap.size + 1, i, none⟩ u) M 2 C m mc cols ∧ ORv (w.setCell ⟨w0.heap.size + 1, i, none⟩ u) M 30 2 FA fn fk vs found := by
  have hM := h.M2
  have hlow : (⟨w0.heap.size + 1, i, none⟩ : Addr).block < M := by show w0.heap.size + 1 < M; omega
  refine ⟨fun cs hc => hc.set_ i u, h.b.setCell (by show w0.heap.size ≤ w0.heap.size + 1; omega) _, by rw [size_setCell']; exact h.M3, h.d.setFar (p := ⟨w0.heap.size + 1, i, none⟩) (by simp [blk]) u, h.c.setLow hlow u, h.r.low hlow u⟩
theorem ITr.left_ (h : ITr w0 w M n SA sc a lim C m mc FA fn fk left spent dn cols vs found) (u : Int) :
    ITr w0 (w.setCell ⟨w0.heap.size + 1, 0, none⟩ (.int .i64 u)) M n SA sc a lim C m mc FA fn fk u spent dn cols vs found := by
  obtain ⟨h1, h2, h3, h4, h5, h6⟩ := h.put 0 (.int .i64 u)
  exact ⟨h1 _ h.x, h2, h.o0, h.M2, h3, h4, h5, h6, h.rc⟩
theorem ITr.spent_ (h : ITr w0 w M n SA sc a lim C m mc FA fn fk left spent dn cols vs found) (u : Bool) :
    ITr w0 (w.setCell ⟨w0.heap.size + 1, 1, none⟩ (.bool u)) M n SA sc a lim C m mc FA fn fk left u dn cols vs found := by
  obtain ⟨h1, h2, h3, h4, h5, h6⟩ := h.put 1 (.bool u)
  exact ⟨h1 _ h.x, h2, h.o0, h.M2, h3, h4, h5, h6, h.rc⟩
/-- a flag is stored -/
theorem ITr.flag (h : ITr w0 w M n SA sc a lim C m mc FA fn fk left spent dn cols vs found) (i : Nat) (b : Bool) (he : ∀ x, x < n → dn' x = if x = i then b else dn x) :
    ITr w0 (w.setCell ⟨w0.heap.size, i, none⟩ (.bool b)) M n SA sc a lim C m mc FA fn fk left spent dn' cols vs found := by
  have hM := h.M2
  have hlow : (⟨w0.heap.size, i, none⟩ : Addr).block < M := by show w0.heap.size < M; omega
  have hd := h.d.set i (.bool b)
  rw [flags_set, ← flags_congr he] at hd
  exact ⟨h.x.far (p := ⟨w0.heap.size, i, none⟩) (by show w0.heap.size + 1 ≠ w0.heap.size; omega) _, h.b.setCell (Nat.le_refl _) _, h.o0, h.M2, by rw [size_setCell']; exact h.M3, hd, h.c.setLow hlow _, h.r.low hlow _, h.rc⟩
/-- a row of the search's own has grown: the others are as they were -/
theorem ITr.grow (h : ITr w0 w M n SA sc a lim C m mc FA fn fk left spent dn cols vs found) {r : Option Nat} (hg : w.grownBy w' r) (hr : ∀ k, r = some k → M ≤ k ∧ k < w.heap.size) :
    Blk w' (w0.heap.size + 1) 59 #[.int .i64 left, .bool spent, .slice SA n sc, .int .i64 lim, .slice C m mc, .slice (some ⟨w0.heap.size, 0, none⟩) n n, .slice FA fn fk] ∧ Below w0.heap.size w0 w' ∧ M ≤ w'.heap.size ∧
    OS w' w0.heap.size 4 1 (some ⟨w0.heap.size, 0, none⟩) n n (flags n dn) := by
  have hM := h.M2
  have hM3 := h.M3
  refine ⟨h.x.grown hg (fun e => by have := hr _ e.symm; omega), h.b.grown hg (by omega) (fun k hk => by have := hr k hk; omega), Nat.le_trans h.M3 hg.size, h.d.kept hg (.inr (fun e => by have := hr w0.heap.size e.symm; omega))⟩
/-- a column more -/
theorem ITr.push (h : ITr w0 w M n SA sc a lim C m mc FA fn fk left spent dn cols vs found) (hg : w.grownBy w' (blk C)) (hc : OI w' M 2 C' m' mc' cols') (hn : blk C' = blk C ∨ ∃ k, blk C' = some k ∧ w.heap.size ≤ k) :
    ITr w0 (w'.setCell ⟨w0.heap.size + 1, 4, none⟩ (.slice C' m' mc')) M n SA sc a lim C' m' mc' FA fn fk left spent dn cols' vs found := by
  have hM := h.M2
  have hlow : (⟨w0.heap.size + 1, 4, none⟩ : Addr).block < M := by show w0.heap.size + 1 < M; omega
  obtain ⟨g1, g2, g3, g4⟩ := h.grow hg (fun k hk => h.c.os.lt hk)
  refine ⟨g1.set_ 4 _, g2.setCell (by show w0.heap.size ≤ w0.heap.size + 1; omega) _, h.o0, h.M2, by rw [size_setCell']; exact g3, g4.setFar (p := ⟨w0.heap.size + 1, 4, none⟩) (by simp [blk]) _, hc.setLow hlow _,
    (h.r.kept hg (OS.typed h.r.os h.c.os (by decide)) h.rc).low hlow _, fun j u hu => ?_⟩
  rcases hn with e | ⟨k, e, hk⟩
  · rw [e]; exact h.rc j u hu
  · rw [e]
    refine .inr fun e' => ?_
    have := (h.r.row_lt hu e').2
    omega
/-- the last column taken back -/
theorem ITr.pop {gC : Nat} {k : Int} (h : ITr w0 w M n SA sc a lim (some ⟨gC, 0, none⟩) (m + 1) mc FA fn fk left spent dn (cols ++ [k]) vs found) :
    ITr w0 (w.setCell ⟨w0.heap.size + 1, 4, none⟩ (.slice (some ⟨gC, 0, none⟩) m mc)) M n SA sc a lim (some ⟨gC, 0, none⟩) m mc FA fn fk left spent dn cols vs found := by
  have hl : m = cols.length := by
    have := h.c.len
    simp at this
    omega
  have hc : OI w M 2 (some ⟨gC, 0, none⟩) m mc cols := by
    refine ⟨?_, fun z hz => h.c.all z (List.mem_append_left _ hz)⟩
    have := h.c.os.short (k := m) (by omega)
    rw [show (ints (cols ++ [k])).take m = ints cols by
      unfold ints
      rw [List.map_append, List.take_append_of_le_length (by simp [hl]), List.take_of_length_le (by simp [hl])]] at this
    exact this
  exact h.push (World.grownBy.refl w _) hc (.inl rfl)
/-- a transversal more -/
theorem ITr.more {u : Sl} {z : List Int} (h : ITr w0 w M n SA sc a lim C m mc FA fn fk left spent dn cols vs found) (hg : w.grownBy w' (blk FA)) (hr : ORv w' M 30 2 FA' (fn + 1) fk' (vs ++ [u]) (found ++ [z]))
    (hC : blk u.1 = none ∨ blk u.1 ≠ blk C) :
    ITr w0 (w'.setCell ⟨w0.heap.size + 1, 6, none⟩ (.slice FA' (fn + 1) fk')) M n SA sc a lim C m mc FA' (fn + 1) fk' left spent dn cols (vs ++ [u]) (found ++ [z]) := by
  have hM := h.M2
  have hlow : (⟨w0.heap.size + 1, 6, none⟩ : Addr).block < M := by show w0.heap.size + 1 < M; omega
  obtain ⟨g1, g2, g3, g4⟩ := h.grow hg (fun k hk => h.r.os.lt hk)
  refine ⟨g1.set_ 6 _, g2.setCell (by show w0.heap.size ≤ w0.heap.size + 1; omega) _, h.o0, h.M2, by rw [size_setCell']; exact g3, g4.setFar (p := ⟨w0.heap.size + 1, 6, none⟩) (by simp [blk]) _,
    (h.c.kept hg (OS.typed h.c.os h.r.os (by decide))).setLow hlow _, hr.low hlow _, fun j y hy => ?_⟩
  rw [List.getElem?_append] at hy
  split at hy
  · exact h.rc j y hy
  · have := List.mem_of_getElem? hy
    rw [List.mem_singleton.1 this]; exact hC
end
/-- a slice's block is another's, or none, or one made since -/
def Fr (A' A : Option Addr) (n : Nat) : Prop := blk A' = blk A ∨ blk A' = none ∨ ∃ k, blk A' = some k ∧ n ≤ k
theorem Fr.refl (A : Option Addr) (n : Nat) : Fr A A n := .inl rfl
theorem Fr.of {A' A : Option Addr} {n : Nat} (h : blk A' = blk A ∨ ∃ k, blk A' = some k ∧ n ≤ k) : Fr A' A n := h.elim .inl fun h => .inr (.inr h)
theorem Fr.trans {A B C : Option Addr} {n m : Nat} (h : Fr B A n) (k : Fr C B m) (hm : n ≤ m) : Fr C A n := by
  rcases k with k | k | ⟨b, k, h1⟩
  · rcases h with h | h | ⟨b, h, h1⟩
    · exact .inl (k.trans h)
    · exact .inr (.inl (k.trans h))
    · exact .inr (.inr ⟨b, k.trans h, h1⟩)
  · exact .inr (.inl k)
  · exact .inr (.inr ⟨b, k, Nat.le_trans hm h1⟩)
theorem Fr.apart {A' A T : Option Addr} {n : Nat} (h : Fr A' A n) (ht : blk T = none ∨ blk T ≠ blk A) (hl : ∀ k, blk T = some k → k < n) : blk T = none ∨ blk T ≠ blk A' := by
  rcases h with h | h | ⟨b, h, h1⟩
  · rw [h]; exact ht
  · by_cases e : blk T = none
    · exact .inl e
    · exact .inr (by rw [h]; exact e)
  · refine .inr fun e => ?_
    rw [h] at e
    have := hl b e
    omega
/-- from M on, all blocks so far but those of the choices and of the covers are the same -/
structure Kc (M : Nat) (w w' : World) (C C' FA FA' : Option Addr) : Prop where
  size : w.heap.size ≤ w'.heap.size
  block : ∀ k, M ≤ k → k < w.heap.size → some k ≠ blk C → some k ≠ blk FA → w'.heap[k]? = w.heap[k]?
  fc : Fr C' C w.heap.size
  ff : Fr FA' FA w.heap.size
theorem Kc.of_below {M : Nat} {w w' : World} {C FA : Option Addr} (h : Below w.heap.size w w') : Kc M w w' C C FA FA := ⟨h.size, fun k _ hk _ _ => h.block k hk, .refl _ _, .refl _ _⟩
theorem Kc.trans {M : Nat} {w w' w'' : World} {C C' C'' FA FA' FA'' : Option Addr} (h : Kc M w w' C C' FA FA') (k : Kc M w' w'' C' C'' FA' FA'') : Kc M w w'' C C'' FA FA'' := by
  refine ⟨Nat.le_trans h.size k.size, fun b hM hb h1 h2 => ?_, h.fc.trans k.fc h.size, h.ff.trans k.ff h.size⟩
  rw [k.block b hM (Nat.lt_of_lt_of_le hb h.size) ?_ ?_]
  · exact h.block b hM hb h1 h2
  · have := h.fc.apart (T := some ⟨b, 0, none⟩) (.inr h1) (fun k hk => by have e : b = k := (by simpa [blk] using hk); omega)
    rcases this with e | e
    · cases e
    · exact e
  · have := h.ff.apart (T := some ⟨b, 0, none⟩) (.inr h2) (fun k hk => by have e : b = k := (by simpa [blk] using hk); omega)
    rcases this with e | e
    · cases e
    · exact e
theorem Kc.set {M : Nat} {w : World} {C FA : Option Addr} {p : Addr} (hp : p.block < M) (u : Value) : Kc M w (w.setCell p u) C C FA FA :=
  ⟨by rw [size_setCell']; exact Nat.le_refl _, fun k hM _ _ _ => Below.heap_setCell _ _ _ _ (by omega), .refl _ _, .refl _ _⟩
theorem Kc.grownC {M : Nat} {w w' : World} {C C' FA : Option Addr} (h : w.grownBy w' (blk C)) (hn : blk C' = blk C ∨ ∃ k, blk C' = some k ∧ w.heap.size ≤ k) : Kc M w w' C C' FA FA :=
  ⟨h.size, fun k _ hk h1 _ => h.block k hk h1, .of hn, .refl _ _⟩
theorem Kc.grownF {M : Nat} {w w' : World} {C FA FA' : Option Addr} (h : w.grownBy w' (blk FA)) (hn : blk FA' = blk FA ∨ ∃ k, blk FA' = some k ∧ w.heap.size ≤ k) : Kc M w w' C C FA FA' :=
  ⟨h.size, fun k _ hk _ h2 => h.block k hk h2, .refl _ _, .of hn⟩
/-- a list that lies apart from both is as it was -/
theorem OI.kc {M : Nat} {w w' : World} {C C' FA FA' : Option Addr} {T : Option Addr} {n c : Nat} {zs : List Int} {e : TypeId} (h : OI w M e T n c zs) (k : Kc M w w' C C' FA FA') (h1 : blk T = none ∨ blk T ≠ blk C) (h2 : blk T = none ∨ blk T ≠ blk FA) : OI w' M e T n c zs := by
  refine ⟨⟨h.os.1, ?_⟩, h.all⟩
  rcases h.os.2 with h3 | ⟨g, cap, cur, hv, h4, hg, r⟩
  · exact .inl h3
  · refine .inr ⟨g, cap, cur, hv, h4, ?_, r⟩
    injection hv with ha
    subst ha
    have hlt := (h.os.lt (show blk (some ⟨g, 0, none⟩) = some g from rfl)).2
    rw [k.block g h4 hlt (fun e => ne_of_none h1 (by rw [← e]; simp) (by rw [← e]; rfl)) (fun e => ne_of_none h2 (by rw [← e]; simp) (by rw [← e]; rfl))]
    exact hg
end Go.Proofs.Ytcnjlkabdfcjdaa
/- Transversals, the program's search: a node is counted; whether a list contains a number. No condition beyond those stated. -/
namespace Go.Proofs.Ytcnjlkabdfcjdaa
open Go.RowKit

def memB (l : List Int) (x : Int) : Bool := l.any fun y => y == x
theorem memB_true {l : List Int} {x : Int} : memB l x = true ↔ x ∈ l := by simp [memB]
theorem memB_false {l : List Int} {x : Int} : memB l x = false ↔ x ∉ l := by rw [← memB_true, Bool.not_eq_true]
set_option maxHeartbeats 400000 in
theorem indexI_any (A : Option Addr) (n c : Nat) (zs : List Int) (x : Int) (w : World) (ha : RI w A n zs) (hn : n ≤ 9223372036854775807) :
    Calls Try.prog 85 #[.slice A n c, .int .i64 x] w fun e w' => ∃ r : Int, e = .returned (.int .i64 r) ∧ -1 ≤ r ∧ r ≤ 9223372036854775807 ∧ (0 ≤ r ↔ x ∈ zs) ∧ w = w' := by
  have hla := Lib.hid ha.len
  go_enter Try.func85, Try.ntmps85
  go_wp2
  go_loopw [5, 8] (fun _ i wr => ∃ k : Nat, k ≤ n ∧ i = .int .i64 k ∧ w = wr ∧ ∀ j, j < k → nth zs j ≠ x) (fun _ i _ => n - (intOf i).toNat)
  case atStart => exact ⟨0, Nat.zero_le _, rfl, by trivial, fun x h => absurd h (by omega)⟩
  case round =>
    obtain ⟨k, hk, rfl, rfl, hno⟩ := hrel
    by_cases hlt : k < n
    · obtain ⟨a, rfl, hca, hia⟩ := ha.get hlt
      by_cases hq : nth zs k = x
      · rw [hq] at hca
        have H := Lib.hid (show x ∈ zs by rw [← hq, nth_get (by rw [hla.out]; exact hlt)]; exact List.getElem_mem _)
        clear hno hq hia
        go_wp2
        go_ret
        exact ⟨k, rfl, by omega, by omega, ⟨fun _ => H.out, fun _ => by omega⟩, rfl⟩
      · have hqb : (x == nth zs k) = false := by simp; exact fun e => hq e.symm
        have H := Lib.hid (show ∀ j, j < k + 1 → nth zs j ≠ x from fun j hx => by
          rcases Nat.lt_succ_iff_lt_or_eq.1 hx with h | h
          · exact hno j h
          · rw [h]; exact hq)
        clear hno hq
        generalize nth zs k = q at *
        go_wp2
        go_roundw
        case rel => exact ⟨k + 1, by omega, by go_num, by trivial, H.out⟩
        case measure => simp [intOf]; omega
    · obtain rfl : k = n := by omega
      have H := Lib.hid hno
      clear hno
      go_wp2
      go_ret
      refine ⟨-1, rfl, by omega, by omega, ⟨fun h => by omega, fun h => ?_⟩, rfl⟩
      obtain ⟨j, hj, rfl⟩ := List.mem_iff_getElem.1 h
      exact absurd (nth_get hj) (H.out j (by rw [← hla.out]; exact hj))
theorem containsI_any (A : Option Addr) (n c : Nat) (zs : List Int) (x : Int) (w : World) (ha : RI w A n zs) (hn : n ≤ 9223372036854775807) :
    Calls Try.prog 53 #[.slice A n c, .int .i64 x] w fun e w' => e = .returned (.bool (memB zs x)) ∧ w = w' := by
  go_enter Try.func53, Try.ntmps53
  go_wp2_with fail
  refine (indexI_any A n c zs x _ ha hn).mono ?_
  rintro e w1 ⟨r, rfl, h1, h2, h3, rfl⟩
  have H := Lib.hid h3
  clear h3
  go_wp2
  go_ret
  refine ⟨?_, rfl⟩
  by_cases h : 0 ≤ r
  · rw [memB_true.2 (H.out.1 h)]; simp [h]
  · rw [memB_false.2 (fun hh => h (H.out.2 hh))]; simp [h]
set_option maxHeartbeats 1000000 in
theorem nodeC_any (w : World) (pb : Nat) (l : Nat) (b : Bool) (h0 : w.cell? ⟨pb, 0, none⟩ = some (.int .i64 (l : Int))) (h1 : w.cell? ⟨pb, 1, none⟩ = some (.bool b)) (f0 : w.frozen? ⟨pb, 0, none⟩ = false) (f1 : w.frozen? ⟨pb, 1, none⟩ = false) (hl : l ≤ 1048576) :
    Calls Try.prog 72 #[.pointer (some ⟨pb, 0, none⟩)] w (fun e w' => e = .returned (.bool (decide (l ≠ 0))) ∧ w' = if l = 0 then w.setCell ⟨pb, 1, none⟩ (.bool true) else w.setCell ⟨pb, 0, none⟩ (.int .i64 ((l : Int) - 1))) := by
  by_cases h : l = 0
  · subst h
    go_enter Try.func72, Try.ntmps72
    go_wp2
    go_ret
    exact ⟨rfl, rfl⟩
  · have h' : ((l : Int) == 0) = false := by simp; omega
    have hd : decide (l ≠ 0) = true := by simp [h]
    rw [hd, if_neg h]
    clear h hd
    go_enter Try.func72, Try.ntmps72
    go_wp2
    go_ret
    exact ⟨rfl, rfl⟩
end Go.Proofs.Ytcnjlkabdfcjdaa
