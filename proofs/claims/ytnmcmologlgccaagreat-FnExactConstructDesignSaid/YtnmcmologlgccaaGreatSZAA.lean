/- Plain words for memory, over any program: what a slice reads as, and what a call leaves alone. No condition beyond those stated. -/
import Derived.WalkKit
import Derived.WalkSpells
import Derived.WalkLawsBesides
import Derived.Lib.Hide
import Derived.Deep.Slices
import Derived.Deep.Draws
import Derived.Maps.AppendAt
import Derived.Deep.OwnRows
set_option linter.unusedVariables false
set_option linter.unusedSimpArgs false
namespace Go.Proofs.YtnmcmologlgccaaGreat
open Go.RowKit
def I64 (z : Int) : Prop := -9223372036854775808 ≤ z ∧ z ≤ 9223372036854775807
theorem I64.lo {z : Int} (h : I64 z) : -9223372036854775808 ≤ z := h.1
theorem I64.hi {z : Int} (h : I64 z) : z ≤ 9223372036854775807 := h.2
theorem I64.of_wf {z : Int} (h : (Lit.int .i64 z).wf = true) : I64 z := by
  simp [Lit.wf, IntKind.min, IntKind.max, IntKind.signed, IntKind.bits] at h
  unfold I64
  omega
theorem ret_int {k : IntKind} {a b : Int} (h : a = b) : Ending.returned (.int k a) = .returned (.int k b) := by rw [h]
theorem ret_bool {a b : Bool} (h : a = b) : Ending.returned (.bool a) = .returned (.bool b) := by rw [h]
theorem ret_val {a b : Value} (h : a = b) : Ending.returned a = .returned b := by rw [h]
def inB (a lo hi : Int) : Bool := decide (lo ≤ a) && decide (a ≤ hi)
theorem inB_true {a lo hi : Int} (h : inB a lo hi = true) : lo ≤ a ∧ a ≤ hi := by simpa [inB] using h
theorem inB_false {a lo hi : Int} (h : ¬ inB a lo hi = true) : inB a lo hi = false := by simpa using h
theorem inB_mk {a lo hi : Int} (h : lo ≤ a ∧ a ≤ hi) : inB a lo hi = true := by simpa [inB] using h
theorem inB_not {a lo hi : Int} (h : ¬ (lo ≤ a ∧ a ≤ hi)) : inB a lo hi = false := by
  cases hb : inB a lo hi with
  | false => rfl
  | true => exact absurd (inB_true hb) h
theorem below_alloc (w : World) (o : Obj) : Below w.heap.size w (w.alloc o) := (Below.refl _ _).alloc (Nat.le_refl _) _
theorem below_then {a b c : World} (h : Below a.heap.size a b) (k : Below b.heap.size b c) : Below a.heap.size a c := h.trans (k.mono h.size)
theorem below_drewn' (B : Nat) (w : World) (n : Nat) : Below B w (w.drewN n) := ⟨rfl, rfl, rfl, Nat.le_refl _, fun _ _ => rfl⟩
theorem below_drewn (w : World) (n : Nat) : Below w.heap.size w (w.drewN n) := ⟨rfl, rfl, rfl, Nat.le_refl _, fun _ _ => rfl⟩
theorem add_block (a : Addr) (n : Nat) : (a.add n).block = a.block := by unfold Addr.add; split <;> rfl
theorem block_lt {w : World} {a : Addr} {v : Value} (h : w.cell? a = some v) : a.block < w.heap.size := World.block_lt_of_cell? w a h
theorem below_cell {w w' : World} (hb : Below w.heap.size w w') {a : Addr} {v : Value} (h : w.cell? a = some v) : w'.cell? a = some v := (hb.cell (block_lt h)).trans h
def nth (zs : List Int) (k : Nat) : Int := zs.getD k 0
theorem nth_eq {zs : List Int} {k : Nat} {z : Int} (h : zs[k]? = some z) : nth zs k = z := by simp [nth, List.getD, h]
theorem nth_get {zs : List Int} {k : Nat} (h : k < zs.length) : nth zs k = zs[k] := by simp [nth, List.getD, h]
theorem nth_some {zs : List Int} {k : Nat} (h : k < zs.length) : zs[k]? = some (nth zs k) := by rw [nth_get h]; exact List.getElem?_eq_getElem h
structure RS {α : Type} (E : World → Value → α → Prop) (w : World) (A : Option Addr) (n : Nat) (xs : List α) : Prop where
  len : xs.length = n
  at_ : ∀ j x, xs[j]? = some x → ∃ ad u, A = some ad ∧ w.cell? (ad.add j) = some u ∧ E w u x
section
variable {α : Type} {E : World → Value → α → Prop} {w w' : World} {A : Option Addr} {n : Nat} {xs : List α}
def Keeps (E : World → Value → α → Prop) : Prop := ∀ {w w' u x}, Below w.heap.size w w' → E w u x → E w' u x
theorem RS.keep (hE : Keeps E) (h : RS E w A n xs) (hb : Below w.heap.size w w') : RS E w' A n xs :=
  ⟨h.len, fun j x hx => let ⟨ad, u, ha, hc, he⟩ := h.at_ j x hx; ⟨ad, u, ha, below_cell hb hc, hE hb he⟩⟩
theorem RS.nil_ (E : World → Value → α → Prop) (w : World) (A : Option Addr) : RS E w A 0 [] := ⟨rfl, fun j x h => by simp at h⟩
theorem RS.get (h : RS E w A n xs) {k : Nat} (hk : k < n) : ∃ ad u x, A = some ad ∧ xs[k]? = some x ∧ w.cell? (ad.add k) = some u ∧ E w u x := by
  have hl : k < xs.length := by rw [h.len]; exact hk
  obtain ⟨ad, u, ha, hc, he⟩ := h.at_ k xs[k] (List.getElem?_eq_getElem hl)
  exact ⟨ad, u, _, ha, List.getElem?_eq_getElem hl, hc, he⟩
end
def EInt (_ : World) (u : Value) (z : Int) : Prop := u = .int .i64 z ∧ I64 z
theorem keeps_EInt : Keeps EInt := fun _ h => h
def RI (w : World) (A : Option Addr) (n : Nat) (zs : List Int) : Prop := RS EInt w A n zs
def ERow (w : World) (u : Value) (zs : List Int) : Prop := ∃ A n c, u = .slice A n c ∧ n ≤ c ∧ c ≤ 9223372036854775807 ∧ RI w A n zs
theorem RI.keep {w w' : World} {A n zs} (h : RI w A n zs) (hb : Below w.heap.size w w') : RI w' A n zs := RS.keep keeps_EInt h hb
theorem keeps_ERow : Keeps ERow := fun hb ⟨A, n, c, hu, h1, h2, h3⟩ => ⟨A, n, c, hu, h1, h2, h3.keep hb⟩
def RR (w : World) (A : Option Addr) (n : Nat) (zss : List (List Int)) : Prop := RS ERow w A n zss
theorem RR.keep {w w' : World} {A n zss} (h : RR w A n zss) (hb : Below w.heap.size w w') : RR w' A n zss := RS.keep keeps_ERow h hb
theorem RI.len {w A n zs} (h : RI w A n zs) : zs.length = n := RS.len h
theorem RR.len {w A n zs} (h : RR w A n zs) : zs.length = n := RS.len h
theorem RI.get {w : World} {A n zs} (h : RI w A n zs) {k : Nat} (hk : k < n) : ∃ ad, A = some ad ∧ w.cell? (ad.add k) = some (.int .i64 (nth zs k)) ∧ I64 (nth zs k) := by
  obtain ⟨ad, u, x, ha, hx, hc, rfl, hi⟩ := RS.get h hk
  exact ⟨ad, ha, by rw [nth_eq hx]; exact hc, by rw [nth_eq hx]; exact hi⟩
def row (zss : List (List Int)) (k : Nat) : List Int := zss.getD k []
theorem row_eq {zss : List (List Int)} {k : Nat} {z : List Int} (h : zss[k]? = some z) : row zss k = z := by simp [row, List.getD, h]
theorem row_get {zs : List (List Int)} {k : Nat} (h : k < zs.length) : row zs k = zs[k] := by simp [row, List.getD, h]
theorem RR.get {w : World} {A n zss} (h : RR w A n zss) {k : Nat} (hk : k < n) : ∃ ad B m c, A = some ad ∧ w.cell? (ad.add k) = some (.slice B m c) ∧ m ≤ c ∧ c ≤ 9223372036854775807 ∧ RI w B m (row zss k) := by
  obtain ⟨ad, u, x, ha, hx, hc, B, m, c, rfl, h1, h2, h3⟩ := RS.get h hk
  exact ⟨ad, B, m, c, ha, hc, h1, h2, by rw [row_eq hx]; exact h3⟩
theorem cell_new (w : World) (cs : Array Value) (t : TypeId) (j : Nat) : (w.alloc (.cells cs t)).cell? ⟨w.heap.size, j, none⟩ = cs[j]? := cell_of_row (w.alloc (.cells cs t)) _ j cs t (0, 0) (heap_alloc_new w _)
theorem RS.lit {α : Type} {E : World → Value → α → Prop} (f : α → Value) (w : World) (t : TypeId) (l : List α) (hE : ∀ x, x ∈ l → E (w.alloc (.cells (l.map f).toArray t)) (f x) x) :
    RS E (w.alloc (.cells (l.map f).toArray t)) (some ⟨w.heap.size, 0, none⟩) l.length l :=
  ⟨rfl, fun j x hx => ⟨_, f x, rfl, by rw [Addr.add_lit, Nat.zero_add, cell_new]; simp [hx], hE x (List.mem_of_getElem? hx)⟩⟩
def EByte (_ : World) (u : Value) (z : Int) : Prop := u = .int .u8 z ∧ 0 ≤ z ∧ z ≤ 255
theorem keeps_EByte : Keeps EByte := fun _ h => h
def OS (w : World) (B : Nat) (e : TypeId) (size : Nat) (A : Option Addr) (n c : Nat) (xs : List Value) : Prop := w.ownsRow B e size (.slice A n c) n xs
def blk (A : Option Addr) : Option Nat := A.map (·.block)
theorem ownBlock_slice (A : Option Addr) (n c : Nat) : (Value.slice A n c).ownBlock = blk A := by cases A <;> rfl
section
variable {w w' : World} {B : Nat} {e : TypeId} {size : Nat} {A : Option Addr} {n c : Nat} {xs : List Value}
theorem OS.nil_ (w : World) (B : Nat) (e : TypeId) (size : Nat) : OS w B e size none 0 0 [] := World.ownsRow_nil w B e size
theorem OS.len (h : OS w B e size A n c xs) : xs.length = n * size := h.1
theorem OS.cases (h : OS w B e size A n c xs) : (A = none ∧ n = 0 ∧ c = 0 ∧ xs = []) ∨
    ∃ g cur, A = some ⟨g, 0, none⟩ ∧ B ≤ g ∧ w.heap[g]? = some (.cells cur e (0, 0)) ∧ n ≤ c ∧ c ≤ maxLen ∧ cur.size = c * size ∧ cur.toList.take (n * size) = xs := by
  rcases h.2 with ⟨hv, hn⟩ | ⟨g, cap, cur, hv, hb, hg, h1, h2, h3, h4⟩
  · injection hv with ha _ hc
    exact .inl ⟨ha, hn, hc, List.eq_nil_of_length_eq_zero (by rw [h.1, hn, Nat.zero_mul])⟩
  · injection hv with ha _ hc
    subst ha; subst hc
    exact .inr ⟨g, cur, rfl, hb, hg, h1, h2, h3, h4⟩
theorem OS.cap (h : OS w B e size A n c xs) : n ≤ c ∧ c ≤ 9223372036854775807 := by
  rcases h.cases with ⟨_, rfl, rfl, _⟩ | ⟨g, cur, _, _, _, h1, h2, _⟩
  · omega
  · unfold maxLen at h2; omega
theorem OS.lt (h : OS w B e size A n c xs) {k : Nat} (hk : blk A = some k) : B ≤ k ∧ k < w.heap.size := by
  rw [← ownBlock_slice A n c] at hk
  exact World.ownsRow.lt h k hk
theorem OS.form (h : OS w B e size A n c xs) (hn : 0 < n) : ∃ g, A = some ⟨g, 0, none⟩ ∧ B ≤ g ∧ g < w.heap.size := by
  rcases h.cases with ⟨_, rfl, _⟩ | ⟨g, cur, rfl, hb, hg, _⟩
  · omega
  · exact ⟨g, rfl, hb, (Array.getElem?_eq_some_iff.1 hg).1⟩
theorem OS.kept {r : Option Nat} (h : OS w B e size A n c xs) (hg : w.grownBy w' r) (hne : blk A = none ∨ blk A ≠ r) : OS w' B e size A n c xs :=
  World.ownsRow.kept h hg (by rw [ownBlock_slice]; exact hne)
theorem OS.alloc (h : OS w B e size A n c xs) (o : Obj) : OS (w.alloc o) B e size A n c xs := World.ownsRow.alloc h o
theorem grownBy_of_below (hb : Below w.heap.size w w') (r : Option Nat) : w.grownBy w' r := ⟨hb.os, hb.tape, hb.output, hb.size, fun k hk _ => hb.block k hk⟩
theorem OS.below (h : OS w B e size A n c xs) (hb : Below w.heap.size w w') : OS w' B e size A n c xs := h.kept (grownBy_of_below hb none) (by cases A <;> simp [blk])
theorem OS.more {B' : Nat} (h : OS w B e size A n c xs) (hB : B' ≤ B) : OS w B' e size A n c xs := by
  refine ⟨h.1, ?_⟩
  rcases h.2 with h2 | ⟨g, cap, cur, hv, h1, r⟩
  · exact .inl h2
  · exact .inr ⟨g, cap, cur, hv, Nat.le_trans hB h1, r⟩
theorem OS.drewN (h : OS w B e size A n c xs) (k : Nat) : OS (w.drewN k) B e size A n c xs := h
theorem OS.cell (h : OS w B e size A n c xs) {j : Nat} {u : Value} (hu : xs[j]? = some u) : ∃ g, A = some ⟨g, 0, none⟩ ∧ w.cell? ⟨g, j, none⟩ = some u ∧ w.frozen? ⟨g, j, none⟩ = false := by
  rcases h.cases with ⟨_, _, _, rfl⟩ | ⟨g, cur, rfl, hb, hg, _⟩
  · simp at hu
  · have hj : j < n * size := by
      have := (List.getElem?_eq_some_iff.1 hu).1
      rwa [h.len] at this
    exact ⟨g, rfl, (World.ownsRow.cellAt h j hj).trans hu, World.ownsRow.frozenAt h j⟩
theorem OS.cells (h : OS w B e size A n c xs) : ∀ j u, xs[j]? = some u → ∃ ad, A = some ad ∧ w.cell? (ad.add j) = some u := fun j u hu => by
  obtain ⟨g, rfl, hc, _⟩ := h.cell hu
  exact ⟨_, rfl, by rw [Addr.add_lit, Nat.zero_add]; exact hc⟩
theorem OS.set {g : Nat} (h : OS w B e size (some ⟨g, 0, none⟩) n c xs) (j : Nat) (u : Value) : OS (w.setCell ⟨g, j, none⟩ u) B e size (some ⟨g, 0, none⟩) n c (xs.set j u) :=
  (World.ownsRow.stored h j u).1
theorem OS.setFar (h : OS w B e size A n c xs) {p : Addr} (hp : blk A ≠ some p.block) (u : Value) : OS (w.setCell p u) B e size A n c xs :=
  h.kept ⟨rfl, rfl, rfl, by simp [World.setCell], fun k _ hk => Below.heap_setCell _ _ _ _ (fun e => hk (by rw [e]))⟩ (.inr hp)
theorem OS.made (w : World) (B : Nat) (e : TypeId) (z : Value) (n : Nat) (hB : B ≤ w.heap.size) (hn : n ≤ 9223372036854775807) :
    OS (w.alloc (.cells (madeCells #[z] n) e)) B e 1 (some ⟨w.heap.size, 0, none⟩) n n (List.replicate n z) := by
  refine ⟨by simp, .inr ⟨w.heap.size, n, _, rfl, hB, heap_alloc_new w _, Nat.le_refl _, hn, by simp [size_madeCells], ?_⟩⟩
  rw [toList_madeCells_one, Nat.mul_one]
  exact List.take_of_length_le (by simp)
theorem OS.lit (w : World) (B : Nat) (e : TypeId) (size n : Nat) (cs : Array Value) (hB : B ≤ w.heap.size) (hs : cs.size = n * size) (hn : n ≤ 9223372036854775807) :
    OS (w.alloc (.cells cs e)) B e size (some ⟨w.heap.size, 0, none⟩) n n cs.toList :=
  ⟨by simpa using hs, .inr ⟨w.heap.size, n, cs, rfl, hB, heap_alloc_new w _, Nat.le_refl _, hn, hs, List.take_of_length_le (by simp [hs])⟩⟩
end
/-! numbers -/
def ints (zs : List Int) : List Value := zs.map (Value.int .i64)
theorem ints_nth {zs : List Int} {k : Nat} (h : k < zs.length) : (ints zs)[k]? = some (.int .i64 (nth zs k)) := by
  rw [ints, List.getElem?_map, nth_some h]; rfl
theorem ints_oneCell (zs : List Int) : ∀ u ∈ ints zs, u.oneCell' = true := by
  intro u hu
  obtain ⟨z, _, rfl⟩ := List.mem_map.1 hu
  rfl
def All64 (zs : List Int) : Prop := ∀ z ∈ zs, I64 z
theorem All64.nil_ : All64 [] := fun _ h => absurd h (by simp)
theorem All64.app {a b : List Int} (h : All64 a) (k : All64 b) : All64 (a ++ b) := fun z hz => (List.mem_append.1 hz).elim (h z) (k z)
theorem All64.one {z : Int} (h : I64 z) : All64 [z] := fun y hy => by rw [List.mem_singleton.1 hy]; exact h
theorem All64.set {a : List Int} {z : Int} (h : All64 a) (hz : I64 z) (k : Nat) : All64 (a.set k z) := fun y hy => (List.mem_or_eq_of_mem_set hy).elim (h y) (fun e => e ▸ hz)
theorem All64.take {a : List Int} (h : All64 a) (k : Nat) : All64 (a.take k) := fun y hy => h y (List.mem_of_mem_take hy)
theorem All64.nth {a : List Int} (h : All64 a) (k : Nat) : I64 (nth a k) := by
  by_cases hk : k < a.length
  · rw [nth_get hk]; exact h _ (List.getElem_mem hk)
  · have : Go.Proofs.YtnmcmologlgccaaGreat.nth a k = 0 := by simp [Go.Proofs.YtnmcmologlgccaaGreat.nth, List.getD, List.getElem?_eq_none (Nat.le_of_not_lt hk)]
    rw [this]; exact ⟨by omega, by omega⟩
structure OI (w : World) (B : Nat) (e : TypeId) (A : Option Addr) (n c : Nat) (zs : List Int) : Prop where
  os : OS w B e 1 A n c (ints zs)
  all : All64 zs
section
variable {w w' : World} {B : Nat} {e : TypeId} {A : Option Addr} {n c : Nat} {zs : List Int}
theorem OI.nil_ (w : World) (B : Nat) (e : TypeId) : OI w B e none 0 0 [] := ⟨OS.nil_ w B e 1, All64.nil_⟩
theorem OI.len (h : OI w B e A n c zs) : zs.length = n := by have := h.os.len; simpa [ints] using this
theorem OI.kept {r : Option Nat} (h : OI w B e A n c zs) (hg : w.grownBy w' r) (hne : blk A = none ∨ blk A ≠ r) : OI w' B e A n c zs := ⟨h.os.kept hg hne, h.all⟩
theorem OI.alloc (h : OI w B e A n c zs) (o : Obj) : OI (w.alloc o) B e A n c zs := ⟨h.os.alloc o, h.all⟩
theorem OI.below (h : OI w B e A n c zs) (hb : Below w.heap.size w w') : OI w' B e A n c zs := ⟨h.os.below hb, h.all⟩
theorem OI.more {B' : Nat} (h : OI w B e A n c zs) (hB : B' ≤ B) : OI w B' e A n c zs := ⟨h.os.more hB, h.all⟩
theorem OI.drewN (h : OI w B e A n c zs) (k : Nat) : OI (w.drewN k) B e A n c zs := ⟨h.os.drewN k, h.all⟩
theorem OI.reads (h : OI w B e A n c zs) : RI w A n zs := by
  refine ⟨h.len, fun j x hx => ?_⟩
  have hu : (ints zs)[j]? = some (.int .i64 x) := by simp [ints, hx]
  obtain ⟨ad, ha, hc⟩ := h.os.cells j _ hu
  exact ⟨ad, _, ha, hc, rfl, h.all x (List.mem_of_getElem? hx)⟩
theorem OI.cell (h : OI w B e A n c zs) {k : Nat} (hk : k < n) : ∃ g, A = some ⟨g, 0, none⟩ ∧ w.cell? ⟨g, k, none⟩ = some (.int .i64 (nth zs k)) ∧ w.frozen? ⟨g, k, none⟩ = false ∧ I64 (nth zs k) := by
  obtain ⟨g, ha, hc, hf⟩ := h.os.cell (ints_nth (by rw [h.len]; exact hk))
  exact ⟨g, ha, hc, hf, h.all.nth k⟩
theorem OI.set {g : Nat} (h : OI w B e (some ⟨g, 0, none⟩) n c zs) (j : Nat) {u : Int} (hu : I64 u) : OI (w.setCell ⟨g, j, none⟩ (.int .i64 u)) B e (some ⟨g, 0, none⟩) n c (zs.set j u) :=
  ⟨by have := h.os.set j (.int .i64 u); rwa [show (ints zs).set j (.int .i64 u) = ints (zs.set j u) from by simp [ints, List.map_set]] at this, h.all.set hu j⟩
theorem OI.made (w : World) (B : Nat) (e : TypeId) (n : Nat) (hB : B ≤ w.heap.size) (hn : n ≤ 9223372036854775807) :
    OI (w.alloc (.cells (madeCells #[.int .i64 0] n) e)) B e (some ⟨w.heap.size, 0, none⟩) n n (List.replicate n 0) :=
  ⟨by have := OS.made w B e (.int .i64 0) n hB hn; rwa [show List.replicate n (Value.int .i64 0) = ints (List.replicate n 0) from by simp [ints]] at this,
   fun z hz => by rw [List.eq_of_mem_replicate hz]; exact ⟨by omega, by omega⟩⟩
end
theorem OI.snoc {w : World} {B : Nat} {e : TypeId} {A : Option Addr} {n c : Nat} {zs : List Int} {z : Int} (h : OS w B e 1 A n c (ints zs ++ [.int .i64 z])) (ha : All64 zs) (hz : I64 z) : OI w B e A n c (zs ++ [z]) :=
  ⟨by rwa [show ints zs ++ [Value.int .i64 z] = ints (zs ++ [z]) from by simp [ints]] at h, ha.app (All64.one hz)⟩
theorem OI.cat {w : World} {B : Nat} {e : TypeId} {A : Option Addr} {n c : Nat} {zs ys : List Int} (h : OS w B e 1 A n c (ints zs ++ ints ys)) (ha : All64 zs) (hz : All64 ys) : OI w B e A n c (zs ++ ys) :=
  ⟨by rwa [show ints zs ++ ints ys = ints (zs ++ ys) from by simp [ints]] at h, ha.app hz⟩
theorem below_own {B : Nat} {a w w' : World} {A : Option Addr} (h : Below B a w) (hg : w.grownBy w' (blk A)) (hB : B ≤ w.heap.size) (hr : ∀ k, blk A = some k → B ≤ k) : Below B a w' := h.grown hg hB hr
theorem OI.lit (w : World) (B : Nat) (e : TypeId) (zs : List Int) (hB : B ≤ w.heap.size) (hn : zs.length ≤ 9223372036854775807) (h : All64 zs) :
    OI (w.alloc (.cells (ints zs).toArray e)) B e (some ⟨w.heap.size, 0, none⟩) zs.length zs.length zs :=
  ⟨OS.lit w B e 1 zs.length (ints zs).toArray hB (by simp [ints]) hn, h⟩
/-! append -/
section
variable {P : Program}
theorem wpList_app (w : World) {ops : Array Oper} {rest : List Oper} {o : Oper} {a : Act} {Q : Exit → Act → World → Prop} (hgd : o.guard = none) (s x : Operand) (t : TypeId)
    (ho : o.op = .call { callee := .builtin .append, args := #[s, x], argTypes := #[t, t] }) (e : TypeId) (z : Value) (size bytes : Nat) (ht : P.underlying t = some (.slice e))
    (hinfo : (P.info? e).map (fun i => (i.zero, i.size, i.bytes)) = some (some z, size, bytes)) (hzs : z.cells.size = size) (hsz : 0 < size) (hby : bytes ≤ 64)
    (B : Nat) (A : Option Addr) (n c : Nat) (xs : List Value) (hs : a.eval s = .slice A n c) (hown : OS w B e size A n c xs)
    (A2 : Option Addr) (m c2 : Nat) (news : List Value) (hx : a.eval x = .slice A2 m c2) (hl : news.length = m * size) (hnews : ∀ j u, news[j]? = some u → ∃ ad, A2 = some ad ∧ w.cell? (ad.add j) = some u)
    (h1 : ∀ u ∈ news, u.oneCell' = true) (hbig : n + m ≤ 2199023255552) (hB : B ≤ w.heap.size)
    (h : ∀ A' c' w', OS w' B e size A' (n + m) c' (xs ++ news) → w.grownBy w' (blk A) → (blk A' = blk A ∨ blk A' = some w.heap.size) → wpList P ops Q rest (a.put o.dst (.slice A' (n + m) c')) w') :
    wpList P ops Q (o :: rest) a w := by
  obtain ⟨i, hi, hz, hsize, hbytes⟩ := info_parts hinfo
  have hb47 : (n + m) * bytes ≤ 140737488355328 := Nat.le_trans (Nat.mul_le_mul hbig hby) (by omega)
  have hm63 : n + m ≤ maxLen := by unfold maxLen; omega
  have key : ∃ v' w', (Builtin.append_ #[t, t] o.type #[.slice A n c, .slice A2 m c2]).run P w = .ok v' w' ∧ w'.ownsRow B e size v' (n + m) (xs ++ news) ∧ w.grownBy w' (Value.slice A n c).ownBlock ∧
      (v'.ownBlock = (Value.slice A n c).ownBlock ∨ v'.ownBlock = some w.heap.size) := by
    rcases A2 with _ | ad
    · have hnil : news = [] := by
        cases hn : news with
        | nil => rfl
        | cons u r =>
          obtain ⟨ad, ha, _⟩ := hnews 0 u (by rw [hn]; rfl)
          cases ha
      subst hnil
      have hm0 : m = 0 := by
        rcases Nat.eq_zero_or_pos m with h0 | h0
        · exact h0
        · have : 0 < m * size := Nat.mul_pos h0 hsz
          simp at hl; omega
      subst hm0
      refine ⟨.slice A n c, w, ?_, by rw [Nat.add_zero, List.append_nil]; exact hown, World.grownBy.refl w _, .inl rfl⟩
      rcases hown.cases with ⟨rfl, rfl, rfl, _⟩ | ⟨g, cur, rfl, _, _, hnc, _⟩
      · simp [Builtin.append_, run_underlying ht, sizeOf, typeInfo, hi, Builtin.lenOf, Builtin.firstCells]
      · simp [Builtin.append_, run_underlying ht, sizeOf, typeInfo, hi, Builtin.lenOf, Builtin.firstCells, hnc, storeCells]
    · obtain ⟨v', w', hrun, h2, h3, _, h5⟩ := run_append_own_at (P := P) w B t o.type e i z size bytes ht hi hz hsize hbytes hzs hsz _ n xs hown ad m c2 news hl
        (fun j u hu => by obtain ⟨ad', ha, hc⟩ := hnews j u hu; injection ha with ha; subst ha; exact hc) h1 hm63 hb47 hB
      exact ⟨v', w', hrun, h2, h3, h5⟩
  obtain ⟨v', w', hrun, h2, h3, h4⟩ := key
  obtain ⟨A', c', hv⟩ : ∃ A' c', v' = .slice A' (n + m) c' := by
    rcases h2.2 with ⟨hv, hn⟩ | ⟨g, cap, cur, hv, _⟩
    · exact ⟨none, 0, by rw [hv, hn]⟩
    · exact ⟨_, _, hv⟩
  subst hv
  rw [ownBlock_slice, ownBlock_slice] at h4
  rw [ownBlock_slice] at h3
  refine wpList_plain hgd fun K hK => ?_
  unfold Oper.wp execOp
  simp only [ho, resolve, invoke, builtin, Sem.run_bind, Sem.run_pure, Result.andThen_ok, List.map_toArray, List.map_cons, List.map_nil, hs, hx, hrun]
  exact hK _ _ (h A' c' w' h2 h3 h4)
theorem wpList_app1 (w : World) {ops : Array Oper} {rest : List Oper} {o : Oper} {a : Act} {Q : Exit → Act → World → Prop} (hgd : o.guard = none) (s x : Operand) (t : TypeId)
    (ho : o.op = .call { callee := .builtin .append, args := #[s, x], argTypes := #[t, t] }) (e : TypeId) (z : Value) (bytes : Nat) (ht : P.underlying t = some (.slice e))
    (hinfo : (P.info? e).map (fun i => (i.zero, i.size, i.bytes)) = some (some z, 1, bytes)) (hzs : z.cells.size = 1) (hby : bytes ≤ 64)
    (B : Nat) (A : Option Addr) (n c : Nat) (xs : List Value) (hs : a.eval s = .slice A n c) (hown : OS w B e 1 A n c xs)
    (u : Value) (hx : a.eval x = .slice (some ⟨w.heap.size, 0, none⟩) 1 1) (h1 : u.oneCell' = true) (hbig : n + 1 ≤ 2199023255552) (hB : B ≤ w.heap.size)
    (h : ∀ A' c' w', OS w' B e 1 A' (n + 1) c' (xs ++ [u]) → w.grownBy w' (blk A) → (blk A' = blk A ∨ ∃ k, blk A' = some k ∧ w.heap.size ≤ k) → wpList P ops Q rest (a.put o.dst (.slice A' (n + 1) c')) w') :
    wpList P ops Q (o :: rest) a (w.alloc (.cells #[u] e)) :=
  wpList_app (w.alloc (.cells #[u] e)) hgd s x t ho e z 1 bytes ht hinfo hzs (by omega) hby B A n c xs hs (hown.alloc _) _ 1 1 [u] hx rfl
    (fun j v hv => ⟨_, rfl, cell_one_new w u e j v hv⟩) (fun v hv => by rw [List.mem_singleton.1 hv]; exact h1) hbig (by simp; omega)
    (fun A' c' w' k1 k2 k3 => h A' c' w' k1 ((World.grownBy_alloc w _ _).trans k2) (k3.elim .inl fun e => .inr ⟨_, e, by simp⟩))
theorem wpList_app1' (w : World) {ops : Array Oper} {rest : List Oper} {o : Oper} {a : Act} {Q : Exit → Act → World → Prop} (hgd : o.guard = none) (s x : Operand) (t : TypeId)
    (ho : o.op = .call { callee := .builtin .append, args := #[s, x], argTypes := #[t, t] }) (e : TypeId) (z : Value) (bytes : Nat) (ht : P.underlying t = some (.slice e))
    (hinfo : (P.info? e).map (fun i => (i.zero, i.size, i.bytes)) = some (some z, 1, bytes)) (hzs : z.cells.size = 1) (hby : bytes ≤ 64)
    (B : Nat) (A : Option Addr) (n c : Nat) (xs : List Value) (hs : a.eval s = .slice A n c) (hown : OS w B e 1 A n c xs)
    (u : Value) (g : Nat) (hx : a.eval x = .slice (some ⟨g, 0, none⟩) 1 1) (hgx : g = w.heap.size) (h1 : u.oneCell' = true) (hbig : n + 1 ≤ 2199023255552) (hB : B ≤ w.heap.size)
    (h : ∀ A' c' w', OS w' B e 1 A' (n + 1) c' (xs ++ [u]) → w.grownBy w' (blk A) → (blk A' = blk A ∨ ∃ k, blk A' = some k ∧ w.heap.size ≤ k) → wpList P ops Q rest (a.put o.dst (.slice A' (n + 1) c')) w') :
    wpList P ops Q (o :: rest) a (w.alloc (.cells #[u] e)) :=
  wpList_app1 w hgd s x t ho e z bytes ht hinfo hzs hby B A n c xs hs hown u (by rw [hx, hgx]) h1 hbig hB h
end
/-! what a call hands back -/
def RetI (w : World) (e : TypeId) (zs : List Int) (en : Ending) (w' : World) : Prop := ∃ A n c, en = .returned (.slice A n c) ∧ OI w' w.heap.size e A n c zs ∧ Below w.heap.size w w'
def RetIC (w : World) (e : TypeId) (zs : List Int) (code : Int) (en : Ending) (w' : World) : Prop := ∃ A n c, en = .returned (.tuple #[.slice A n c, .int .i64 code]) ∧ OI w' w.heap.size e A n c zs ∧ Below w.heap.size w w'
def marks (k n : Nat) : List Int := (List.range n).map fun i => ((k + i : Nat) : Int)
theorem marks_len (k n : Nat) : (marks k n).length = n := by simp [marks]
theorem marks_nth {k n i : Nat} (h : i < n) : nth (marks k n) i = ((k + i : Nat) : Int) := by simp [nth, marks, List.getD, h]
def marked (k : Nat) (zs : List Int) (j : Nat) : List Int := marks k j ++ zs.drop j
theorem marked_zero (k : Nat) (zs : List Int) : marked k zs 0 = zs := by simp [marked, marks]
theorem marked_all (k : Nat) (zs : List Int) : marked k zs zs.length = marks k zs.length := by simp [marked]
theorem marked_step {k : Nat} {zs : List Int} {j : Nat} (h : j < zs.length) : (marked k zs j).set j ((k + j : Nat) : Int) = marked k zs (j + 1) := by
  unfold marked
  rw [List.set_append_right _ _ (by rw [marks_len]; exact Nat.le_refl _), marks_len, Nat.sub_self, List.drop_eq_getElem_cons h, List.set_cons_zero]
  simp [marks, List.range_succ]
def copied (xs zs : List Int) (j : Nat) : List Int := xs.take j ++ zs.drop j
theorem copied_zero (xs zs : List Int) : copied xs zs 0 = zs := by simp [copied]
theorem copied_all {xs zs : List Int} (h : xs.length = zs.length) : copied xs zs xs.length = xs := by
  rw [copied, List.take_length, List.drop_eq_nil_of_le (by omega), List.append_nil]
theorem copied_step {xs zs : List Int} {j : Nat} (hx : j < xs.length) (hz : j < zs.length) : (copied xs zs j).set j (nth xs j) = copied xs zs (j + 1) := by
  unfold copied
  have hl : (xs.take j).length = j := by rw [List.length_take]; omega
  rw [List.set_append_right _ _ (by omega), hl, Nat.sub_self, List.drop_eq_getElem_cons hz, List.set_cons_zero, List.take_succ_eq_append_getElem hx, nth_get hx, List.append_assoc]
  rfl
def Blk (w : World) (g : Nat) (t : TypeId) (cs : Array Value) : Prop := w.heap[g]? = some (.cells cs t (0, 0))
section
variable {w w' : World} {g : Nat} {t : TypeId} {cs : Array Value}
theorem Blk.lt (h : Blk w g t cs) : g < w.heap.size := (Array.getElem?_eq_some_iff.1 h).1
theorem Blk.cell (h : Blk w g t cs) (i : Nat) : w.cell? ⟨g, i, none⟩ = cs[i]? := cell_of_row w g i cs t (0, 0) h
theorem Blk.frozen (h : Blk w g t cs) (i : Nat) : w.frozen? ⟨g, i, none⟩ = false := by
  unfold Blk at h
  simp [World.frozen?, h]
theorem Blk.new (w : World) (t : TypeId) (cs : Array Value) : Blk (w.alloc (.cells cs t)) w.heap.size t cs := heap_alloc_new w _
theorem Blk.alloc (h : Blk w g t cs) (o : Obj) : Blk (w.alloc o) g t cs := (Below.heap_alloc w o g h.lt).trans h
theorem Blk.below {B : Nat} (h : Blk w g t cs) (hb : Below B w w') (hg : g < B) : Blk w' g t cs := (hb.block g hg).trans h
theorem Blk.after (h : Blk w g t cs) (hb : Below w.heap.size w w') : Blk w' g t cs := h.below hb h.lt
theorem Blk.grown {row : Option Nat} (h : Blk w g t cs) (hb : w.grownBy w' row) (hg : some g ≠ row) : Blk w' g t cs := (hb.block g h.lt hg).trans h
theorem Blk.far (h : Blk w g t cs) {p : Addr} (hp : g ≠ p.block) (u : Value) : Blk (w.setCell p u) g t cs := (Below.heap_setCell w p u g hp).trans h
theorem Blk.set_ (h : Blk w g t cs) (i : Nat) (u : Value) : Blk (w.setCell ⟨g, i, none⟩ u) g t (cs.setIfInBounds i u) := by
  unfold Blk at h ⊢
  simp [World.setCell, Array.getElem?_modify, h]
theorem Blk.cells2 {x y : Value} (h : Blk w g t #[x, y]) : w.cell? ⟨g, 0, none⟩ = some x ∧ w.cell? ⟨g, 1, none⟩ = some y := ⟨h.cell 0, h.cell 1⟩
theorem Blk.cells3 {x y z : Value} (h : Blk w g t #[x, y, z]) : w.cell? ⟨g, 0, none⟩ = some x ∧ w.cell? ⟨g, 1, none⟩ = some y ∧ w.cell? ⟨g, 2, none⟩ = some z := ⟨h.cell 0, h.cell 1, h.cell 2⟩
end
abbrev Sl := Option Addr × Nat × Nat
def slv (v : Sl) : Value := .slice v.1 v.2.1 v.2.2
def apart (a b : Sl) : Prop := blk a.1 = none ∨ blk a.1 ≠ blk b.1
theorem apart.symm {a b : Sl} (h : apart a b) : apart b a := by
  unfold apart at *
  rcases h with h | h
  · by_cases hb : blk b.1 = none
    · exact .inl hb
    · exact .inr (by rw [h]; exact hb)
  · exact .inr h.symm
structure ORv (w : World) (B : Nat) (e2 e1 : TypeId) (A : Option Addr) (n c : Nat) (vs : List Sl) (zss : List (List Int)) : Prop where
  os : OS w B e2 1 A n c (vs.map slv)
  len : vs.length = zss.length
  rows : ∀ (j : Nat) (v : Sl) (z : List Int), vs[j]? = some v → zss[j]? = some z → OI w B e1 v.1 v.2.1 v.2.2 z
  sep : ∀ (i j : Nat) (v u : Sl), i ≠ j → vs[i]? = some v → vs[j]? = some u → apart v u
  ne : e2 ≠ e1
def OR (w : World) (B : Nat) (e2 e1 : TypeId) (A : Option Addr) (n c : Nat) (zss : List (List Int)) : Prop := ∃ vs, ORv w B e2 e1 A n c vs zss
section
variable {w w' : World} {B : Nat} {e2 e1 : TypeId} {A : Option Addr} {n c : Nat} {vs : List Sl} {zss : List (List Int)}
theorem OS.typed {A' : Option Addr} {n' c' : Nat} {xs ys : List Value} {size size' : Nat} (h : OS w B e2 size A n c xs) (k : OS w B e1 size' A' n' c' ys) (hne : e2 ≠ e1) : blk A = none ∨ blk A ≠ blk A' := by
  rcases h.cases with ⟨rfl, _⟩ | ⟨g, cur, rfl, _, hg, _⟩
  · exact .inl rfl
  · rcases k.cases with ⟨rfl, _⟩ | ⟨g', cur', rfl, _, hg', _⟩
    · exact .inr (by simp [blk])
    · refine .inr fun e => ?_
      have : g = g' := by simpa [blk] using e
      subst this
      rw [hg] at hg'
      injection hg' with hg'
      injection hg' with _ ht
      exact hne ht
theorem ORv.slen (h : ORv w B e2 e1 A n c vs zss) : zss.length = n := by have := h.os.len; have := h.len; simp at *; omega
theorem OR.len (h : OR w B e2 e1 A n c zss) : zss.length = n := by obtain ⟨vs, h⟩ := h; exact h.slen
theorem OR.os_cap (h : OR w B e2 e1 A n c zss) : n ≤ c ∧ c ≤ 9223372036854775807 := by obtain ⟨vs, h⟩ := h; exact h.os.cap
theorem OR.nil_ (w : World) (B : Nat) {e2 e1 : TypeId} (hne : e2 ≠ e1) : OR w B e2 e1 none 0 0 [] :=
  ⟨[], OS.nil_ w B e2 1, rfl, fun _ _ _ h => by simp at h, fun _ _ _ _ _ h => by simp at h, hne⟩
theorem ORv.outer_row (h : ORv w B e2 e1 A n c vs zss) {j : Nat} {v : Sl} (hv : vs[j]? = some v) : blk v.1 = none ∨ blk v.1 ≠ blk A := by
  have hj : j < zss.length := by rw [← h.len]; exact (List.getElem?_eq_some_iff.1 hv).1
  exact OS.typed (h.rows j v _ hv (List.getElem?_eq_getElem hj)).os h.os (fun e => h.ne e.symm)
theorem ORv.kept {r : Option Nat} (h : ORv w B e2 e1 A n c vs zss) (hg : w.grownBy w' r) (h0 : blk A = none ∨ blk A ≠ r) (hr : ∀ (j : Nat) (v : Sl), vs[j]? = some v → blk v.1 = none ∨ blk v.1 ≠ r) : ORv w' B e2 e1 A n c vs zss :=
  ⟨h.os.kept hg h0, h.len, fun j v z hv hz => (h.rows j v z hv hz).kept hg (hr j v hv), h.sep, h.ne⟩
theorem OR.alloc (h : OR w B e2 e1 A n c zss) (o : Obj) : OR (w.alloc o) B e2 e1 A n c zss := by
  obtain ⟨vs, h⟩ := h
  exact ⟨vs, h.kept (r := none) (World.grownBy_alloc w o none) (by cases A <;> simp [blk]) (fun j v _ => by obtain ⟨a, b, c⟩ := v; cases a <;> simp [blk])⟩
theorem OR.below (h : OR w B e2 e1 A n c zss) (hb : Below w.heap.size w w') : OR w' B e2 e1 A n c zss := by
  obtain ⟨vs, h⟩ := h
  exact ⟨vs, h.kept (r := none) (grownBy_of_below hb none) (by cases A <;> simp [blk]) (fun j v _ => by obtain ⟨a, b, c⟩ := v; cases a <;> simp [blk])⟩
theorem OR.more {B' : Nat} (h : OR w B e2 e1 A n c zss) (hB : B' ≤ B) : OR w B' e2 e1 A n c zss := by
  obtain ⟨vs, h⟩ := h
  exact ⟨vs, h.os.more hB, h.len, fun j v z hv hz => (h.rows j v z hv hz).more hB, h.sep, h.ne⟩
theorem OR.reads (h : OR w B e2 e1 A n c zss) : RR w A n zss := by
  refine ⟨h.len, fun j z hz => ?_⟩
  obtain ⟨vs, h⟩ := h
  have hj : j < vs.length := by rw [h.len]; exact (List.getElem?_eq_some_iff.1 hz).1
  have hv := List.getElem?_eq_getElem hj
  obtain ⟨ad, ha, hc⟩ := h.os.cells j (slv vs[j]) (by rw [List.getElem?_map, hv]; rfl)
  have hr := h.rows j _ z hv hz
  exact ⟨ad, _, ha, hc, _, _, _, rfl, hr.os.cap.1, hr.os.cap.2, hr.reads⟩
theorem OS.setLow {size : Nat} {xs : List Value} (h : OS w B e2 size A n c xs) {p : Addr} (hp : p.block < B) (u : Value) : OS (w.setCell p u) B e2 size A n c xs :=
  h.setFar (p := p) (fun e => by have := (h.lt e).1; omega) u
theorem OI.setLow {zs : List Int} (h : OI w B e1 A n c zs) {p : Addr} (hp : p.block < B) (u : Value) : OI (w.setCell p u) B e1 A n c zs := ⟨h.os.setLow hp u, h.all⟩
theorem OR.setLow (h : OR w B e2 e1 A n c zss) {p : Addr} (hp : p.block < B) (u : Value) : OR (w.setCell p u) B e2 e1 A n c zss := by
  obtain ⟨vs, h⟩ := h
  exact ⟨vs, h.os.setLow hp u, h.len, fun j v z hv hz => (h.rows j v z hv hz).setLow hp u, h.sep, h.ne⟩
theorem ORv.get (h : ORv w B e2 e1 A n c vs zss) {k : Nat} (hk : k < n) : ∃ g v, A = some ⟨g, 0, none⟩ ∧ vs[k]? = some v ∧ w.cell? ⟨g, k, none⟩ = some (.slice v.1 v.2.1 v.2.2) ∧ w.frozen? ⟨g, k, none⟩ = false ∧ OI w B e1 v.1 v.2.1 v.2.2 (row zss k) := by
  have hz : k < zss.length := by rw [h.slen]; exact hk
  have hj : k < vs.length := by rw [h.len]; exact hz
  have hv := List.getElem?_eq_getElem hj
  obtain ⟨g, ha, hc, hf⟩ := h.os.cell (j := k) (u := slv vs[k]) (by rw [List.getElem?_map, hv]; rfl)
  exact ⟨g, vs[k], ha, hv, hc, hf, by rw [row_get hz]; exact h.rows k _ _ hv (List.getElem?_eq_getElem hz)⟩
theorem ORv.wrote (h : ORv w B e2 e1 A n c vs zss) {k : Nat} {v : Sl} {z : List Int} (hv : vs[k]? = some v) (hg : w.grownBy w' (blk v.1)) (ho : OI w' B e1 v.1 v.2.1 v.2.2 z) :
    ORv w' B e2 e1 A n c vs (zss.set k z) := by
  have hou := h.outer_row hv
  refine ⟨h.os.kept hg ?_, by simpa using h.len, fun j u y hu hy => ?_, h.sep, h.ne⟩
  · rcases hou with h1 | h1
    · by_cases ha : blk A = none
      · exact .inl ha
      · exact .inr (by rw [h1]; exact ha)
    · exact .inr fun e => h1 e.symm
  · rw [List.getElem?_set] at hy
    by_cases e : k = j
    · subst e
      have hk1 : k < vs.length := (List.getElem?_eq_some_iff.1 hv).1
      have hk2 : k < zss.length := by rw [← h.len]; exact hk1
      simp [hk2] at hy
      subst hy
      rw [hv] at hu
      injection hu with hu
      subst hu
      exact ho
    · simp [e] at hy
      exact (h.rows j u y hu hy).kept hg (h.sep j k u v (fun e' => e e'.symm) hu hv)
theorem ORv.push (h : ORv w B e2 e1 A n c vs zss) {v : Sl} {z : List Int} (ho : OI w B e1 v.1 v.2.1 v.2.2 z) (hap : ∀ (j : Nat) (u : Sl), vs[j]? = some u → apart u v)
    {A' : Option Addr} {c' : Nat} (hg : w.grownBy w' (blk A)) (hos : OS w' B e2 1 A' (n + 1) c' (vs.map slv ++ [.slice v.1 v.2.1 v.2.2])) : OR w' B e2 e1 A' (n + 1) c' (zss ++ [z]) := by
  have hvA : blk v.1 = none ∨ blk v.1 ≠ blk A := OS.typed ho.os h.os (fun e => h.ne e.symm)
  refine ⟨vs ++ [v], by simpa [slv] using hos, by simp [h.len], fun j u y hu hy => ?_, fun i j u x hij hu hx => ?_, h.ne⟩
  · rw [List.getElem?_append] at hu hy
    rw [h.len] at hu
    split at hu
    · rename_i hj
      rw [if_pos hj] at hy
      exact (h.rows j u y hu hy).kept hg (h.outer_row hu)
    · rename_i hj
      rw [if_neg hj] at hy
      have e : j - zss.length = 0 := by
        have := (List.getElem?_eq_some_iff.1 hu).1
        simp at this; omega
      rw [e] at hu hy
      simp at hu hy
      subst hu; subst hy
      exact ho.kept hg hvA
  · rw [List.getElem?_append] at hu hx
    split at hu
    · split at hx
      · exact h.sep i j u x hij hu hx
      · have : x = v := by
          have := List.mem_of_getElem? hx
          simpa using this
        subst this
        exact hap i u hu
    · have hu' : u = v := by
        have := List.mem_of_getElem? hu
        simpa using this
      subst hu'
      split at hx
      · exact (hap j x hx).symm
      · rename_i h1 h2
        have a1 := (List.getElem?_eq_some_iff.1 hu).1
        have a2 := (List.getElem?_eq_some_iff.1 hx).1
        simp at a1 a2
        omega
theorem ORv.apart_new (h : ORv w B e2 e1 A n c vs zss) {v : Sl} (hn : ∀ b, blk v.1 = some b → w.heap.size ≤ b) : ∀ (j : Nat) (u : Sl), vs[j]? = some u → apart u v := fun j u hu => by
  unfold apart
  cases hb : blk u.1 with
  | none => exact .inl rfl
  | some b =>
    refine .inr fun e => ?_
    have hj : j < zss.length := by rw [← h.len]; exact (List.getElem?_eq_some_iff.1 hu).1
    have h1 := ((h.rows j u _ hu (List.getElem?_eq_getElem hj)).os.lt hb).2
    have h2 := hn b e.symm
    omega
end
def RetR (w : World) (e2 e1 : TypeId) (zss : List (List Int)) (en : Ending) (w' : World) : Prop := ∃ A n c, en = .returned (.slice A n c) ∧ OR w' w.heap.size e2 e1 A n c zss ∧ Below w.heap.size w w'
def RetRC (w : World) (e2 e1 : TypeId) (zss : List (List Int)) (code : Int) (en : Ending) (w' : World) : Prop := ∃ A n c, en = .returned (.tuple #[.slice A n c, .int .i64 code]) ∧ OR w' w.heap.size e2 e1 A n c zss ∧ Below w.heap.size w w'
end Go.Proofs.YtnmcmologlgccaaGreat
