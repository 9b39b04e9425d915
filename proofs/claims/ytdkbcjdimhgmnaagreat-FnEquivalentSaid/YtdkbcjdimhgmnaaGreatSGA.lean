/- Plain words for memory, over any program: what a slice reads as, and what a call leaves alone. No condition beyond those stated. -/
import Derived.WalkKit
import Derived.WalkSpells
import Derived.WalkLawsBesides
import Derived.Lib.Hide
import Derived.Deep.Slices
import Derived.Deep.Draws
import Derived.Maps.AppendAt
import Derived.Deep.OwnRows
set_option linter.unusedVariables false
set_option linter.unusedSimpArgs false
namespace Go.Proofs.YtdkbcjdimhgmnaaGreat
open Go.RowKit
def I64 (z : Int) : Prop := -9223372036854775808 ≤ z ∧ z ≤ 9223372036854775807
theorem I64.lo {z : Int} (h : I64 z) : -9223372036854775808 ≤ z := h.1
theorem I64.hi {z : Int} (h : I64 z) : z ≤ 9223372036854775807 := h.2
theorem I64.of_wf {z : Int} (h : (Lit.int .i64 z).wf = true) : I64 z := by
  simp [Lit.wf, IntKind.min, IntKind.max, IntKind.signed, IntKind.bits] at h
  unfold I64
  omega
theorem ret_int {k : IntKind} {a b : Int} (h : a = b) : Ending.returned (.int k a) = .returned (.int k b) := by rw [h]
theorem ret_bool {a b : Bool} (h : a = b) : Ending.returned (.bool a) = .returned (.bool b) := by rw [h]
theorem ret_val {a b : Value} (h : a = b) : Ending.returned a = .returned b := by rw [h]
def inB (a lo hi : Int) : Bool := decide (lo ≤ a) && decide (a ≤ hi)
theorem inB_true {a lo hi : Int} (h : inB a lo hi = true) : lo ≤ a ∧ a ≤ hi := by simpa [inB] using h
theorem inB_false {a lo hi : Int} (h : ¬ inB a lo hi = true) : inB a lo hi = false := by simpa using h
theorem inB_mk {a lo hi : Int} (h : lo ≤ a ∧ a ≤ hi) : inB a lo hi = true := by simpa [inB] using h
theorem inB_not {a lo hi : Int} (h : ¬ (lo ≤ a ∧ a ≤ hi)) : inB a lo hi = false := by
  cases hb : inB a lo hi with
  | false => rfl
  | true => exact absurd (inB_true hb) h
theorem below_alloc (w : World) (o : Obj) : Below w.heap.size w (w.alloc o) := (Below.refl _ _).alloc (Nat.le_refl _) _
theorem below_then {a b c : World} (h : Below a.heap.size a b) (k : Below b.heap.size b c) : Below a.heap.size a c := h.trans (k.mono h.size)
theorem below_drewn' (B : Nat) (w : World) (n : Nat) : Below B w (w.drewN n) := ⟨rfl, rfl, rfl, Nat.le_refl _, fun _ _ => rfl⟩
theorem below_drewn (w : World) (n : Nat) : Below w.heap.size w (w.drewN n) := ⟨rfl, rfl, rfl, Nat.le_refl _, fun _ _ => rfl⟩
theorem add_block (a : Addr) (n : Nat) : (a.add n).block = a.block := by unfold Addr.add; split <;> rfl
theorem block_lt {w : World} {a : Addr} {v : Value} (h : w.cell? a = some v) : a.block < w.heap.size := World.block_lt_of_cell? w a h
theorem below_cell {w w' : World} (hb : Below w.heap.size w w') {a : Addr} {v : Value} (h : w.cell? a = some v) : w'.cell? a = some v := (hb.cell (block_lt h)).trans h
def nth (zs : List Int) (k : Nat) : Int := zs.getD k 0
theorem nth_eq {zs : List Int} {k : Nat} {z : Int} (h : zs[k]? = some z) : nth zs k = z := by simp [nth, List.getD, h]
theorem nth_get {zs : List Int} {k : Nat} (h : k < zs.length) : nth zs k = zs[k] := by simp [nth, List.getD, h]
theorem nth_some {zs : List Int} {k : Nat} (h : k < zs.length) : zs[k]? = some (nth zs k) := by rw [nth_get h]; exact List.getElem?_eq_getElem h
structure RS {α : Type} (E : World → Value → α → Prop) (w : World) (A : Option Addr) (n : Nat) (xs : List α) : Prop where
  len : xs.length = n
  at_ : ∀ j x, xs[j]? = some x → ∃ ad u, A = some ad ∧ w.cell? (ad.add j) = some u ∧ E w u x
section
variable {α : Type} {E : World → Value → α → Prop} {w w' : World} {A : Option Addr} {n : Nat} {xs : List α}
def Keeps (E : World → Value → α → Prop) : Prop := ∀ {w w' u x}, Below w.heap.size w w' → E w u x → E w' u x
theorem RS.keep (hE : Keeps E) (h : RS E w A n xs) (hb : Below w.heap.size w w') : RS E w' A n xs :=
  ⟨h.len, fun j x hx => let ⟨ad, u, ha, hc, he⟩ := h.at_ j x hx; ⟨ad, u, ha, below_cell hb hc, hE hb he⟩⟩
theorem RS.nil_ (E : World → Value → α → Prop) (w : World) (A : Option Addr) : RS E w A 0 [] := ⟨rfl, fun j x h => by simp at h⟩
theorem RS.get (h : RS E w A n xs) {k : Nat} (hk : k < n) : ∃ ad u x, A = some ad ∧ xs[k]? = some x ∧ w.cell? (ad.add k) = some u ∧ E w u x := by
  have hl : k < xs.length := by rw [h.len]; exact hk
  obtain ⟨ad, u, ha, hc, he⟩ := h.at_ k xs[k] (List.getElem?_eq_getElem hl)
  exact ⟨ad, u, _, ha, List.getElem?_eq_getElem hl, hc, he⟩
end
def EInt (_ : World) (u : Value) (z : Int) : Prop := u = .int .i64 z ∧ I64 z
theorem keeps_EInt : Keeps EInt := fun _ h => h
def RI (w : World) (A : Option Addr) (n : Nat) (zs : List Int) : Prop := RS EInt w A n zs
def ERow (w : World) (u : Value) (zs : List Int) : Prop := ∃ A n c, u = .slice A n c ∧ n ≤ c ∧ c ≤ 9223372036854775807 ∧ RI w A n zs
theorem RI.keep {w w' : World} {A n zs} (h : RI w A n zs) (hb : Below w.heap.size w w') : RI w' A n zs := RS.keep keeps_EInt h hb
theorem keeps_ERow : Keeps ERow := fun hb ⟨A, n, c, hu, h1, h2, h3⟩ => ⟨A, n, c, hu, h1, h2, h3.keep hb⟩
def RR (w : World) (A : Option Addr) (n : Nat) (zss : List (List Int)) : Prop := RS ERow w A n zss
theorem RR.keep {w w' : World} {A n zss} (h : RR w A n zss) (hb : Below w.heap.size w w') : RR w' A n zss := RS.keep keeps_ERow h hb
theorem RI.len {w A n zs} (h : RI w A n zs) : zs.length = n := RS.len h
theorem RR.len {w A n zs} (h : RR w A n zs) : zs.length = n := RS.len h
theorem RI.get {w : World} {A n zs} (h : RI w A n zs) {k : Nat} (hk : k < n) : ∃ ad, A = some ad ∧ w.cell? (ad.add k) = some (.int .i64 (nth zs k)) ∧ I64 (nth zs k) := by
  obtain ⟨ad, u, x, ha, hx, hc, rfl, hi⟩ := RS.get h hk
  exact ⟨ad, ha, by rw [nth_eq hx]; exact hc, by rw [nth_eq hx]; exact hi⟩
def row (zss : List (List Int)) (k : Nat) : List Int := zss.getD k []
theorem row_eq {zss : List (List Int)} {k : Nat} {z : List Int} (h : zss[k]? = some z) : row zss k = z := by simp [row, List.getD, h]
theorem row_get {zs : List (List Int)} {k : Nat} (h : k < zs.length) : row zs k = zs[k] := by simp [row, List.getD, h]
theorem RR.get {w : World} {A n zss} (h : RR w A n zss) {k : Nat} (hk : k < n) : ∃ ad B m c, A = some ad ∧ w.cell? (ad.add k) = some (.slice B m c) ∧ m ≤ c ∧ c ≤ 9223372036854775807 ∧ RI w B m (row zss k) := by
  obtain ⟨ad, u, x, ha, hx, hc, B, m, c, rfl, h1, h2, h3⟩ := RS.get h hk
  exact ⟨ad, B, m, c, ha, hc, h1, h2, by rw [row_eq hx]; exact h3⟩
theorem cell_new (w : World) (cs : Array Value) (t : TypeId) (j : Nat) : (w.alloc (.cells cs t)).cell? ⟨w.heap.size, j, none⟩ = cs[j]? := cell_of_row (w.alloc (.cells cs t)) _ j cs t (0, 0) (heap_alloc_new w _)
theorem RS.lit {α : Type} {E : World → Value → α → Prop} (f : α → Value) (w : World) (t : TypeId) (l : List α) (hE : ∀ x, x ∈ l → E (w.alloc (.cells (l.map f).toArray t)) (f x) x) :
    RS E (w.alloc (.cells (l.map f).toArray t)) (some ⟨w.heap.size, 0, none⟩) l.length l :=
  ⟨rfl, fun j x hx => ⟨_, f x, rfl, by rw [Addr.add_lit, Nat.zero_add, cell_new]; simp [hx], hE x (List.mem_of_getElem? hx)⟩⟩
def EByte (_ : World) (u : Value) (z : Int) : Prop := u = .int .u8 z ∧ 0 ≤ z ∧ z ≤ 255
theorem keeps_EByte : Keeps EByte := fun _ h => h
def OS (w : World) (B : Nat) (e : TypeId) (size : Nat) (A : Option Addr) (n c : Nat) (xs : List Value) : Prop := w.ownsRow B e size (.slice A n c) n xs
def blk (A : Option Addr) : Option Nat := A.map (·.block)
theorem ownBlock_slice (A : Option Addr) (n c : Nat) : (Value.slice A n c).ownBlock = blk A := by cases A <;> rfl
section
variable {w w' : World} {B : Nat} {e : TypeId} {size : Nat} {A : Option Addr} {n c : Nat} {xs : List Value}
theorem OS.nil_ (w : World) (B : Nat) (e : TypeId) (size : Nat) : OS w B e size none 0 0 [] := World.ownsRow_nil w B e size
theorem OS.len (h : OS w B e size A n c xs) : xs.length = n * size := h.1
theorem OS.cases (h : OS w B e size A n c xs) : (A = none ∧ n = 0 ∧ c = 0 ∧ xs = []) ∨
    ∃ g cur, A = some ⟨g, 0, none⟩ ∧ B ≤ g ∧ w.heap[g]? = some (.cells cur e (0, 0)) ∧ n ≤ c ∧ c ≤ maxLen ∧ cur.size = c * size ∧ cur.toList.take (n * size) = xs := by
  rcases h.2 with ⟨hv, hn⟩ | ⟨g, cap, cur, hv, hb, hg, h1, h2, h3, h4⟩
  · injection hv with ha _ hc
    exact .inl ⟨ha, hn, hc, List.eq_nil_of_length_eq_zero (by rw [h.1, hn, Nat.zero_mul])⟩
  · injection hv with ha _ hc
    subst ha; subst hc
    exact .inr ⟨g, cur, rfl, hb, hg, h1, h2, h3, h4⟩
theorem OS.cap (h : OS w B e size A n c xs) : n ≤ c ∧ c ≤ 9223372036854775807 := by
  rcases h.cases with ⟨_, rfl, rfl, _⟩ | ⟨g, cur, _, _, _, h1, h2, _⟩
  · omega
  · unfold maxLen at h2; omega
theorem OS.lt (h : OS w B e size A n c xs) {k : Nat} (hk : blk A = some k) : B ≤ k ∧ k < w.heap.size := by
  rw [← ownBlock_slice A n c] at hk
  exact World.ownsRow.lt h k hk
theorem OS.form (h : OS w B e size A n c xs) (hn : 0 < n) : ∃ g, A = some ⟨g, 0, none⟩ ∧ B ≤ g ∧ g < w.heap.size := by
  rcases h.cases with ⟨_, rfl, _⟩ | ⟨g, cur, rfl, hb, hg, _⟩
  · omega
  · exact ⟨g, rfl, hb, (Array.getElem?_eq_some_iff.1 hg).1⟩
theorem OS.kept {r : Option Nat} (h : OS w B e size A n c xs) (hg : w.grownBy w' r) (hne : blk A = none ∨ blk A ≠ r) : OS w' B e size A n c xs :=
  World.ownsRow.kept h hg (by rw [ownBlock_slice]; exact hne)
theorem OS.alloc (h : OS w B e size A n c xs) (o : Obj) : OS (w.alloc o) B e size A n c xs := World.ownsRow.alloc h o
theorem grownBy_of_below (hb : Below w.heap.size w w') (r : Option Nat) : w.grownBy w' r := ⟨hb.os, hb.tape, hb.output, hb.size, fun k hk _ => hb.block k hk⟩
theorem OS.below (h : OS w B e size A n c xs) (hb : Below w.heap.size w w') : OS w' B e size A n c xs := h.kept (grownBy_of_below hb none) (by cases A <;> simp [blk])
theorem OS.belowB {D : Nat} (h : OS w B e size A n c xs) (hb : Below D w w') (hD : ∀ k, blk A = some k → k < D) : OS w' B e size A n c xs := by
  refine ⟨h.1, ?_⟩
  rcases h.2 with h2 | ⟨g, cap, cur, hv, h1, hg, r⟩
  · exact .inl h2
  · refine .inr ⟨g, cap, cur, hv, h1, ?_, r⟩
    injection hv with ha
    rw [hb.block g (hD g (by rw [ha]; rfl))]
    exact hg
theorem OS.more {B' : Nat} (h : OS w B e size A n c xs) (hB : B' ≤ B) : OS w B' e size A n c xs := by
  refine ⟨h.1, ?_⟩
  rcases h.2 with h2 | ⟨g, cap, cur, hv, h1, r⟩
  · exact .inl h2
  · exact .inr ⟨g, cap, cur, hv, Nat.le_trans hB h1, r⟩
theorem OS.drewN (h : OS w B e size A n c xs) (k : Nat) : OS (w.drewN k) B e size A n c xs := h
theorem OS.cell (h : OS w B e size A n c xs) {j : Nat} {u : Value} (hu : xs[j]? = some u) : ∃ g, A = some ⟨g, 0, none⟩ ∧ w.cell? ⟨g, j, none⟩ = some u ∧ w.frozen? ⟨g, j, none⟩ = false := by
  rcases h.cases with ⟨_, _, _, rfl⟩ | ⟨g, cur, rfl, hb, hg, _⟩
  · simp at hu
  · have hj : j < n * size := by
      have := (List.getElem?_eq_some_iff.1 hu).1
      rwa [h.len] at this
    exact ⟨g, rfl, (World.ownsRow.cellAt h j hj).trans hu, World.ownsRow.frozenAt h j⟩
theorem OS.cells (h : OS w B e size A n c xs) : ∀ j u, xs[j]? = some u → ∃ ad, A = some ad ∧ w.cell? (ad.add j) = some u := fun j u hu => by
  obtain ⟨g, rfl, hc, _⟩ := h.cell hu
  exact ⟨_, rfl, by rw [Addr.add_lit, Nat.zero_add]; exact hc⟩
theorem OS.set {g : Nat} (h : OS w B e size (some ⟨g, 0, none⟩) n c xs) (j : Nat) (u : Value) : OS (w.setCell ⟨g, j, none⟩ u) B e size (some ⟨g, 0, none⟩) n c (xs.set j u) :=
  (World.ownsRow.stored h j u).1
theorem OS.setFar (h : OS w B e size A n c xs) {p : Addr} (hp : blk A ≠ some p.block) (u : Value) : OS (w.setCell p u) B e size A n c xs :=
  h.kept ⟨rfl, rfl, rfl, by simp [World.setCell], fun k _ hk => Below.heap_setCell _ _ _ _ (fun e => hk (by rw [e]))⟩ (.inr hp)
theorem OS.made (w : World) (B : Nat) (e : TypeId) (z : Value) (n : Nat) (hB : B ≤ w.heap.size) (hn : n ≤ 9223372036854775807) :
    OS (w.alloc (.cells (madeCells #[z] n) e)) B e 1 (some ⟨w.heap.size, 0, none⟩) n n (List.replicate n z) := by
  refine ⟨by simp, .inr ⟨w.heap.size, n, _, rfl, hB, heap_alloc_new w _, Nat.le_refl _, hn, by simp [size_madeCells], ?_⟩⟩
  rw [toList_madeCells_one, Nat.mul_one]
  exact List.take_of_length_le (by simp)
theorem OS.lit (w : World) (B : Nat) (e : TypeId) (size n : Nat) (cs : Array Value) (hB : B ≤ w.heap.size) (hs : cs.size = n * size) (hn : n ≤ 9223372036854775807) :
    OS (w.alloc (.cells cs e)) B e size (some ⟨w.heap.size, 0, none⟩) n n cs.toList :=
  ⟨by simpa using hs, .inr ⟨w.heap.size, n, cs, rfl, hB, heap_alloc_new w _, Nat.le_refl _, hn, hs, List.take_of_length_le (by simp [hs])⟩⟩
end
/-! numbers -/
def ints (zs : List Int) : List Value := zs.map (Value.int .i64)
theorem ints_nth {zs : List Int} {k : Nat} (h : k < zs.length) : (ints zs)[k]? = some (.int .i64 (nth zs k)) := by
  rw [ints, List.getElem?_map, nth_some h]; rfl
theorem ints_oneCell (zs : List Int) : ∀ u ∈ ints zs, u.oneCell' = true := by
  intro u hu
  obtain ⟨z, _, rfl⟩ := List.mem_map.1 hu
  rfl
def All64 (zs : List Int) : Prop := ∀ z ∈ zs, I64 z
theorem All64.nil_ : All64 [] := fun _ h => absurd h (by simp)
theorem All64.app {a b : List Int} (h : All64 a) (k : All64 b) : All64 (a ++ b) := fun z hz => (List.mem_append.1 hz).elim (h z) (k z)
theorem All64.one {z : Int} (h : I64 z) : All64 [z] := fun y hy => by rw [List.mem_singleton.1 hy]; exact h
theorem All64.set {a : List Int} {z : Int} (h : All64 a) (hz : I64 z) (k : Nat) : All64 (a.set k z) := fun y hy => (List.mem_or_eq_of_mem_set hy).elim (h y) (fun e => e ▸ hz)
theorem All64.take {a : List Int} (h : All64 a) (k : Nat) : All64 (a.take k) := fun y hy => h y (List.mem_of_mem_take hy)
theorem All64.nth {a : List Int} (h : All64 a) (k : Nat) : I64 (nth a k) := by
  by_cases hk : k < a.length
  · rw [nth_get hk]; exact h _ (List.getElem_mem hk)
  · have : Go.Proofs.YtdkbcjdimhgmnaaGreat.nth a k = 0 := by simp [Go.Proofs.YtdkbcjdimhgmnaaGreat.nth, List.getD, List.getElem?_eq_none (Nat.le_of_not_lt hk)]
    rw [this]; exact ⟨by omega, by omega⟩
structure OI (w : World) (B : Nat) (e : TypeId) (A : Option Addr) (n c : Nat) (zs : List Int) : Prop where
  os : OS w B e 1 A n c (ints zs)
  all : All64 zs
section
variable {w w' : World} {B : Nat} {e : TypeId} {A : Option Addr} {n c : Nat} {zs : List Int}
theorem OI.nil_ (w : World) (B : Nat) (e : TypeId) : OI w B e none 0 0 [] := ⟨OS.nil_ w B e 1, All64.nil_⟩
theorem OI.len (h : OI w B e A n c zs) : zs.length = n := by have := h.os.len; simpa [ints] using this
theorem OI.kept {r : Option Nat} (h : OI w B e A n c zs) (hg : w.grownBy w' r) (hne : blk A = none ∨ blk A ≠ r) : OI w' B e A n c zs := ⟨h.os.kept hg hne, h.all⟩
theorem OI.below (h : OI w B e A n c zs) (hb : Below w.heap.size w w') : OI w' B e A n c zs := ⟨h.os.below hb, h.all⟩
theorem OI.belowB {D : Nat} (h : OI w B e A n c zs) (hb : Below D w w') (hD : ∀ k, blk A = some k → k < D) : OI w' B e A n c zs := ⟨h.os.belowB hb hD, h.all⟩
theorem OI.more {B' : Nat} (h : OI w B e A n c zs) (hB : B' ≤ B) : OI w B' e A n c zs := ⟨h.os.more hB, h.all⟩
theorem OI.drewN (h : OI w B e A n c zs) (k : Nat) : OI (w.drewN k) B e A n c zs := ⟨h.os.drewN k, h.all⟩
theorem OI.reads (h : OI w B e A n c zs) : RI w A n zs := by
  refine ⟨h.len, fun j x hx => ?_⟩
  have hu : (ints zs)[j]? = some (.int .i64 x) := by simp [ints, hx]
  obtain ⟨ad, ha, hc⟩ := h.os.cells j _ hu
  exact ⟨ad, _, ha, hc, rfl, h.all x (List.mem_of_getElem? hx)⟩
theorem OI.cell (h : OI w B e A n c zs) {k : Nat} (hk : k < n) : ∃ g, A = some ⟨g, 0, none⟩ ∧ w.cell? ⟨g, k, none⟩ = some (.int .i64 (nth zs k)) ∧ w.frozen? ⟨g, k, none⟩ = false ∧ I64 (nth zs k) := by
  obtain ⟨g, ha, hc, hf⟩ := h.os.cell (ints_nth (by rw [h.len]; exact hk))
  exact ⟨g, ha, hc, hf, h.all.nth k⟩
theorem OI.set {g : Nat} (h : OI w B e (some ⟨g, 0, none⟩) n c zs) (j : Nat) {u : Int} (hu : I64 u) : OI (w.setCell ⟨g, j, none⟩ (.int .i64 u)) B e (some ⟨g, 0, none⟩) n c (zs.set j u) :=
  ⟨by have := h.os.set j (.int .i64 u); rwa [show (ints zs).set j (.int .i64 u) = ints (zs.set j u) from by simp [ints, List.map_set]] at this, h.all.set hu j⟩
theorem OI.made (w : World) (B : Nat) (e : TypeId) (n : Nat) (hB : B ≤ w.heap.size) (hn : n ≤ 9223372036854775807) :
    OI (w.alloc (.cells (madeCells #[.int .i64 0] n) e)) B e (some ⟨w.heap.size, 0, none⟩) n n (List.replicate n 0) :=
  ⟨by have := OS.made w B e (.int .i64 0) n hB hn; rwa [show List.replicate n (Value.int .i64 0) = ints (List.replicate n 0) from by simp [ints]] at this,
   fun z hz => by rw [List.eq_of_mem_replicate hz]; exact ⟨by omega, by omega⟩⟩
end
theorem OI.snoc {w : World} {B : Nat} {e : TypeId} {A : Option Addr} {n c : Nat} {zs : List Int} {z : Int} (h : OS w B e 1 A n c (ints zs ++ [.int .i64 z])) (ha : All64 zs) (hz : I64 z) : OI w B e A n c (zs ++ [z]) :=
  ⟨by rwa [show ints zs ++ [Value.int .i64 z] = ints (zs ++ [z]) from by simp [ints]] at h, ha.app (All64.one hz)⟩
theorem OI.cat {w : World} {B : Nat} {e : TypeId} {A : Option Addr} {n c : Nat} {zs ys : List Int} (h : OS w B e 1 A n c (ints zs ++ ints ys)) (ha : All64 zs) (hz : All64 ys) : OI w B e A n c (zs ++ ys) :=
  ⟨by rwa [show ints zs ++ ints ys = ints (zs ++ ys) from by simp [ints]] at h, ha.app hz⟩
theorem below_own {B : Nat} {a w w' : World} {A : Option Addr} (h : Below B a w) (hg : w.grownBy w' (blk A)) (hB : B ≤ w.heap.size) (hr : ∀ k, blk A = some k → B ≤ k) : Below B a w' := h.grown hg hB hr
theorem OI.lit (w : World) (B : Nat) (e : TypeId) (zs : List Int) (hB : B ≤ w.heap.size) (hn : zs.length ≤ 9223372036854775807) (h : All64 zs) :
    OI (w.alloc (.cells (ints zs).toArray e)) B e (some ⟨w.heap.size, 0, none⟩) zs.length zs.length zs :=
  ⟨OS.lit w B e 1 zs.length (ints zs).toArray hB (by simp [ints]) hn, h⟩
/-! append -/
section
variable {P : Program}
theorem wpList_app (w : World) {ops : Array Oper} {rest : List Oper} {o : Oper} {a : Act} {Q : Exit → Act → World → Prop} (hgd : o.guard = none) (s x : Operand) (t : TypeId)
    (ho : o.op = .call { callee := .builtin .append, args := #[s, x], argTypes := #[t, t] }) (e : TypeId) (z : Value) (size bytes : Nat) (ht : P.underlying t = some (.slice e))
    (hinfo : (P.info? e).map (fun i => (i.zero, i.size, i.bytes)) = some (some z, size, bytes)) (hzs : z.cells.size = size) (hsz : 0 < size) (hby : bytes ≤ 64)
    (B : Nat) (A : Option Addr) (n c : Nat) (xs : List Value) (hs : a.eval s = .slice A n c) (hown : OS w B e size A n c xs)
    (A2 : Option Addr) (m c2 : Nat) (news : List Value) (hx : a.eval x = .slice A2 m c2) (hl : news.length = m * size) (hnews : ∀ j u, news[j]? = some u → ∃ ad, A2 = some ad ∧ w.cell? (ad.add j) = some u)
    (h1 : ∀ u ∈ news, u.oneCell' = true) (hbig : n + m ≤ 2199023255552) (hB : B ≤ w.heap.size)
    (h : ∀ A' c' w', OS w' B e size A' (n + m) c' (xs ++ news) → w.grownBy w' (blk A) → (blk A' = blk A ∨ blk A' = some w.heap.size) → wpList P ops Q rest (a.put o.dst (.slice A' (n + m) c')) w') :
    wpList P ops Q (o :: rest) a w := by
  obtain ⟨i, hi, hz, hsize, hbytes⟩ := info_parts hinfo
  have hb47 : (n + m) * bytes ≤ 140737488355328 := Nat.le_trans (Nat.mul_le_mul hbig hby) (by omega)
  have hm63 : n + m ≤ maxLen := by unfold maxLen; omega
  have key : ∃ v' w', (Builtin.append_ #[t, t] o.type #[.slice A n c, .slice A2 m c2]).run P w = .ok v' w' ∧ w'.ownsRow B e size v' (n + m) (xs ++ news) ∧ w.grownBy w' (Value.slice A n c).ownBlock ∧
      (v'.ownBlock = (Value.slice A n c).ownBlock ∨ v'.ownBlock = some w.heap.size) := by
    rcases A2 with _ | ad
    · have hnil : news = [] := by
        cases hn : news with
        | nil => rfl
        | cons u r =>
          obtain ⟨ad, ha, _⟩ := hnews 0 u (by rw [hn]; rfl)
          cases ha
      subst hnil
      have hm0 : m = 0 := by
        rcases Nat.eq_zero_or_pos m with h0 | h0
        · exact h0
        · have : 0 < m * size := Nat.mul_pos h0 hsz
          simp at hl; omega
      subst hm0
      refine ⟨.slice A n c, w, ?_, by rw [Nat.add_zero, List.append_nil]; exact hown, World.grownBy.refl w _, .inl rfl⟩
      rcases hown.cases with ⟨rfl, rfl, rfl, _⟩ | ⟨g, cur, rfl, _, _, hnc, _⟩
      · simp [Builtin.append_, run_underlying ht, sizeOf, typeInfo, hi, Builtin.lenOf, Builtin.firstCells]
      · simp [Builtin.append_, run_underlying ht, sizeOf, typeInfo, hi, Builtin.lenOf, Builtin.firstCells, hnc, storeCells]
    · obtain ⟨v', w', hrun, h2, h3, _, h5⟩ := run_append_own_at (P := P) w B t o.type e i z size bytes ht hi hz hsize hbytes hzs hsz _ n xs hown ad m c2 news hl
        (fun j u hu => by obtain ⟨ad', ha, hc⟩ := hnews j u hu; injection ha with ha; subst ha; exact hc) h1 hm63 hb47 hB
      exact ⟨v', w', hrun, h2, h3, h5⟩
  obtain ⟨v', w', hrun, h2, h3, h4⟩ := key
  obtain ⟨A', c', hv⟩ : ∃ A' c', v' = .slice A' (n + m) c' := by
    rcases h2.2 with ⟨hv, hn⟩ | ⟨g, cap, cur, hv, _⟩
    · exact ⟨none, 0, by rw [hv, hn]⟩
    · exact ⟨_, _, hv⟩
  subst hv
  rw [ownBlock_slice, ownBlock_slice] at h4
  rw [ownBlock_slice] at h3
  refine wpList_plain hgd fun K hK => ?_
  unfold Oper.wp execOp
  simp only [ho, resolve, invoke, builtin, Sem.run_bind, Sem.run_pure, Result.andThen_ok, List.map_toArray, List.map_cons, List.map_nil, hs, hx, hrun]
  exact hK _ _ (h A' c' w' h2 h3 h4)
theorem wpList_app1 (w : World) {ops : Array Oper} {rest : List Oper} {o : Oper} {a : Act} {Q : Exit → Act → World → Prop} (hgd : o.guard = none) (s x : Operand) (t : TypeId)
    (ho : o.op = .call { callee := .builtin .append, args := #[s, x], argTypes := #[t, t] }) (e : TypeId) (z : Value) (bytes : Nat) (ht : P.underlying t = some (.slice e))
    (hinfo : (P.info? e).map (fun i => (i.zero, i.size, i.bytes)) = some (some z, 1, bytes)) (hzs : z.cells.size = 1) (hby : bytes ≤ 64)
    (B : Nat) (A : Option Addr) (n c : Nat) (xs : List Value) (hs : a.eval s = .slice A n c) (hown : OS w B e 1 A n c xs)
    (u : Value) (hx : a.eval x = .slice (some ⟨w.heap.size, 0, none⟩) 1 1) (h1 : u.oneCell' = true) (hbig : n + 1 ≤ 2199023255552) (hB : B ≤ w.heap.size)
    (h : ∀ A' c' w', OS w' B e 1 A' (n + 1) c' (xs ++ [u]) → w.grownBy w' (blk A) → (blk A' = blk A ∨ ∃ k, blk A' = some k ∧ w.heap.size ≤ k) → wpList P ops Q rest (a.put o.dst (.slice A' (n + 1) c')) w') :
    wpList P ops Q (o :: rest) a (w.alloc (.cells #[u] e)) :=
  wpList_app (w.alloc (.cells #[u] e)) hgd s x t ho e z 1 bytes ht hinfo hzs (by omega) hby B A n c xs hs (hown.alloc _) _ 1 1 [u] hx rfl
    (fun j v hv => ⟨_, rfl, cell_one_new w u e j v hv⟩) (fun v hv => by rw [List.mem_singleton.1 hv]; exact h1) hbig (by simp; omega)
    (fun A' c' w' k1 k2 k3 => h A' c' w' k1 ((World.grownBy_alloc w _ _).trans k2) (k3.elim .inl fun e => .inr ⟨_, e, by simp⟩))
theorem wpList_app1' (w : World) {ops : Array Oper} {rest : List Oper} {o : Oper} {a : Act} {Q : Exit → Act → World → Prop} (hgd : o.guard = none) (s x : Operand) (t : TypeId)
    (ho : o.op = .call { callee := .builtin .append, args := #[s, x], argTypes := #[t, t] }) (e : TypeId) (z : Value) (bytes : Nat) (ht : P.underlying t = some (.slice e))
    (hinfo : (P.info? e).map (fun i => (i.zero, i.size, i.bytes)) = some (some z, 1, bytes)) (hzs : z.cells.size = 1) (hby : bytes ≤ 64)
    (B : Nat) (A : Option Addr) (n c : Nat) (xs : List Value) (hs : a.eval s = .slice A n c) (hown : OS w B e 1 A n c xs)
    (u : Value) (g : Nat) (hx : a.eval x = .slice (some ⟨g, 0, none⟩) 1 1) (hgx : g = w.heap.size) (h1 : u.oneCell' = true) (hbig : n + 1 ≤ 2199023255552) (hB : B ≤ w.heap.size)
    (h : ∀ A' c' w', OS w' B e 1 A' (n + 1) c' (xs ++ [u]) → w.grownBy w' (blk A) → (blk A' = blk A ∨ ∃ k, blk A' = some k ∧ w.heap.size ≤ k) → wpList P ops Q rest (a.put o.dst (.slice A' (n + 1) c')) w') :
    wpList P ops Q (o :: rest) a (w.alloc (.cells #[u] e)) :=
  wpList_app1 w hgd s x t ho e z bytes ht hinfo hzs hby B A n c xs hs hown u (by rw [hx, hgx]) h1 hbig hB h
end
/-! what a call hands back -/
def RetI (w : World) (e : TypeId) (zs : List Int) (en : Ending) (w' : World) : Prop := ∃ A n c, en = .returned (.slice A n c) ∧ OI w' w.heap.size e A n c zs ∧ Below w.heap.size w w'
def Blk (w : World) (g : Nat) (t : TypeId) (cs : Array Value) : Prop := w.heap[g]? = some (.cells cs t (0, 0))
section
variable {w w' : World} {g : Nat} {t : TypeId} {cs : Array Value}
theorem Blk.lt (h : Blk w g t cs) : g < w.heap.size := (Array.getElem?_eq_some_iff.1 h).1
theorem Blk.cell (h : Blk w g t cs) (i : Nat) : w.cell? ⟨g, i, none⟩ = cs[i]? := cell_of_row w g i cs t (0, 0) h
theorem Blk.frozen (h : Blk w g t cs) (i : Nat) : w.frozen? ⟨g, i, none⟩ = false := by
  unfold Blk at h
  simp [World.frozen?, h]
theorem Blk.new (w : World) (t : TypeId) (cs : Array Value) : Blk (w.alloc (.cells cs t)) w.heap.size t cs := heap_alloc_new w _
theorem Blk.alloc (h : Blk w g t cs) (o : Obj) : Blk (w.alloc o) g t cs := (Below.heap_alloc w o g h.lt).trans h
theorem Blk.below {B : Nat} (h : Blk w g t cs) (hb : Below B w w') (hg : g < B) : Blk w' g t cs := (hb.block g hg).trans h
theorem Blk.after (h : Blk w g t cs) (hb : Below w.heap.size w w') : Blk w' g t cs := h.below hb h.lt
theorem Blk.grown {row : Option Nat} (h : Blk w g t cs) (hb : w.grownBy w' row) (hg : some g ≠ row) : Blk w' g t cs := (hb.block g h.lt hg).trans h
theorem Blk.far (h : Blk w g t cs) {p : Addr} (hp : g ≠ p.block) (u : Value) : Blk (w.setCell p u) g t cs := (Below.heap_setCell w p u g hp).trans h
theorem Blk.set_ (h : Blk w g t cs) (i : Nat) (u : Value) : Blk (w.setCell ⟨g, i, none⟩ u) g t (cs.setIfInBounds i u) := by
  unfold Blk at h ⊢
  simp [World.setCell, Array.getElem?_modify, h]
theorem Blk.cells2 {x y : Value} (h : Blk w g t #[x, y]) : w.cell? ⟨g, 0, none⟩ = some x ∧ w.cell? ⟨g, 1, none⟩ = some y := ⟨h.cell 0, h.cell 1⟩
theorem Blk.cells3 {x y z : Value} (h : Blk w g t #[x, y, z]) : w.cell? ⟨g, 0, none⟩ = some x ∧ w.cell? ⟨g, 1, none⟩ = some y ∧ w.cell? ⟨g, 2, none⟩ = some z := ⟨h.cell 0, h.cell 1, h.cell 2⟩
end
abbrev Sl := Option Addr × Nat × Nat
def slv (v : Sl) : Value := .slice v.1 v.2.1 v.2.2
theorem slv_oneCell (vs : List Sl) : ∀ u ∈ vs.map slv, u.oneCell' = true := by
  intro u hu
  obtain ⟨z, _, rfl⟩ := List.mem_map.1 hu
  rfl
def apart (a b : Sl) : Prop := blk a.1 = none ∨ blk a.1 ≠ blk b.1
theorem apart.symm {a b : Sl} (h : apart a b) : apart b a := by
  unfold apart at *
  rcases h with h | h
  · by_cases hb : blk b.1 = none
    · exact .inl hb
    · exact .inr (by rw [h]; exact hb)
  · exact .inr h.symm
structure ORv (w : World) (B : Nat) (e2 e1 : TypeId) (A : Option Addr) (n c : Nat) (vs : List Sl) (zss : List (List Int)) : Prop where
  os : OS w B e2 1 A n c (vs.map slv)
  len : vs.length = zss.length
  rows : ∀ (j : Nat) (v : Sl) (z : List Int), vs[j]? = some v → zss[j]? = some z → OI w B e1 v.1 v.2.1 v.2.2 z
  sep : ∀ (i j : Nat) (v u : Sl), i ≠ j → vs[i]? = some v → vs[j]? = some u → apart v u
  ne : e2 ≠ e1
def OR (w : World) (B : Nat) (e2 e1 : TypeId) (A : Option Addr) (n c : Nat) (zss : List (List Int)) : Prop := ∃ vs, ORv w B e2 e1 A n c vs zss
section
variable {w w' : World} {B : Nat} {e2 e1 : TypeId} {A : Option Addr} {n c : Nat} {vs : List Sl} {zss : List (List Int)}
theorem OS.typed {A' : Option Addr} {n' c' : Nat} {xs ys : List Value} {size size' : Nat} (h : OS w B e2 size A n c xs) (k : OS w B e1 size' A' n' c' ys) (hne : e2 ≠ e1) : blk A = none ∨ blk A ≠ blk A' := by
  rcases h.cases with ⟨rfl, _⟩ | ⟨g, cur, rfl, _, hg, _⟩
  · exact .inl rfl
  · rcases k.cases with ⟨rfl, _⟩ | ⟨g', cur', rfl, _, hg', _⟩
    · exact .inr (by simp [blk])
    · refine .inr fun e => ?_
      have : g = g' := by simpa [blk] using e
      subst this
      rw [hg] at hg'
      injection hg' with hg'
      injection hg' with _ ht
      exact hne ht
theorem ORv.slen (h : ORv w B e2 e1 A n c vs zss) : zss.length = n := by have := h.os.len; have := h.len; simp at *; omega
theorem OR.len (h : OR w B e2 e1 A n c zss) : zss.length = n := by obtain ⟨vs, h⟩ := h; exact h.slen
theorem OR.nil_ (w : World) (B : Nat) {e2 e1 : TypeId} (hne : e2 ≠ e1) : OR w B e2 e1 none 0 0 [] :=
  ⟨[], OS.nil_ w B e2 1, rfl, fun _ _ _ h => by simp at h, fun _ _ _ _ _ h => by simp at h, hne⟩
theorem ORv.outer_row (h : ORv w B e2 e1 A n c vs zss) {j : Nat} {v : Sl} (hv : vs[j]? = some v) : blk v.1 = none ∨ blk v.1 ≠ blk A := by
  have hj : j < zss.length := by rw [← h.len]; exact (List.getElem?_eq_some_iff.1 hv).1
  exact OS.typed (h.rows j v _ hv (List.getElem?_eq_getElem hj)).os h.os (fun e => h.ne e.symm)
theorem ORv.kept {r : Option Nat} (h : ORv w B e2 e1 A n c vs zss) (hg : w.grownBy w' r) (h0 : blk A = none ∨ blk A ≠ r) (hr : ∀ (j : Nat) (v : Sl), vs[j]? = some v → blk v.1 = none ∨ blk v.1 ≠ r) : ORv w' B e2 e1 A n c vs zss :=
  ⟨h.os.kept hg h0, h.len, fun j v z hv hz => (h.rows j v z hv hz).kept hg (hr j v hv), h.sep, h.ne⟩
theorem OR.below (h : OR w B e2 e1 A n c zss) (hb : Below w.heap.size w w') : OR w' B e2 e1 A n c zss := by
  obtain ⟨vs, h⟩ := h
  exact ⟨vs, h.kept (r := none) (grownBy_of_below hb none) (by cases A <;> simp [blk]) (fun j v _ => by obtain ⟨a, b, c⟩ := v; cases a <;> simp [blk])⟩
theorem OR.more {B' : Nat} (h : OR w B e2 e1 A n c zss) (hB : B' ≤ B) : OR w B' e2 e1 A n c zss := by
  obtain ⟨vs, h⟩ := h
  exact ⟨vs, h.os.more hB, h.len, fun j v z hv hz => (h.rows j v z hv hz).more hB, h.sep, h.ne⟩
theorem OR.reads (h : OR w B e2 e1 A n c zss) : RR w A n zss := by
  refine ⟨h.len, fun j z hz => ?_⟩
  obtain ⟨vs, h⟩ := h
  have hj : j < vs.length := by rw [h.len]; exact (List.getElem?_eq_some_iff.1 hz).1
  have hv := List.getElem?_eq_getElem hj
  obtain ⟨ad, ha, hc⟩ := h.os.cells j (slv vs[j]) (by rw [List.getElem?_map, hv]; rfl)
  have hr := h.rows j _ z hv hz
  exact ⟨ad, _, ha, hc, _, _, _, rfl, hr.os.cap.1, hr.os.cap.2, hr.reads⟩
theorem OS.setLow {size : Nat} {xs : List Value} (h : OS w B e2 size A n c xs) {p : Addr} (hp : p.block < B) (u : Value) : OS (w.setCell p u) B e2 size A n c xs :=
  h.setFar (p := p) (fun e => by have := (h.lt e).1; omega) u
theorem OI.setLow {zs : List Int} (h : OI w B e1 A n c zs) {p : Addr} (hp : p.block < B) (u : Value) : OI (w.setCell p u) B e1 A n c zs := ⟨h.os.setLow hp u, h.all⟩
theorem ORv.get (h : ORv w B e2 e1 A n c vs zss) {k : Nat} (hk : k < n) : ∃ g v, A = some ⟨g, 0, none⟩ ∧ vs[k]? = some v ∧ w.cell? ⟨g, k, none⟩ = some (.slice v.1 v.2.1 v.2.2) ∧ w.frozen? ⟨g, k, none⟩ = false ∧ OI w B e1 v.1 v.2.1 v.2.2 (row zss k) := by
  have hz : k < zss.length := by rw [h.slen]; exact hk
  have hj : k < vs.length := by rw [h.len]; exact hz
  have hv := List.getElem?_eq_getElem hj
  obtain ⟨g, ha, hc, hf⟩ := h.os.cell (j := k) (u := slv vs[k]) (by rw [List.getElem?_map, hv]; rfl)
  exact ⟨g, vs[k], ha, hv, hc, hf, by rw [row_get hz]; exact h.rows k _ _ hv (List.getElem?_eq_getElem hz)⟩
theorem OR.made (w : World) (B : Nat) {e2 e1 : TypeId} (hne : e2 ≠ e1) (n : Nat) (hB : B ≤ w.heap.size) (hn : n ≤ 9223372036854775807) :
    OR (w.alloc (.cells (madeCells #[.slice none 0 0] n) e2)) B e2 e1 (some ⟨w.heap.size, 0, none⟩) n n (List.replicate n []) := by
  refine ⟨List.replicate n (none, 0, 0), ?_, by simp, fun j v z hv hz => ?_, fun i j v u _ hv _ => ?_, hne⟩
  · have := OS.made w B e2 (.slice none 0 0) n hB hn
    rwa [show List.replicate n (Value.slice none 0 0) = (List.replicate n ((none, 0, 0) : Sl)).map slv from by simp [slv]] at this
  · have e := List.eq_of_mem_replicate (List.mem_of_getElem? hv)
    have e' := List.eq_of_mem_replicate (List.mem_of_getElem? hz)
    subst e; subst e'
    exact OI.nil_ _ _ _
  · have e := List.eq_of_mem_replicate (List.mem_of_getElem? hv)
    subst e
    exact .inl rfl
theorem ORv.upd {g : Nat} (h : ORv w B e2 e1 (some ⟨g, 0, none⟩) n c vs zss) {k : Nat} {v v' : Sl} {z : List Int} (hv : vs[k]? = some v) (hg : w.grownBy w' (blk v.1))
    (ho : OI w' B e1 v'.1 v'.2.1 v'.2.2 z) (hn : blk v'.1 = none ∨ blk v'.1 = blk v.1 ∨ ∃ b, blk v'.1 = some b ∧ w.heap.size ≤ b) :
    OR (w'.setCell ⟨g, k, none⟩ (.slice v'.1 v'.2.1 v'.2.2)) B e2 e1 (some ⟨g, 0, none⟩) n c (zss.set k z) := by
  have hou := h.outer_row hv
  have hou' : blk v.1 ≠ some g := by
    rcases hou with h1 | h1
    · rw [h1]; simp
    · exact h1
  have hos : OS w' B e2 1 (some ⟨g, 0, none⟩) n c (vs.map slv) := h.os.kept hg (.inr (fun e => hou' e.symm))
  have hgl := (h.os.lt (k := g) rfl).2
  have hfar : ∀ u : Sl, blk u.1 ≠ some g → ∀ z, OI w' B e1 u.1 u.2.1 u.2.2 z → OI (w'.setCell ⟨g, k, none⟩ (.slice v'.1 v'.2.1 v'.2.2)) B e1 u.1 u.2.1 u.2.2 z :=
    fun u hu z hz => ⟨hz.os.setFar (p := ⟨g, k, none⟩) hu _, hz.all⟩
  have hv'g : blk v'.1 ≠ some g := by
    rcases hn with h1 | h1 | ⟨b, h1, h2⟩
    · rw [h1]; simp
    · rw [h1]; exact hou'
    · rw [h1]; simp; omega
  have hlt : ∀ (j : Nat) (u : Sl) (b : Nat), vs[j]? = some u → blk u.1 = some b → b < w.heap.size := fun j u b hu hb => by
    have hj : j < zss.length := by rw [← h.len]; exact (List.getElem?_eq_some_iff.1 hu).1
    exact ((h.rows j u _ hu (List.getElem?_eq_getElem hj)).os.lt hb).2
  have hap : ∀ (j : Nat) (u : Sl), j ≠ k → vs[j]? = some u → apart u v' := fun j u hjk hu => by
    have h0 := h.sep j k u v hjk hu hv
    unfold apart at *
    rcases h0 with h0 | h0
    · exact .inl h0
    · rcases hn with h1 | h1 | ⟨b, h1, h2⟩
      · by_cases hb : blk u.1 = none
        · exact .inl hb
        · exact .inr (by rw [h1]; exact hb)
      · exact .inr (by rw [h1]; exact h0)
      · refine .inr fun e => ?_
        rw [h1] at e
        have := hlt j u b hu e
        omega
  refine ⟨vs.set k v', ?_, by simpa using h.len, fun j u y hu hy => ?_, fun i j u x hij hu hx => ?_, h.ne⟩
  · have := hos.set k (.slice v'.1 v'.2.1 v'.2.2)
    rwa [show (vs.map slv).set k (.slice v'.1 v'.2.1 v'.2.2) = (vs.set k v').map slv from by simp [List.map_set, slv]] at this
  · rw [List.getElem?_set] at hu hy
    by_cases e : k = j
    · subst e
      have hk1 : k < vs.length := (List.getElem?_eq_some_iff.1 hv).1
      have hk2 : k < zss.length := by rw [← h.len]; exact hk1
      simp [hk1] at hu; simp [hk2] at hy
      subst hu; subst hy
      exact hfar _ hv'g _ ho
    · simp [e] at hu hy
      have hr := h.rows j u y hu hy
      refine hfar u ?_ y (hr.kept hg ?_)
      · have := h.outer_row hu
        rcases this with h1 | h1
        · rw [h1]; simp
        · exact h1
      · exact h.sep j k u v (fun e' => e e'.symm) hu hv
  · rw [List.getElem?_set] at hu hx
    by_cases e : k = i
    · by_cases e' : k = j
      · exact absurd (e.symm.trans e') hij
      · have hk1 : k < vs.length := (List.getElem?_eq_some_iff.1 hv).1
        subst e
        simp [hk1] at hu; simp [e'] at hx
        subst hu
        exact (hap j x (fun h => e' h.symm) hx).symm
    · by_cases e' : k = j
      · have hk1 : k < vs.length := (List.getElem?_eq_some_iff.1 hv).1
        subst e'
        simp [hk1] at hx; simp [e] at hu
        subst hx
        exact hap i u (fun h => e h.symm) hu
      · simp [e] at hu; simp [e'] at hx
        exact h.sep i j u x hij hu hx
theorem ORv.wrote (h : ORv w B e2 e1 A n c vs zss) {k : Nat} {v : Sl} {z : List Int} (hv : vs[k]? = some v) (hg : w.grownBy w' (blk v.1)) (ho : OI w' B e1 v.1 v.2.1 v.2.2 z) :
    ORv w' B e2 e1 A n c vs (zss.set k z) := by
  have hou := h.outer_row hv
  refine ⟨h.os.kept hg ?_, by simpa using h.len, fun j u y hu hy => ?_, h.sep, h.ne⟩
  · rcases hou with h1 | h1
    · by_cases ha : blk A = none
      · exact .inl ha
      · exact .inr (by rw [h1]; exact ha)
    · exact .inr fun e => h1 e.symm
  · rw [List.getElem?_set] at hy
    by_cases e : k = j
    · subst e
      have hk1 : k < vs.length := (List.getElem?_eq_some_iff.1 hv).1
      have hk2 : k < zss.length := by rw [← h.len]; exact hk1
      simp [hk2] at hy
      subst hy
      rw [hv] at hu
      injection hu with hu
      subst hu
      exact ho
    · simp [e] at hy
      exact (h.rows j u y hu hy).kept hg (h.sep j k u v (fun e' => e e'.symm) hu hv)
theorem ORv.push (h : ORv w B e2 e1 A n c vs zss) {v : Sl} {z : List Int} (ho : OI w B e1 v.1 v.2.1 v.2.2 z) (hap : ∀ (j : Nat) (u : Sl), vs[j]? = some u → apart u v)
    {A' : Option Addr} {c' : Nat} (hg : w.grownBy w' (blk A)) (hos : OS w' B e2 1 A' (n + 1) c' (vs.map slv ++ [.slice v.1 v.2.1 v.2.2])) : OR w' B e2 e1 A' (n + 1) c' (zss ++ [z]) := by
  have hvA : blk v.1 = none ∨ blk v.1 ≠ blk A := OS.typed ho.os h.os (fun e => h.ne e.symm)
  refine ⟨vs ++ [v], by simpa [slv] using hos, by simp [h.len], fun j u y hu hy => ?_, fun i j u x hij hu hx => ?_, h.ne⟩
  · rw [List.getElem?_append] at hu hy
    rw [h.len] at hu
    split at hu
    · rename_i hj
      rw [if_pos hj] at hy
      exact (h.rows j u y hu hy).kept hg (h.outer_row hu)
    · rename_i hj
      rw [if_neg hj] at hy
      have e : j - zss.length = 0 := by
        have := (List.getElem?_eq_some_iff.1 hu).1
        simp at this; omega
      rw [e] at hu hy
      simp at hu hy
      subst hu; subst hy
      exact ho.kept hg hvA
  · rw [List.getElem?_append] at hu hx
    split at hu
    · split at hx
      · exact h.sep i j u x hij hu hx
      · have : x = v := by
          have := List.mem_of_getElem? hx
          simpa using this
        subst this
        exact hap i u hu
    · have hu' : u = v := by
        have := List.mem_of_getElem? hu
        simpa using this
      subst hu'
      split at hx
      · exact (hap j x hx).symm
      · rename_i h1 h2
        have a1 := (List.getElem?_eq_some_iff.1 hu).1
        have a2 := (List.getElem?_eq_some_iff.1 hx).1
        simp at a1 a2
        omega
theorem ORv.apart_new (h : ORv w B e2 e1 A n c vs zss) {v : Sl} (hn : ∀ b, blk v.1 = some b → w.heap.size ≤ b) : ∀ (j : Nat) (u : Sl), vs[j]? = some u → apart u v := fun j u hu => by
  unfold apart
  cases hb : blk u.1 with
  | none => exact .inl rfl
  | some b =>
    refine .inr fun e => ?_
    have hj : j < zss.length := by rw [← h.len]; exact (List.getElem?_eq_some_iff.1 hu).1
    have h1 := ((h.rows j u _ hu (List.getElem?_eq_getElem hj)).os.lt hb).2
    have h2 := hn b e.symm
    omega
end
def RetR (w : World) (e2 e1 : TypeId) (zss : List (List Int)) (en : Ending) (w' : World) : Prop := ∃ A n c, en = .returned (.slice A n c) ∧ OR w' w.heap.size e2 e1 A n c zss ∧ Below w.heap.size w w'
section
variable {w w' w'' : World} {B D B' D' : Nat}
end
section
variable {w w' : World} {B D : Nat} {e2 e1 : TypeId} {A : Option Addr} {n c : Nat} {vs : List Sl} {zss : List (List Int)}
theorem ORv.row_lt (h : ORv w B e2 e1 A n c vs zss) {j : Nat} {u : Sl} {b : Nat} (hu : vs[j]? = some u) (hb : blk u.1 = some b) : B ≤ b ∧ b < w.heap.size := by
  have hj : j < zss.length := by rw [← h.len]; exact (List.getElem?_eq_some_iff.1 hu).1
  exact (h.rows j u _ hu (List.getElem?_eq_getElem hj)).os.lt hb
theorem ORv.below (h : ORv w B e2 e1 A n c vs zss) (hb : Below w.heap.size w w') : ORv w' B e2 e1 A n c vs zss :=
  h.kept (r := none) (grownBy_of_below hb none) (by cases A <;> simp [blk]) (fun j v _ => by obtain ⟨a, b, c⟩ := v; cases a <;> simp [blk])
end
/-! marks over rows -/
def cells (zss : List (List Int)) : Nat := (zss.map List.length).sum
theorem cells_app (a b : List (List Int)) : cells (a ++ b) = cells a + cells b := by simp [cells]
theorem cells_one (z : List Int) : cells [z] = z.length := by simp [cells]
theorem cells_take (zss : List (List Int)) {j : Nat} (h : j < zss.length) : cells (zss.take (j + 1)) = cells (zss.take j) + (row zss j).length := by
  rw [List.take_succ_eq_append_getElem h, row_get h, cells_app, cells_one]
theorem cells_le (zss : List (List Int)) (j : Nat) : cells (zss.take j) ≤ cells zss := by
  have h := cells_app (zss.take j) (zss.drop j)
  rw [List.take_append_drop] at h
  omega
end Go.Proofs.YtdkbcjdimhgmnaaGreat
namespace Go.Proofs.YtdkbcjdimhgmnaaGreat
noncomputable def tB (p : Prop) : Bool := @decide p (Classical.propDecidable p)
theorem tB_yes {p : Prop} (h : p) : tB p = true := by unfold tB; exact @decide_eq_true p (Classical.propDecidable p) h
theorem tB_no {p : Prop} (h : ¬ p) : tB p = false := by unfold tB; exact @decide_eq_false p (Classical.propDecidable p) h
theorem tB_true {p : Prop} : tB p = true ↔ p := by unfold tB; exact @decide_eq_true_iff p (Classical.propDecidable p)
theorem tB_congr {p q : Prop} (h : p ↔ q) : tB p = tB q := by
  by_cases hp : p
  · rw [tB_yes hp, tB_yes (h.1 hp)]
  · rw [tB_no hp, tB_no (fun hq => hp (h.2 hq))]
/-! matrices with two signs -/
/-! lists in order -/
def cmpL : List Int → List Int → Int
  | [], [] => 0
  | [], _ :: _ => -1
  | _ :: _, [] => 1
  | x :: xs, y :: ys => if x < y then -1 else if y < x then 1 else cmpL xs ys
theorem nth_succ (x : Int) (xs : List Int) (k : Nat) : nth (x :: xs) (k + 1) = nth xs k := by simp [nth, List.getD]
theorem nth_zero (x : Int) (xs : List Int) : nth (x :: xs) 0 = x := by simp [nth, List.getD]
def agree (xs ys : List Int) (k : Nat) : Prop := k ≤ xs.length ∧ k ≤ ys.length ∧ ∀ j, j < k → nth xs j = nth ys j
theorem agree_zero (xs ys : List Int) : agree xs ys 0 := ⟨Nat.zero_le _, Nat.zero_le _, fun _ h => absurd h (by omega)⟩
theorem agree_step {xs ys : List Int} {k : Nat} (h : agree xs ys k) (h1 : k < xs.length) (h2 : k < ys.length) (he : nth xs k = nth ys k) : agree xs ys (k + 1) :=
  ⟨h1, h2, fun j hj => by
    rcases Nat.lt_succ_iff_lt_or_eq.1 hj with h' | h'
    · exact h.2.2 j h'
    · rw [h']; exact he⟩
theorem cmpL_agree {xs ys : List Int} {k : Nat} (h : agree xs ys k) : cmpL xs ys = cmpL (xs.drop k) (ys.drop k) := by
  induction k generalizing xs ys with
  | zero => simp
  | succ k ih =>
    obtain ⟨h1, h2, h3⟩ := h
    cases xs with
    | nil => simp at h1
    | cons x xs =>
      cases ys with
      | nil => simp at h2
      | cons y ys =>
        have e := h3 0 (by omega)
        rw [nth_zero, nth_zero] at e
        subst e
        simp only [cmpL, Int.lt_irrefl, if_false, List.drop_succ_cons]
        refine ih ⟨by simpa using h1, by simpa using h2, fun j hj => ?_⟩
        have := h3 (j + 1) (by omega)
        rwa [nth_succ, nth_succ] at this
theorem cmpL_lt {xs ys : List Int} {k : Nat} (h : agree xs ys k) (h1 : k < xs.length) (h2 : k < ys.length) (he : nth xs k < nth ys k) : cmpL xs ys = -1 := by
  rw [cmpL_agree h, List.drop_eq_getElem_cons h1, List.drop_eq_getElem_cons h2, cmpL, if_pos (by rw [← nth_get h1, ← nth_get h2]; exact he)]
theorem cmpL_gt {xs ys : List Int} {k : Nat} (h : agree xs ys k) (h1 : k < xs.length) (h2 : k < ys.length) (he : nth ys k < nth xs k) : cmpL xs ys = 1 := by
  rw [cmpL_agree h, List.drop_eq_getElem_cons h1, List.drop_eq_getElem_cons h2, cmpL, if_neg (by rw [← nth_get h1, ← nth_get h2]; omega), if_pos (by rw [← nth_get h1, ← nth_get h2]; exact he)]
theorem cmpL_short {xs ys : List Int} (h : agree xs ys xs.length) (h2 : xs.length < ys.length) : cmpL xs ys = -1 := by
  rw [cmpL_agree h, List.drop_eq_getElem_cons h2, List.drop_eq_nil_of_le (Nat.le_refl _)]
  rfl
theorem cmpL_long {xs ys : List Int} (h : agree xs ys ys.length) (h2 : ys.length < xs.length) : cmpL xs ys = 1 := by
  rw [cmpL_agree h, List.drop_eq_getElem_cons h2, List.drop_eq_nil_of_le (Nat.le_refl _)]
  rfl
theorem cmpL_same {xs ys : List Int} (h : agree xs ys xs.length) (h2 : xs.length = ys.length) : cmpL xs ys = 0 := by
  rw [cmpL_agree h, List.drop_eq_nil_of_le (Nat.le_refl _), List.drop_eq_nil_of_le (by omega)]
  rfl
theorem cmpL_zero {xs ys : List Int} (h : cmpL xs ys = 0) : xs = ys := by
  induction xs generalizing ys with
  | nil => cases ys <;> simp [cmpL] at h ⊢
  | cons x xs ih =>
    cases ys with
    | nil => simp [cmpL] at h
    | cons y ys =>
      simp only [cmpL] at h
      split at h
      · simp at h
      · split at h
        · simp at h
        · rw [ih h]
          congr 1
          omega
theorem cmpL_refl (xs : List Int) : cmpL xs xs = 0 := cmpL_same ⟨Nat.le_refl _, Nat.le_refl _, fun _ _ => rfl⟩ rfl
theorem cmpL_swap (xs ys : List Int) : cmpL ys xs = -cmpL xs ys := by
  induction xs generalizing ys with
  | nil => cases ys <;> simp [cmpL]
  | cons x xs ih =>
    cases ys with
    | nil => simp [cmpL]
    | cons y ys =>
      simp only [cmpL]
      by_cases h1 : x < y
      · rw [if_neg (by omega), if_pos h1, if_pos h1]; rfl
      · by_cases h2 : y < x
        · rw [if_pos h2, if_neg h1, if_pos h2]
        · rw [if_neg h2, if_neg h1, if_neg h1, if_neg h2]; exact ih ys
theorem cmpL_trans {xs ys zs : List Int} (h1 : cmpL xs ys ≤ 0) (h2 : cmpL ys zs ≤ 0) : cmpL xs zs ≤ 0 := by
  induction xs generalizing ys zs with
  | nil => cases zs <;> simp [cmpL]
  | cons x xs ih =>
    cases ys with
    | nil => simp [cmpL] at h1
    | cons y ys =>
      cases zs with
      | nil => simp [cmpL] at h2
      | cons z zs =>
        simp only [cmpL] at h1 h2 ⊢
        split at h1
        · split at h2
          · rw [if_pos (by omega)]; omega
          · split at h2
            · omega
            · rw [if_pos (by omega)]; omega
        · split at h1
          · omega
          · split at h2
            · rw [if_pos (by omega)]; omega
            · split at h2
              · omega
              · rw [if_neg (by omega), if_neg (by omega)]
                exact ih h1 h2
/-! permutations -/
structure Perm (p : List Int) : Prop where
  bd : ∀ k, k < p.length → 0 ≤ nth p k ∧ nth p k < p.length
  ne : ∀ i j, i < j → j < p.length → nth p i ≠ nth p j
/-! sets of points, designs, arrays -/
end Go.Proofs.YtdkbcjdimhgmnaaGreat
namespace Go.Proofs.YtdkbcjdimhgmnaaGreat
def srt (zs : List Int) : List Int := zs.mergeSort fun x y => decide (x ≤ y)
theorem srt_perm (zs : List Int) : (srt zs).Perm zs := List.mergeSort_perm _ _
theorem srt_len (zs : List Int) : (srt zs).length = zs.length := (srt_perm zs).length_eq
theorem srt_le (zs : List Int) : (srt zs).Pairwise fun x y => x ≤ y := by
  have h := List.pairwise_mergeSort (le := fun x y : Int => decide (x ≤ y)) (fun a b c h1 h2 => by simp at *; omega) (fun a b => by simp; omega) zs
  exact h.imp fun h => by simpa using h
theorem srt_mono {zs : List Int} {i j : Nat} (h : i ≤ j) (hj : j < zs.length) : nth (srt zs) i ≤ nth (srt zs) j := by
  have hl := srt_len zs
  rcases Nat.eq_or_lt_of_le h with rfl | h'
  · exact Int.le_refl _
  · have := List.pairwise_iff_getElem.1 (srt_le zs) i j (by omega) (by omega) h'
    rwa [nth_get (by omega), nth_get (by omega)]
theorem nodup_ne {zs : List Int} (h : ∀ i j, i < j → j < zs.length → nth zs i ≠ nth zs j) : zs.Nodup := by
  rw [List.Nodup, List.pairwise_iff_getElem]
  intro i j hi hj hij
  have := h i j hij hj
  rwa [nth_get hi, nth_get hj] at this
theorem ne_nodup {zs : List Int} (h : zs.Nodup) : ∀ i j, i < j → j < zs.length → nth zs i ≠ nth zs j := fun i j hij hj => by
  rw [List.Nodup, List.pairwise_iff_getElem] at h
  have := h i j (by omega) hj hij
  rwa [nth_get (by omega), nth_get hj]
theorem mem_nth {zs : List Int} {x : Int} (h : x ∈ zs) : ∃ k, k < zs.length ∧ nth zs k = x := by
  obtain ⟨k, hk, rfl⟩ := List.mem_iff_getElem.1 h
  exact ⟨k, hk, nth_get hk⟩
theorem nth_mem {zs : List Int} {k : Nat} (h : k < zs.length) : nth zs k ∈ zs := by
  rw [nth_get h]
  exact List.getElem_mem h
def inOrder (zs : List Int) : Prop := ∀ k, k < zs.length → nth (srt zs) k = (k : Int)
theorem perm_inOrder {zs : List Int} (h : Perm zs) : inOrder zs := by
  have hl := srt_len zs
  have hnd : (srt zs).Nodup := (srt_perm zs).nodup_iff.2 (nodup_ne h.ne)
  have hne := ne_nodup hnd
  have hbd : ∀ k, k < zs.length → 0 ≤ nth (srt zs) k ∧ nth (srt zs) k < zs.length := fun k hk => by
    have hm : nth (srt zs) k ∈ zs := (srt_perm zs).mem_iff.1 (nth_mem (by omega))
    obtain ⟨j, hj, e⟩ := mem_nth hm
    rw [← e]
    exact h.bd j hj
  have hup : ∀ k, k + 1 < zs.length → nth (srt zs) k < nth (srt zs) (k + 1) := fun k hk => by
    have h1 := srt_mono (zs := zs) (i := k) (j := k + 1) (by omega) hk
    have h2 := hne k (k + 1) (by omega) (by omega)
    omega
  have hlo : ∀ k, k < zs.length → (k : Int) ≤ nth (srt zs) k := by
    intro k
    induction k with
    | zero => intro hk; exact (hbd 0 hk).1
    | succ k ih => intro hk; have := ih (by omega); have := hup k hk; omega
  have hhi : ∀ j k, k + 1 + j = zs.length → nth (srt zs) k ≤ (k : Int) := by
    intro j
    induction j with
    | zero => intro k hk; have := (hbd k (by omega)).2; omega
    | succ j ih => intro k hk; have := ih (k + 1) (by omega); have := hup k (by omega); omega
  intro k hk
  have := hlo k hk
  have := hhi (zs.length - 1 - k) k (by omega)
  omega
end Go.Proofs.YtdkbcjdimhgmnaaGreat
