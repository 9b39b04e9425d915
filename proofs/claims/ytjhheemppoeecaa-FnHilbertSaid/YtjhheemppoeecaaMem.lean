/- Plain words for memory, over any program: what a slice reads as, and what a call leaves alone. No condition beyond those stated. -/
import Derived.WalkKit
import Derived.WalkSpells
import Derived.WalkLawsBesides
import Derived.Lib.Hide
import Derived.Deep.Slices
import Derived.Deep.Draws
namespace Go.Proofs.Ytjhheemppoeecaa
open Go.RowKit

/-- a 64-bit number -/
def I64 (z : Int) : Prop := -9223372036854775808 ≤ z ∧ z ≤ 9223372036854775807
theorem I64.lo {z : Int} (h : I64 z) : -9223372036854775808 ≤ z := h.1
theorem I64.hi {z : Int} (h : I64 z) : z ≤ 9223372036854775807 := h.2
theorem I64.of_wf {z : Int} (h : (Lit.int .i64 z).wf = true) : I64 z := by
  simp [Lit.wf, IntKind.min, IntKind.max, IntKind.signed, IntKind.bits] at h
  unfold I64
  omega

theorem ret_int {k : IntKind} {a b : Int} (h : a = b) : Ending.returned (.int k a) = .returned (.int k b) := by rw [h]
theorem ret_bool {a b : Bool} (h : a = b) : Ending.returned (.bool a) = .returned (.bool b) := by rw [h]
theorem ret_val {a b : Value} (h : a = b) : Ending.returned a = .returned b := by rw [h]

def inB (a lo hi : Int) : Bool := decide (lo ≤ a) && decide (a ≤ hi)
theorem inB_true {a lo hi : Int} (h : inB a lo hi = true) : lo ≤ a ∧ a ≤ hi := by simpa [inB] using h
theorem inB_false {a lo hi : Int} (h : ¬ inB a lo hi = true) : inB a lo hi = false := by simpa using h
theorem inB_mk {a lo hi : Int} (h : lo ≤ a ∧ a ≤ hi) : inB a lo hi = true := by simpa [inB] using h
theorem inB_not {a lo hi : Int} (h : ¬ (lo ≤ a ∧ a ≤ hi)) : inB a lo hi = false := by
  cases hb : inB a lo hi with
  | false => rfl
  | true => exact absurd (inB_true hb) h

theorem below_alloc (w : World) (o : Obj) : Below w.heap.size w (w.alloc o) := (Below.refl _ _).alloc (Nat.le_refl _) _
theorem below_then {a b c : World} (h : Below a.heap.size a b) (k : Below b.heap.size b c) : Below a.heap.size a c := h.trans (k.mono h.size)
theorem below_drewn' (B : Nat) (w : World) (n : Nat) : Below B w (w.drewN n) := ⟨rfl, rfl, rfl, Nat.le_refl _, fun _ _ => rfl⟩
theorem below_drewn (w : World) (n : Nat) : Below w.heap.size w (w.drewN n) := ⟨rfl, rfl, rfl, Nat.le_refl _, fun _ _ => rfl⟩

theorem add_block (a : Addr) (n : Nat) : (a.add n).block = a.block := by unfold Addr.add; split <;> rfl
theorem block_lt {w : World} {a : Addr} {v : Value} (h : w.cell? a = some v) : a.block < w.heap.size := World.block_lt_of_cell? w a h
theorem below_cell {w w' : World} (hb : Below w.heap.size w w') {a : Addr} {v : Value} (h : w.cell? a = some v) : w'.cell? a = some v := (hb.cell (block_lt h)).trans h

/-- what is at a place of a list of numbers -/
def nth (zs : List Int) (k : Nat) : Int := zs.getD k 0
theorem nth_eq {zs : List Int} {k : Nat} {z : Int} (h : zs[k]? = some z) : nth zs k = z := by simp [nth, List.getD, h]
theorem nth_get {zs : List Int} {k : Nat} (h : k < zs.length) : nth zs k = zs[k] := by simp [nth, List.getD, h]
theorem nth_some {zs : List Int} {k : Nat} (h : k < zs.length) : zs[k]? = some (nth zs k) := by rw [nth_get h]; exact List.getElem?_eq_getElem h

/-- A slice value (its address, its length) whose elements of one cell read, one by one, as the list says. -/
structure RS {α : Type} (E : World → Value → α → Prop) (w : World) (A : Option Addr) (n : Nat) (xs : List α) : Prop where
  len : xs.length = n
  at_ : ∀ j x, xs[j]? = some x → ∃ ad u, A = some ad ∧ w.cell? (ad.add j) = some u ∧ E w u x
section
variable {α : Type} {E : World → Value → α → Prop} {w w' : World} {A : Option Addr} {n : Nat} {xs : List α}
def Keeps (E : World → Value → α → Prop) : Prop := ∀ {w w' u x}, Below w.heap.size w w' → E w u x → E w' u x
theorem RS.keep (hE : Keeps E) (h : RS E w A n xs) (hb : Below w.heap.size w w') : RS E w' A n xs :=
  ⟨h.len, fun j x hx => let ⟨ad, u, ha, hc, he⟩ := h.at_ j x hx; ⟨ad, u, ha, below_cell hb hc, hE hb he⟩⟩
theorem RS.nil_ (E : World → Value → α → Prop) (w : World) (A : Option Addr) : RS E w A 0 [] := ⟨rfl, fun j x h => by simp at h⟩
theorem RS.get (h : RS E w A n xs) {k : Nat} (hk : k < n) : ∃ ad u x, A = some ad ∧ xs[k]? = some x ∧ w.cell? (ad.add k) = some u ∧ E w u x := by
  have hl : k < xs.length := by rw [h.len]; exact hk
  obtain ⟨ad, u, ha, hc, he⟩ := h.at_ k xs[k] (List.getElem?_eq_getElem hl)
  exact ⟨ad, u, _, ha, List.getElem?_eq_getElem hl, hc, he⟩
end

/-- a cell that holds a 64-bit number -/
def EInt (_ : World) (u : Value) (z : Int) : Prop := u = .int .i64 z ∧ I64 z
theorem keeps_EInt : Keeps EInt := fun _ h => h
/-- a slice of numbers reads as a list -/
def RI (w : World) (A : Option Addr) (n : Nat) (zs : List Int) : Prop := RS EInt w A n zs
/-- a cell that holds such a slice -/
def ERow (w : World) (u : Value) (zs : List Int) : Prop := ∃ A n c, u = .slice A n c ∧ n ≤ c ∧ c ≤ 9223372036854775807 ∧ RI w A n zs
theorem RI.keep {w w' : World} {A n zs} (h : RI w A n zs) (hb : Below w.heap.size w w') : RI w' A n zs := RS.keep keeps_EInt h hb
theorem keeps_ERow : Keeps ERow := fun hb ⟨A, n, c, hu, h1, h2, h3⟩ => ⟨A, n, c, hu, h1, h2, h3.keep hb⟩
/-- a slice of such slices -/
def RR (w : World) (A : Option Addr) (n : Nat) (zss : List (List Int)) : Prop := RS ERow w A n zss
theorem RR.keep {w w' : World} {A n zss} (h : RR w A n zss) (hb : Below w.heap.size w w') : RR w' A n zss := RS.keep keeps_ERow h hb
theorem RI.len {w A n zs} (h : RI w A n zs) : zs.length = n := RS.len h
theorem RR.len {w A n zs} (h : RR w A n zs) : zs.length = n := RS.len h
theorem RI.get {w : World} {A n zs} (h : RI w A n zs) {k : Nat} (hk : k < n) : ∃ ad, A = some ad ∧ w.cell? (ad.add k) = some (.int .i64 (nth zs k)) ∧ I64 (nth zs k) := by
  obtain ⟨ad, u, x, ha, hx, hc, rfl, hi⟩ := RS.get h hk
  exact ⟨ad, ha, by rw [nth_eq hx]; exact hc, by rw [nth_eq hx]; exact hi⟩
def row (zss : List (List Int)) (k : Nat) : List Int := zss.getD k []
theorem row_eq {zss : List (List Int)} {k : Nat} {z : List Int} (h : zss[k]? = some z) : row zss k = z := by simp [row, List.getD, h]
theorem row_get {zs : List (List Int)} {k : Nat} (h : k < zs.length) : row zs k = zs[k] := by simp [row, List.getD, h]
theorem RR.get {w : World} {A n zss} (h : RR w A n zss) {k : Nat} (hk : k < n) : ∃ ad B m c, A = some ad ∧ w.cell? (ad.add k) = some (.slice B m c) ∧ m ≤ c ∧ c ≤ 9223372036854775807 ∧ RI w B m (row zss k) := by
  obtain ⟨ad, u, x, ha, hx, hc, B, m, c, rfl, h1, h2, h3⟩ := RS.get h hk
  exact ⟨ad, B, m, c, ha, hc, h1, h2, by rw [row_eq hx]; exact h3⟩

theorem cell_new (w : World) (cs : Array Value) (t : TypeId) (j : Nat) : (w.alloc (.cells cs t)).cell? ⟨w.heap.size, j, none⟩ = cs[j]? := cell_of_row (w.alloc (.cells cs t)) _ j cs t (0, 0) (heap_alloc_new w _)
/-- a new block, written out, reads as the list that it was made of -/
theorem RS.lit {α : Type} {E : World → Value → α → Prop} (f : α → Value) (w : World) (t : TypeId) (l : List α) (hE : ∀ x, x ∈ l → E (w.alloc (.cells (l.map f).toArray t)) (f x) x) :
    RS E (w.alloc (.cells (l.map f).toArray t)) (some ⟨w.heap.size, 0, none⟩) l.length l :=
  ⟨rfl, fun j x hx => ⟨_, f x, rfl, by rw [Addr.add_lit, Nat.zero_add, cell_new]; simp [hx], hE x (List.mem_of_getElem? hx)⟩⟩
/-- a cell that holds a byte -/
def EByte (_ : World) (u : Value) (z : Int) : Prop := u = .int .u8 z ∧ 0 ≤ z ∧ z ≤ 255
theorem keeps_EByte : Keeps EByte := fun _ h => h
end Go.Proofs.Ytjhheemppoeecaa
