/-
  DERIVED: THE SHELF's CONTRACTS AT THIS DUMP, IN PLAIN WORDS (tools/lay-plain.mjs out of 'YtkihflnenifcgaaGreatDoorLay5X.lean', which tools/lay-shelf.mjs wrote): THE SAME DECLARATIONS UNDER THE SAME NAMES: 'import', 'namespace', 'open', 'def', 'theorem' AND NOTHING ELSE: no command of the shelf's: FOR A HAND-IN. Each laying: the table of numbers ('.._ren') and one theorem, a field a fact of the dump's own or the kernel's comparison; each contract: ONE APPLICATION.
-/
import Derived.Shelf.SlGeneric
import Derived.Shelf.Strings.OnBuilder
import Derived.Shelf.Strconv.Itoa4
import Derived.Test.YtkihflnenifcgaaGreatDoorProg
import Derived.WalkKit
import Derived.WalkSpells
import Derived.WalkLawsBesides
import Derived.Lib.Hide
import Derived.Deep.Slices
import Derived.Deep.Draws
import Derived.Lib.Join
import Derived.Lib.ItoaNum
set_option linter.unusedVariables false
set_option linter.unusedSimpArgs false
namespace Go.Proofs
open Go.Shelf
def Tryz.strJ_ren : Go.Shelf.Ren := ⟨fun | 156 => 30 | 165 => 58 | 166 => 59 | 169 => 60 | 240 => 86 | 241 => 87 | 276 => 119 | 277 => 120 | n => n, fun | 31 => 66 | 9 => 9 | 3 => 3 | 4 => 4 | 0 => 0 | 20 => 20 | 72 => 97 | 76 => 101 | 70 => 95 | 37 => 22 | 75 => 100 | 127 => 122 | 164 => 149 | 5 => 5 | 80 => 103 | n => n, fun | n => n⟩
theorem Tryz.strJ : Go.Proofs.Lays.n156 Tryz.prog Tryz.strJ_ren := {
  mixed := by kernel_rfl
  f156 := Tryz.func30.trans (congrArg some (by kernel_rfl))
  f165 := Tryz.func58.trans (congrArg some (by kernel_rfl))
  f166 := Tryz.func59.trans (congrArg some (by kernel_rfl))
  f169 := Tryz.func60.trans (congrArg some (by kernel_rfl))
  f240 := Tryz.func86.trans (congrArg some (by kernel_rfl))
  f241 := Tryz.func87.trans (congrArg some (by kernel_rfl))
  f276 := Tryz.func119.trans (congrArg some (by kernel_rfl))
  f277 := Tryz.func120.trans (congrArg some (by kernel_rfl))
  t0 := Tryz.underlying0
  a0 := Tryz.isAgg0
  z0 := Tryz.sizeOf0
  v0 := Tryz.zeroValue0
  t3 := Tryz.underlying3
  a3 := Tryz.isAgg3
  z3 := Tryz.sizeOf3
  v3 := Tryz.zeroValue3
  t4 := Tryz.underlying4
  a4 := Tryz.isAgg4
  z4 := Tryz.sizeOf4
  v4 := Tryz.zeroValue4
  t9 := Tryz.underlying9
  a9 := Tryz.isAgg9
  z9 := Tryz.sizeOf9
  v9 := Tryz.zeroValue9
  t20 := Tryz.underlying20
  a20 := Tryz.isAgg20
  z20 := Tryz.sizeOf20
  v20 := Tryz.zeroValue20
  t31 := Tryz.underlying66
  a31 := Tryz.isAgg66
  z31 := Tryz.sizeOf66
  v31 := Tryz.zeroValue66
  t37 := Tryz.underlying22
  a37 := Tryz.isAgg22
  z37 := Tryz.sizeOf22
  v37 := Tryz.zeroValue22
  t70 := Tryz.underlying95
  a70 := Tryz.isAgg95
  z70 := Tryz.sizeOf95
  v70 := Tryz.zeroValue95
  t72 := Tryz.underlying97
  a72 := Tryz.isAgg97
  z72 := Tryz.sizeOf97
  v72 := Tryz.zeroValue97
  t75 := Tryz.underlying100
  a75 := Tryz.isAgg100
  z75 := Tryz.sizeOf100
  v75 := Tryz.zeroValue100
  t76 := Tryz.underlying101
  a76 := Tryz.isAgg101
  z76 := Tryz.sizeOf101
  v76 := Tryz.zeroValue101
  t127 := Tryz.underlying122
  a127 := Tryz.isAgg122
  z127 := Tryz.sizeOf122
  v127 := Tryz.zeroValue122
  t164 := Tryz.underlying149
  a164 := Tryz.isAgg149
  z164 := Tryz.sizeOf149
  v164 := Tryz.zeroValue149 }
def Tryz.fmtI_ren : Go.Shelf.Ren := ⟨fun | 173 => 54 | 246 => 84 | 283 => 115 | 284 => 116 | 285 => 117 | 286 => 118 | 129 => 113 | 317 => 141 | 318 => 142 | 319 => 143 | 320 => 144 | 337 => 162 | 338 => 163 | n => n, fun | 2 => 2 | 3 => 3 | 9 => 9 | 4 => 4 | 171 => 145 | 0 => 0 | 53 => 79 | 37 => 22 | 5 => 5 | 173 => 147 | 212 => 168 | 51 => 141 | 20 => 20 | 213 => 169 | 46 => 119 | 232 => 188 | 233 => 189 | n => n, fun | 17 => 0 | 18 => 2 | 19 => 3 | n => n⟩
theorem Tryz.fmtI : Go.Proofs.Lays.n173 Tryz.prog Tryz.fmtI_ren := {
  mixed := by kernel_rfl
  f129 := Tryz.func113.trans (congrArg some (by kernel_rfl))
  f173 := Tryz.func54.trans (congrArg some (by kernel_rfl))
  f246 := Tryz.func84.trans (congrArg some (by kernel_rfl))
  f283 := Tryz.func115.trans (congrArg some (by kernel_rfl))
  f284 := Tryz.func116.trans (congrArg some (by kernel_rfl))
  f285 := Tryz.func117.trans (congrArg some (by kernel_rfl))
  f286 := Tryz.func118.trans (congrArg some (by kernel_rfl))
  f317 := Tryz.func141.trans (congrArg some (by kernel_rfl))
  f318 := Tryz.func142.trans (congrArg some (by kernel_rfl))
  f319 := Tryz.func143.trans (congrArg some (by kernel_rfl))
  f320 := Tryz.func144.trans (congrArg some (by kernel_rfl))
  f337 := Tryz.func162.trans (congrArg some (by kernel_rfl))
  f338 := Tryz.func163.trans (congrArg some (by kernel_rfl))
  t0 := Tryz.underlying0
  a0 := Tryz.isAgg0
  z0 := Tryz.sizeOf0
  v0 := Tryz.zeroValue0
  t2 := Tryz.underlying2
  a2 := Tryz.isAgg2
  z2 := Tryz.sizeOf2
  v2 := Tryz.zeroValue2
  t3 := Tryz.underlying3
  a3 := Tryz.isAgg3
  z3 := Tryz.sizeOf3
  v3 := Tryz.zeroValue3
  t4 := Tryz.underlying4
  a4 := Tryz.isAgg4
  z4 := Tryz.sizeOf4
  v4 := Tryz.zeroValue4
  t5 := Tryz.underlying5
  a5 := Tryz.isAgg5
  z5 := Tryz.sizeOf5
  v5 := Tryz.zeroValue5
  t9 := Tryz.underlying9
  a9 := Tryz.isAgg9
  z9 := Tryz.sizeOf9
  v9 := Tryz.zeroValue9
  t20 := Tryz.underlying20
  a20 := Tryz.isAgg20
  z20 := Tryz.sizeOf20
  v20 := Tryz.zeroValue20
  t37 := Tryz.underlying22
  a37 := Tryz.isAgg22
  z37 := Tryz.sizeOf22
  v37 := Tryz.zeroValue22
  t46 := Tryz.underlying119
  a46 := Tryz.isAgg119
  z46 := Tryz.sizeOf119
  v46 := Tryz.zeroValue119
  t51 := Tryz.underlying141
  a51 := Tryz.isAgg141
  z51 := Tryz.sizeOf141
  v51 := Tryz.zeroValue141
  t53 := Tryz.underlying79
  a53 := Tryz.isAgg79
  z53 := Tryz.sizeOf79
  v53 := Tryz.zeroValue79
  t171 := Tryz.underlying145
  a171 := Tryz.isAgg145
  z171 := Tryz.sizeOf145
  v171 := Tryz.zeroValue145
  t173 := Tryz.underlying147
  a173 := Tryz.isAgg147
  z173 := Tryz.sizeOf147
  v173 := Tryz.zeroValue147
  t212 := Tryz.underlying168
  a212 := Tryz.isAgg168
  z212 := Tryz.sizeOf168
  v212 := Tryz.zeroValue168
  t213 := Tryz.underlying169
  a213 := Tryz.isAgg169
  z213 := Tryz.sizeOf169
  t232 := Tryz.underlying188
  a232 := Tryz.isAgg188
  z232 := Tryz.sizeOf188
  v232 := Tryz.zeroValue188
  t233 := Tryz.underlying189
  a233 := Tryz.isAgg189
  z233 := Tryz.sizeOf189
  v233 := Tryz.zeroValue189
  g17 := by kernel_rfl
  g18 := by kernel_rfl
  g19 := by kernel_rfl }
end Go.Proofs
/- Plain words for memory, over any program: what a slice reads as, and what a call leaves alone. No condition beyond those stated. -/
namespace Go.Proofs.YtkihflnenifcgaaGreatDoor
open Go.RowKit

/-- a 64-bit number -/
def I64 (z : Int) : Prop := -9223372036854775808 ≤ z ∧ z ≤ 9223372036854775807
theorem I64.lo {z : Int} (h : I64 z) : -9223372036854775808 ≤ z := h.1
theorem I64.hi {z : Int} (h : I64 z) : z ≤ 9223372036854775807 := h.2
theorem I64.of_wf {z : Int} (h : (Lit.int .i64 z).wf = true) : I64 z := by
  simp [Lit.wf, IntKind.min, IntKind.max, IntKind.signed, IntKind.bits] at h
  unfold I64
  omega

theorem ret_int {k : IntKind} {a b : Int} (h : a = b) : Ending.returned (.int k a) = .returned (.int k b) := by rw [h]
theorem ret_bool {a b : Bool} (h : a = b) : Ending.returned (.bool a) = .returned (.bool b) := by rw [h]
theorem ret_val {a b : Value} (h : a = b) : Ending.returned a = .returned b := by rw [h]

def inB (a lo hi : Int) : Bool := decide (lo ≤ a) && decide (a ≤ hi)
theorem inB_true {a lo hi : Int} (h : inB a lo hi = true) : lo ≤ a ∧ a ≤ hi := by simpa [inB] using h
theorem inB_false {a lo hi : Int} (h : ¬ inB a lo hi = true) : inB a lo hi = false := by simpa using h
theorem inB_mk {a lo hi : Int} (h : lo ≤ a ∧ a ≤ hi) : inB a lo hi = true := by simpa [inB] using h
theorem inB_not {a lo hi : Int} (h : ¬ (lo ≤ a ∧ a ≤ hi)) : inB a lo hi = false := by
  cases hb : inB a lo hi with
  | false => rfl
  | true => exact absurd (inB_true hb) h

theorem below_alloc (w : World) (o : Obj) : Below w.heap.size w (w.alloc o) := (Below.refl _ _).alloc (Nat.le_refl _) _
theorem below_then {a b c : World} (h : Below a.heap.size a b) (k : Below b.heap.size b c) : Below a.heap.size a c := h.trans (k.mono h.size)
theorem below_drewn' (B : Nat) (w : World) (n : Nat) : Below B w (w.drewN n) := ⟨rfl, rfl, rfl, Nat.le_refl _, fun _ _ => rfl⟩
theorem below_drewn (w : World) (n : Nat) : Below w.heap.size w (w.drewN n) := ⟨rfl, rfl, rfl, Nat.le_refl _, fun _ _ => rfl⟩

theorem add_block (a : Addr) (n : Nat) : (a.add n).block = a.block := by unfold Addr.add; split <;> rfl
theorem block_lt {w : World} {a : Addr} {v : Value} (h : w.cell? a = some v) : a.block < w.heap.size := World.block_lt_of_cell? w a h
theorem below_cell {w w' : World} (hb : Below w.heap.size w w') {a : Addr} {v : Value} (h : w.cell? a = some v) : w'.cell? a = some v := (hb.cell (block_lt h)).trans h

/-- what is at a place of a list of numbers -/
def nth (zs : List Int) (k : Nat) : Int := zs.getD k 0
theorem nth_eq {zs : List Int} {k : Nat} {z : Int} (h : zs[k]? = some z) : nth zs k = z := by simp [nth, List.getD, h]
theorem nth_get {zs : List Int} {k : Nat} (h : k < zs.length) : nth zs k = zs[k] := by simp [nth, List.getD, h]
theorem nth_some {zs : List Int} {k : Nat} (h : k < zs.length) : zs[k]? = some (nth zs k) := by rw [nth_get h]; exact List.getElem?_eq_getElem h

/-- A slice value (its address, its length) whose elements of one cell read, one by one, as the list says. -/
structure RS {α : Type} (E : World → Value → α → Prop) (w : World) (A : Option Addr) (n : Nat) (xs : List α) : Prop where
  len : xs.length = n
  at_ : ∀ j x, xs[j]? = some x → ∃ ad u, A = some ad ∧ w.cell? (ad.add j) = some u ∧ E w u x
section
variable {α : Type} {E : World → Value → α → Prop} {w w' : World} {A : Option Addr} {n : Nat} {xs : List α}
def Keeps (E : World → Value → α → Prop) : Prop := ∀ {w w' u x}, Below w.heap.size w w' → E w u x → E w' u x
theorem RS.keep (hE : Keeps E) (h : RS E w A n xs) (hb : Below w.heap.size w w') : RS E w' A n xs :=
  ⟨h.len, fun j x hx => let ⟨ad, u, ha, hc, he⟩ := h.at_ j x hx; ⟨ad, u, ha, below_cell hb hc, hE hb he⟩⟩
theorem RS.nil_ (E : World → Value → α → Prop) (w : World) (A : Option Addr) : RS E w A 0 [] := ⟨rfl, fun j x h => by simp at h⟩
theorem RS.get (h : RS E w A n xs) {k : Nat} (hk : k < n) : ∃ ad u x, A = some ad ∧ xs[k]? = some x ∧ w.cell? (ad.add k) = some u ∧ E w u x := by
  have hl : k < xs.length := by rw [h.len]; exact hk
  obtain ⟨ad, u, ha, hc, he⟩ := h.at_ k xs[k] (List.getElem?_eq_getElem hl)
  exact ⟨ad, u, _, ha, List.getElem?_eq_getElem hl, hc, he⟩
end

/-- a cell that holds a 64-bit number -/
def EInt (_ : World) (u : Value) (z : Int) : Prop := u = .int .i64 z ∧ I64 z
theorem keeps_EInt : Keeps EInt := fun _ h => h
/-- a slice of numbers reads as a list -/
def RI (w : World) (A : Option Addr) (n : Nat) (zs : List Int) : Prop := RS EInt w A n zs
/-- a cell that holds such a slice -/
def ERow (w : World) (u : Value) (zs : List Int) : Prop := ∃ A n c, u = .slice A n c ∧ n ≤ c ∧ c ≤ 9223372036854775807 ∧ RI w A n zs
theorem RI.keep {w w' : World} {A n zs} (h : RI w A n zs) (hb : Below w.heap.size w w') : RI w' A n zs := RS.keep keeps_EInt h hb
theorem keeps_ERow : Keeps ERow := fun hb ⟨A, n, c, hu, h1, h2, h3⟩ => ⟨A, n, c, hu, h1, h2, h3.keep hb⟩
/-- a slice of such slices -/
def RR (w : World) (A : Option Addr) (n : Nat) (zss : List (List Int)) : Prop := RS ERow w A n zss
theorem RR.keep {w w' : World} {A n zss} (h : RR w A n zss) (hb : Below w.heap.size w w') : RR w' A n zss := RS.keep keeps_ERow h hb
theorem RI.len {w A n zs} (h : RI w A n zs) : zs.length = n := RS.len h
theorem RR.len {w A n zs} (h : RR w A n zs) : zs.length = n := RS.len h
theorem RI.get {w : World} {A n zs} (h : RI w A n zs) {k : Nat} (hk : k < n) : ∃ ad, A = some ad ∧ w.cell? (ad.add k) = some (.int .i64 (nth zs k)) ∧ I64 (nth zs k) := by
  obtain ⟨ad, u, x, ha, hx, hc, rfl, hi⟩ := RS.get h hk
  exact ⟨ad, ha, by rw [nth_eq hx]; exact hc, by rw [nth_eq hx]; exact hi⟩
def row (zss : List (List Int)) (k : Nat) : List Int := zss.getD k []
theorem row_eq {zss : List (List Int)} {k : Nat} {z : List Int} (h : zss[k]? = some z) : row zss k = z := by simp [row, List.getD, h]
theorem row_get {zs : List (List Int)} {k : Nat} (h : k < zs.length) : row zs k = zs[k] := by simp [row, List.getD, h]
theorem RR.get {w : World} {A n zss} (h : RR w A n zss) {k : Nat} (hk : k < n) : ∃ ad B m c, A = some ad ∧ w.cell? (ad.add k) = some (.slice B m c) ∧ m ≤ c ∧ c ≤ 9223372036854775807 ∧ RI w B m (row zss k) := by
  obtain ⟨ad, u, x, ha, hx, hc, B, m, c, rfl, h1, h2, h3⟩ := RS.get h hk
  exact ⟨ad, B, m, c, ha, hc, h1, h2, by rw [row_eq hx]; exact h3⟩

theorem cell_new (w : World) (cs : Array Value) (t : TypeId) (j : Nat) : (w.alloc (.cells cs t)).cell? ⟨w.heap.size, j, none⟩ = cs[j]? := cell_of_row (w.alloc (.cells cs t)) _ j cs t (0, 0) (heap_alloc_new w _)
/-- a new block, written out, reads as the list that it was made of -/
theorem RS.lit {α : Type} {E : World → Value → α → Prop} (f : α → Value) (w : World) (t : TypeId) (l : List α) (hE : ∀ x, x ∈ l → E (w.alloc (.cells (l.map f).toArray t)) (f x) x) :
    RS E (w.alloc (.cells (l.map f).toArray t)) (some ⟨w.heap.size, 0, none⟩) l.length l :=
  ⟨rfl, fun j x hx => ⟨_, f x, rfl, by rw [Addr.add_lit, Nat.zero_add, cell_new]; simp [hx], hE x (List.mem_of_getElem? hx)⟩⟩
/-- a cell that holds a byte -/
def EByte (_ : World) (u : Value) (z : Int) : Prop := u = .int .u8 z ∧ 0 ≤ z ∧ z ≤ 255
theorem keeps_EByte : Keeps EByte := fun _ h => h
end Go.Proofs.YtkihflnenifcgaaGreatDoor
/- Plain law: texts that are joined, small numbers' numerals. No program in sight. -/
namespace Go.Proofs.YtkihflnenifcgaaGreatDoor

theorem join_snoc (x sep : List UInt8) : ∀ xs : List (List UInt8), xs ≠ [] → Lib.join (xs ++ [x]) sep = Lib.join xs sep ++ sep ++ x
  | [], h => absurd rfl h
  | [y], _ => by simp [Lib.join, List.intercalate]
  | y :: z :: r, _ => by
    have ih := join_snoc x sep (z :: r) (by simp)
    simp only [Lib.join, List.intercalate, List.cons_append, List.intersperse_cons_cons, List.flatten_cons, List.append_assoc] at ih ⊢
    rw [ih]
/-- a small number's numeral -/
def dcS (z : Int) : ByteArray := ⟨(Lib.decDigits z.toNat).toArray⟩
theorem dc_one (n : Nat) (h : n < 10) : Lib.decDigits n = [UInt8.ofNat (48 + n)] := by rw [Lib.decDigits, dif_pos h]
theorem dc_two (n : Nat) (h : n < 100) (h2 : 10 ≤ n) : Lib.decDigits n = [UInt8.ofNat (48 + n / 10), UInt8.ofNat (48 + n % 10)] := by
  rw [Lib.decDigits, dif_neg (by omega), dc_one _ (by omega)]
  rfl
theorem dc_len (n : Nat) (h : n < 100) : (Lib.decDigits n).length ≤ 2 := by
  by_cases h1 : n < 10
  · rw [dc_one n h1]; simp
  · rw [dc_two n h (by omega)]; simp
/-- strings as bytes -/
def bts (ss : List ByteArray) : List (List UInt8) := ss.map (·.data.toList)
def joinS (ss : List ByteArray) (sep : ByteArray) : ByteArray := ⟨(Lib.join (bts ss) sep.data.toList).toArray⟩
def comma : ByteArray := ⟨#[44]⟩
def minus : ByteArray := ⟨#[45]⟩
def semi : ByteArray := ⟨#[59]⟩
/-- a list's text -/
def listT (zs : List Int) : ByteArray := if zs = [] then minus else joinS (zs.map dcS) comma
/-- an edge's text -/
def edgeT (e : Int × Int) : ByteArray := dcS e.1 ++ minus ++ dcS e.2
/-- a graph's text -/
def graphT (cs : List Int) (es : List (Int × Int)) : ByteArray := listT cs ++ semi ++ joinS (es.map edgeT) comma
theorem join_size (sep : List UInt8) (k : Nat) : ∀ xs : List (List UInt8), (∀ x ∈ xs, x.length ≤ k) → (Lib.join xs sep).length ≤ xs.length * (k + sep.length)
  | [], _ => by simp [Lib.join_nil]
  | [y], h => by
    have := h y (by simp)
    rw [Lib.join_one, List.length_singleton]
    omega
  | y :: z :: r, h => by
    have ih := join_size sep k (z :: r) fun x hx => h x (List.mem_cons_of_mem _ hx)
    have := h y (by simp)
    simp only [Lib.join, List.intercalate, List.intersperse_cons_cons, List.flatten_cons, List.length_append, List.length_cons, Nat.succ_mul] at ih ⊢
    omega
end Go.Proofs.YtkihflnenifcgaaGreatDoor
