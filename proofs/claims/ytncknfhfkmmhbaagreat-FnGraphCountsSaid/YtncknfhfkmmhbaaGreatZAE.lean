/- What the laws' own helpers do: mark, hold, measure and copy slices of numbers, and slices of such slices. No condition beyond those stated. -/
import Derived.Test.YtncknfhfkmmhbaaGreatZAC
import Derived.Test.YtncknfhfkmmhbaaGreatProg
import Derived.Test.YtncknfhfkmmhbaaGreatZAA
import Derived.Test.YtncknfhfkmmhbaaGreatZAB
set_option linter.unusedVariables false
set_option linter.unusedSimpArgs false
namespace Go.Proofs.YtncknfhfkmmhbaaGreat
open Go.RowKit

theorem int_info : (Tryz.prog.info? 2).map (fun i => (i.zero, i.size, i.bytes)) = some (some (.int .i64 0), 1, 8) := by kernel_rfl
theorem ints_info : (Tryz.prog.info? 33).map (fun i => (i.zero, i.size, i.bytes)) = some (some (.slice none 0 0), 1, 24) := by kernel_rfl



def szF (left tot : Int) : Int := if tot ≤ left then left - tot else -1




/-- the lengths of the first k rows together -/
def lens (zss : List (List Int)) : Nat → Nat
  | 0 => 0
  | k + 1 => lens zss k + (row zss k).length
def bulk (zss : List (List Int)) : Nat := zss.length + lens zss zss.length
theorem lens_mono (zss : List (List Int)) {a b : Nat} (h : a ≤ b) : lens zss a ≤ lens zss b := by
  induction h with
  | refl => exact Nat.le_refl _
  | step _ ih => exact Nat.le_trans ih (Nat.le_add_right _ _)
theorem bulk_eq {w : World} {A : Option Addr} {n : Nat} {zss : List (List Int)} (h : RR w A n zss) : bulk zss = n + lens zss n := by
  unfold bulk
  rw [h.len]
theorem lens_row (zss : List (List Int)) {k n : Nat} (h : k < n) : (row zss k).length ≤ lens zss n :=
  Nat.le_trans (Nat.le_add_left _ _) (lens_mono zss (show k + 1 ≤ n from h))


/-- the first j rows copied over -/
def copiedR (xs zs : List (List Int)) (j : Nat) : List (List Int) := xs.take j ++ zs.drop j
theorem copiedR_zero (xs zs : List (List Int)) : copiedR xs zs 0 = zs := by simp [copiedR]
theorem copiedR_all {xs zs : List (List Int)} (h : xs.length = zs.length) : copiedR xs zs xs.length = xs := by
  rw [copiedR, List.take_length, List.drop_eq_nil_of_le (by omega), List.append_nil]
theorem copiedR_step {xs zs : List (List Int)} {j : Nat} (hx : j < xs.length) (hz : j < zs.length) : (copiedR xs zs j).set j (row xs j) = copiedR xs zs (j + 1) := by
  unfold copiedR
  have hl : (xs.take j).length = j := by rw [List.length_take]; omega
  rw [List.set_append_right _ _ (by omega), hl, Nat.sub_self, List.drop_eq_getElem_cons hz, List.set_cons_zero, List.take_succ_eq_append_getElem hx, row_get hx, List.append_assoc]
  rfl

end Go.Proofs.YtncknfhfkmmhbaaGreat
/- Whether a number lies between two others: what the function of each side returns. No condition. -/
namespace Go.Proofs.YtncknfhfkmmhbaaGreat
open Go.RowKit

set_option maxHeartbeats 400000 in
theorem within_any (a lo hi : Int) (w : World) :
    Calls Tryz.prog 14 #[.int .i64 a, .int .i64 lo, .int .i64 hi] w fun e w' => e = .returned (.bool (inB a lo hi)) ∧ w = w' := by
  go_enter Tryz.func14, Tryz.ntmps14
  go_wp2
  · go_ret
    have h : lo ≤ a := by assumption
    exact ⟨by simp [inB, h], rfl⟩
  · go_ret
    have h : a < lo := by assumption
    exact ⟨by simp [inB, show ¬ lo ≤ a by omega], rfl⟩
end Go.Proofs.YtncknfhfkmmhbaaGreat
/- Plain words for memory: rows that a call made, and what a call may have changed between two blocks. No condition beyond those stated. -/
namespace Go.Proofs.YtncknfhfkmmhbaaGreat
open Go.RowKit

/-- nothing has changed but blocks from B to D, and new ones -/
structure Mid (w w' : World) (B D : Nat) : Prop where
  os : w'.os = w.os
  tape : w'.tape = w.tape
  output : w'.output = w.output
  size : w.heap.size ≤ w'.heap.size
  blk : ∀ k, k < w.heap.size → (k < B ∨ D ≤ k) → w'.heap[k]? = w.heap[k]?
section
variable {w w' w'' : World} {B D B' D' : Nat}
theorem Mid.refl (w : World) (B D : Nat) : Mid w w B D := ⟨rfl, rfl, rfl, Nat.le_refl _, fun _ _ _ => rfl⟩
theorem Mid.trans (h : Mid w w' B D) (k : Mid w' w'' B D) : Mid w w'' B D :=
  ⟨k.os.trans h.os, k.tape.trans h.tape, k.output.trans h.output, Nat.le_trans h.size k.size, fun j hj hb => (k.blk j (Nat.lt_of_lt_of_le hj h.size) hb).trans (h.blk j hj hb)⟩
theorem Mid.of_below {C : Nat} (h : Below C w w') (hC : w.heap.size ≤ C) (B D : Nat) : Mid w w' B D := ⟨h.os, h.tape, h.output, h.size, fun k hk _ => h.block k (Nat.lt_of_lt_of_le hk hC)⟩
theorem Mid.below (h : Mid w w' B D) (hB : B ≤ w.heap.size) : Below B w w' := ⟨h.os, h.tape, h.output, h.size, fun k hk => h.blk k (Nat.lt_of_lt_of_le hk hB) (.inl hk)⟩
theorem Mid.set {p : Addr} (h : B ≤ p.block) (h' : p.block < D) (u : Value) : Mid w (w.setCell p u) B D :=
  ⟨rfl, rfl, rfl, by simp [World.setCell], fun k _ hb => Below.heap_setCell w p u k (fun e => by omega)⟩
theorem Mid.grown {r : Option Nat} (h : w.grownBy w' r) (hr : ∀ b, r = some b → B ≤ b ∧ b < D) : Mid w w' B D :=
  ⟨h.os, h.tape, h.output, h.size, fun k hk hb => h.block k hk (fun e => by have := hr k e.symm; omega)⟩
theorem Blk.mid {g : Nat} {t : TypeId} {cs : Array Value} (h : Blk w g t cs) (hm : Mid w w' B D) (hg : g < B ∨ D ≤ g) : Blk w' g t cs := (hm.blk g h.lt hg).trans h
theorem OS.mid {C : Nat} {e : TypeId} {size : Nat} {A : Option Addr} {n c : Nat} {xs : List Value} (h : OS w C e size A n c xs) (hm : Mid w w' B D) (hg : ∀ b, blk A = some b → b < B ∨ D ≤ b) : OS w' C e size A n c xs := by
  refine ⟨h.1, ?_⟩
  rcases h.2 with h2 | ⟨g, cap, cur, hv, h1, hb, r⟩
  · exact .inl h2
  · refine .inr ⟨g, cap, cur, hv, h1, ?_, r⟩
    have hA : blk A = some g := by injection hv with ha; rw [ha]; rfl
    rw [hm.blk g (Array.getElem?_eq_some_iff.1 hb).1 (hg g hA)]
    exact hb
theorem OI.mid {C : Nat} {e : TypeId} {A : Option Addr} {n c : Nat} {zs : List Int} (h : OI w C e A n c zs) (hm : Mid w w' B D) (hg : ∀ b, blk A = some b → b < B ∨ D ≤ b) : OI w' C e A n c zs := ⟨h.os.mid hm hg, h.all⟩
end

/-- A slice of slices of numbers that a call made, all its blocks from B on and below D. -/
structure ORdv (w : World) (B D : Nat) (e2 e1 : TypeId) (A : Option Addr) (n c : Nat) (vs : List Sl) (zss : List (List Int)) : Prop where
  orv : ORv w B e2 e1 A n c vs zss
  lt : ∀ b, blk A = some b → b < D
  ltr : ∀ (j : Nat) (u : Sl) (b : Nat), vs[j]? = some u → blk u.1 = some b → b < D
def ORd (w : World) (B D : Nat) (e2 e1 : TypeId) (A : Option Addr) (n c : Nat) (zss : List (List Int)) : Prop := ∃ vs, ORdv w B D e2 e1 A n c vs zss
section
variable {w w' : World} {B D : Nat} {e2 e1 : TypeId} {A : Option Addr} {n c : Nat} {vs : List Sl} {zss : List (List Int)}
theorem ORv.row_lt (h : ORv w B e2 e1 A n c vs zss) {j : Nat} {u : Sl} {b : Nat} (hu : vs[j]? = some u) (hb : blk u.1 = some b) : B ≤ b ∧ b < w.heap.size := by
  have hj : j < zss.length := by rw [← h.len]; exact (List.getElem?_eq_some_iff.1 hu).1
  exact (h.rows j u _ hu (List.getElem?_eq_getElem hj)).os.lt hb
theorem ORv.below (h : ORv w B e2 e1 A n c vs zss) (hb : Below w.heap.size w w') : ORv w' B e2 e1 A n c vs zss :=
  h.kept (r := none) (grownBy_of_below hb none) (by cases A <;> simp [blk]) (fun j v _ => by obtain ⟨a, b, c⟩ := v; cases a <;> simp [blk])
theorem OR.bound (h : OR w B e2 e1 A n c zss) : ORd w B w.heap.size e2 e1 A n c zss := by
  obtain ⟨vs, h⟩ := h
  exact ⟨vs, h, fun b hb => (h.os.lt hb).2, fun j u b hu hb => (h.row_lt hu hb).2⟩
theorem ORd.own (h : ORd w B D e2 e1 A n c zss) : OR w B e2 e1 A n c zss := by
  obtain ⟨vs, h⟩ := h
  exact ⟨vs, h.orv⟩
theorem ORd.len (h : ORd w B D e2 e1 A n c zss) : zss.length = n := h.own.len
theorem ORd.reads (h : ORd w B D e2 e1 A n c zss) : RR w A n zss := h.own.reads
theorem ORdv.mid {B' D' : Nat} (h : ORdv w B D e2 e1 A n c vs zss) (hm : Mid w w' B' D') (hd : D' ≤ B ∨ D ≤ B') : ORdv w' B D e2 e1 A n c vs zss :=
  ⟨⟨h.orv.os.mid hm (fun b hb => by have := (h.orv.os.lt hb).1; have := h.lt b hb; omega), h.orv.len,
    fun j u z hu hz => (h.orv.rows j u z hu hz).mid hm (fun b hb => by have := (h.orv.row_lt hu hb).1; have := h.ltr j u b hu hb; omega), h.orv.sep, h.orv.ne⟩, h.lt, h.ltr⟩
theorem ORd.mid {B' D' : Nat} (h : ORd w B D e2 e1 A n c zss) (hm : Mid w w' B' D') (hd : D' ≤ B ∨ D ≤ B') : ORd w' B D e2 e1 A n c zss := by
  obtain ⟨vs, h⟩ := h
  exact ⟨vs, h.mid hm hd⟩
theorem ORd.below (h : ORd w B D e2 e1 A n c zss) (hb : Below w.heap.size w w') : ORd w' B D e2 e1 A n c zss := h.mid (Mid.of_below hb (Nat.le_refl _) 0 0) (.inl (Nat.zero_le _))
theorem ORd.more {B' D' : Nat} (h : ORd w B D e2 e1 A n c zss) (hB : B' ≤ B) (hD : D ≤ D') : ORd w B' D' e2 e1 A n c zss := by
  obtain ⟨vs, h⟩ := h
  exact ⟨vs, ⟨h.orv.os.more hB, h.orv.len, fun j u z hu hz => (h.orv.rows j u z hu hz).more hB, h.orv.sep, h.orv.ne⟩, fun b hb => Nat.lt_of_lt_of_le (h.lt b hb) hD, fun j u b hu hb => Nat.lt_of_lt_of_le (h.ltr j u b hu hb) hD⟩
end

/-! marks over rows -/
def marksR : Nat → List (List Int) → List (List Int)
  | _, [] => []
  | k, z :: r => marks k z.length :: marksR (k + z.length) r
def cells (zss : List (List Int)) : Nat := (zss.map List.length).sum
theorem cells_app (a b : List (List Int)) : cells (a ++ b) = cells a + cells b := by simp [cells]
theorem cells_one (z : List Int) : cells [z] = z.length := by simp [cells]
theorem cells_take (zss : List (List Int)) {j : Nat} (h : j < zss.length) : cells (zss.take (j + 1)) = cells (zss.take j) + (row zss j).length := by
  rw [List.take_succ_eq_append_getElem h, row_get h, cells_app, cells_one]
theorem cells_le (zss : List (List Int)) (j : Nat) : cells (zss.take j) ≤ cells zss := by
  have h := cells_app (zss.take j) (zss.drop j)
  rw [List.take_append_drop] at h
  omega
theorem marksR_len (k : Nat) (zss : List (List Int)) : (marksR k zss).length = zss.length := by
  induction zss generalizing k with
  | nil => rfl
  | cons z r ih => simp [marksR, ih]
theorem marksR_app (k : Nat) (a b : List (List Int)) : marksR k (a ++ b) = marksR k a ++ marksR (k + cells a) b := by
  induction a generalizing k with
  | nil => simp [marksR, cells]
  | cons z r ih => simp [marksR, ih, cells, Nat.add_assoc]
theorem marksR_row (k : Nat) (zss : List (List Int)) {j : Nat} (h : j < zss.length) : row (marksR k zss) j = marks (k + cells (zss.take j)) (row zss j).length := by
  have e : zss = zss.take j ++ zss[j] :: zss.drop (j + 1) := by rw [← List.drop_eq_getElem_cons h, List.take_append_drop]
  have hl : (marksR k (zss.take j)).length = j := by rw [marksR_len, List.length_take]; omega
  conv => lhs; rw [e]
  rw [marksR_app, marksR, row, List.getD, List.getElem?_append_right (by omega), hl, Nat.sub_self, row_get h]
  rfl
/-- the first j rows written over by marks -/
def markedR (k : Nat) (zss : List (List Int)) (j : Nat) : List (List Int) := marksR k (zss.take j) ++ zss.drop j
theorem markedR_zero (k : Nat) (zss : List (List Int)) : markedR k zss 0 = zss := by simp [markedR, marksR]
theorem markedR_all (k : Nat) (zss : List (List Int)) : markedR k zss zss.length = marksR k zss := by simp [markedR]
theorem markedR_len {k : Nat} {zss : List (List Int)} {j : Nat} (h : j ≤ zss.length) : (markedR k zss j).length = zss.length := by simp [markedR, marksR_len]; omega
theorem markedR_row {k : Nat} {zss : List (List Int)} {j : Nat} (h : j < zss.length) : row (markedR k zss j) j = row zss j := by
  have hl : (marksR k (zss.take j)).length = j := by rw [marksR_len, List.length_take]; omega
  rw [markedR, row, List.getD, List.getElem?_append_right (by omega), hl, Nat.sub_self, List.drop_eq_getElem_cons h, row_get h]
  rfl
theorem markedR_step {k : Nat} {zss : List (List Int)} {j : Nat} (h : j < zss.length) : (markedR k zss j).set j (marks (k + cells (zss.take j)) (row zss j).length) = markedR k zss (j + 1) := by
  have hl : (marksR k (zss.take j)).length = j := by rw [marksR_len, List.length_take]; omega
  unfold markedR
  rw [List.set_append_right _ _ (by omega), hl, Nat.sub_self, List.drop_eq_getElem_cons h, List.set_cons_zero, List.take_succ_eq_append_getElem h, marksR_app, row_get h]
  simp [marksR]

end Go.Proofs.YtncknfhfkmmhbaaGreat
