/- Repetitions taken out of a list in place, plain. No program in sight. -/
import Derived.Test.YtncknfhfkmmhbaaGreatZAN
import Derived.Test.YtncknfhfkmmhbaaGreatZAF
import Derived.Test.YtncknfhfkmmhbaaGreatZAL
import Derived.Lib.SliceRun
import Derived.Test.YtncknfhfkmmhbaaGreatZAC
import Derived.Deep.QuietTactic
import Derived.BigQuiet
import Derived.Shelf.SlGeneric
import Derived.Shelf.SlSortCmp.Whole1
import Derived.Shelf.SlSortCmp.NoneTotal
import Derived.Ground.SlsfProg
import Derived.Shelf.SlCmpFuncs.BinarySearchFunc
import Derived.Ground.SlsgProg
import Derived.Test.YtncknfhfkmmhbaaGreatProg
set_option linter.unusedVariables false
set_option linter.unusedSimpArgs false
namespace Go.Proofs.YtncknfhfkmmhbaaGreat

/-! repetitions taken out, place by place -/
section
variable {α : Type} [DecidableEq α]
theorem comp_snoc : ∀ (l : List α) (x : α), comp (l ++ [x]) = if l.getLast? = some x then comp l else comp l ++ [x]
  | [], x => by simp [comp]
  | [y], x => by
    by_cases e : y = x
    · subst e; simp [comp]
    · simp [comp, e]
  | y :: z :: r, x => by
    have ih := comp_snoc (z :: r) x
    have hlast : (y :: z :: r).getLast? = (z :: r).getLast? := by simp [List.getLast?_cons_cons]
    rw [hlast]
    show comp (y :: z :: (r ++ [x])) = _
    rw [comp]
    have ih' : comp (z :: (r ++ [x])) = if (z :: r).getLast? = some x then comp (z :: r) else comp (z :: r) ++ [x] := ih
    rw [ih']
    by_cases e : y = z
    · rw [if_pos e]
      conv => rhs; rw [comp, if_pos e]
    · rw [if_neg e]
      conv => rhs; rw [comp, if_neg e]
      split <;> simp
theorem comp_take_one {l : List α} (h : 0 < l.length) : comp (l.take 1) = [l[0]] := by
  cases l with
  | nil => simp at h
  | cons a r => simp [comp]
theorem comp_take_step {l : List α} {k : Nat} (h : k + 1 < l.length) : comp (l.take (k + 1 + 1)) = if l[k + 1] = l[k] then comp (l.take (k + 1)) else comp (l.take (k + 1)) ++ [l[k + 1]] := by
  have e : (l.take (k + 1)).getLast? = some l[k] := by
    rw [List.getLast?_eq_getElem?, List.length_take, Nat.min_eq_left (by omega), List.getElem?_take]
    simp
  rw [List.take_succ_eq_append_getElem h, comp_snoc, e]
  by_cases h2 : l[k + 1] = l[k]
  · rw [if_pos (by rw [h2]), if_pos h2]
  · rw [if_neg (by intro h3; injection h3 with h3; exact h2 h3.symm), if_neg h2]
theorem comp_len_le (l : List α) : (comp l).length ≤ l.length := by
  induction l using comp.induct with
  | case1 => simp [comp]
  | case2 y => simp [comp]
  | case3 y r ih => rw [comp, if_pos rfl]; simp at *; omega
  | case4 y z r hne ih => rw [comp, if_neg hne]; simp at *; omega
/-- no two neighbors are the same -/
theorem comp_same : ∀ {l : List α}, (∀ (k : Nat) (h : k + 1 < l.length), l[k + 1] ≠ l[k]) → comp l = l
  | [], _ => rfl
  | [_], _ => rfl
  | y :: z :: r, h => by
    have h0 := h 0 (by simp)
    simp at h0
    rw [comp, if_neg (fun e => h0 e.symm), comp_same fun k hk => ?_]
    have := h (k + 1) (by simpa using hk)
    simpa using this
/-- what stands in memory behind the first k2 places: the kept ones in front, the rest as it was -/
structure CompT (d z : List α) (k j : Nat) : Prop where
  len : z.length = d.length
  kj : k < j
  jd : j ≤ d.length
  front : z.take k = comp (d.take j)
  klen : (comp (d.take j)).length = k
  rest : ∀ i, j ≤ i + 1 → z[i]? = d[i]?
theorem CompT.start {d : List α} {k : Nat} (h : k + 1 < d.length) (hs : ∀ (i : Nat) (hi : i + 1 ≤ k) (hd : i + 1 < d.length), d[i + 1] ≠ d[i]) (he : d[k + 1] = d[k]) : CompT d d (k + 1) (k + 1 + 1) := by
  have e1 : comp (d.take (k + 1)) = d.take (k + 1) := comp_same fun i hi => by
    have hi' : i + 1 < k + 1 := by rw [List.length_take] at hi; omega
    rw [List.getElem_take, List.getElem_take]
    exact hs i (by omega) (by omega)
  have e2 : comp (d.take (k + 1 + 1)) = d.take (k + 1) := by rw [comp_take_step h, if_pos he, e1]
  exact ⟨rfl, by omega, by omega, e2.symm, by rw [e2, List.length_take]; omega, fun _ _ => rfl⟩
theorem CompT.same {d z : List α} {k j : Nat} (h : CompT d z k (j + 1)) (hj : j + 1 < d.length) (he : d[j + 1] = d[j]) : CompT d z k (j + 1 + 1) := by
  have e2 : comp (d.take (j + 1 + 1)) = comp (d.take (j + 1)) := by rw [comp_take_step hj, if_pos he]
  exact ⟨h.len, by have := h.kj; omega, by omega, by rw [e2]; exact h.front, by rw [e2]; exact h.klen, fun i hi => h.rest i (by omega)⟩
theorem CompT.new {d z : List α} {k j : Nat} (h : CompT d z k (j + 1)) (hj : j + 1 < d.length) (he : d[j + 1] ≠ d[j]) : CompT d (z.set k d[j + 1]) (k + 1) (j + 1 + 1) := by
  have e2 : comp (d.take (j + 1 + 1)) = comp (d.take (j + 1)) ++ [d[j + 1]] := by rw [comp_take_step hj, if_neg he]
  have hk := h.kj
  have hl := h.len
  refine ⟨by simpa using hl, by omega, by omega, ?_, by rw [e2, List.length_append, h.klen]; rfl, fun i hi => ?_⟩
  · rw [e2, ← h.front, List.take_succ_eq_append_getElem (by simp; omega), List.take_set_of_le (by omega)]
    simp
  · rw [List.getElem?_set_ne (by omega)]
    exact h.rest i (by omega)
theorem CompT.done {d z : List α} {k : Nat} (h : CompT d z k d.length) : z.take k = comp d ∧ (comp d).length = k := by
  have h1 := h.front
  have h2 := h.klen
  rw [List.take_length] at h1 h2
  exact ⟨h1, h2⟩
end
end Go.Proofs.YtncknfhfkmmhbaaGreat
/- The builtin clear on the tail of a row that a call owns. No condition beyond those stated. -/
namespace Go.Proofs.YtncknfhfkmmhbaaGreat
open Go.RowKit

section
variable {w w' : World} {B : Nat} {e : TypeId} {size g n c k : Nat} {xs : List Value}
theorem OS.cut (h : OS w B e 1 (some ⟨g, 0, none⟩) n c xs) (hk : k ≤ n) : OS w B e 1 (some ⟨g, 0, none⟩) k c (xs.take k) := by
  rcases h.cases with ⟨h0, _⟩ | ⟨g', cur, h0, hB, hg, hnc, hc, hs, ht⟩
  · cases h0
  · injection h0 with h0
    injection h0 with h0
    subst h0
    refine ⟨by have := h.len; simp; omega, .inr ⟨g, c, cur, rfl, hB, hg, by omega, hc, hs, ?_⟩⟩
    rw [← ht, Nat.mul_one, Nat.mul_one, List.take_take, Nat.min_eq_left hk]
theorem OS.cleared (vs : List Value) : ∀ {w : World} {xs : List Value} (o : Nat), OS w B e 1 (some ⟨g, 0, none⟩) n c xs → k ≤ o → ∃ ys, OS (w.setCells g o vs) B e 1 (some ⟨g, 0, none⟩) n c ys ∧ ys.take k = xs.take k ∧ w.grownBy (w.setCells g o vs) (some g) := by
  induction vs with
  | nil => intro w xs o h _; exact ⟨xs, h, rfl, World.grownBy.refl _ _⟩
  | cons v r ih =>
    intro w xs o h hk
    obtain ⟨ys, h1, h2, h3⟩ := ih (o + 1) (h.set o v) (by omega)
    exact ⟨ys, h1, by rw [h2, List.take_set_of_le (by omega)], grown_set.trans h3⟩
end
section
variable {P : Program} {ops : Array Oper} {rest : List Oper} {o : Oper} {a : Act} {Q : Exit → Act → World → Prop}
theorem wpList_clear (w : World) (hgd : o.guard = none) (x : Operand) (t : TypeId) (ho : o.op = .call { callee := .builtin .clear, args := #[x], argTypes := #[t] }) (e : TypeId) (z : Value)
    (ht : P.underlying t = some (.slice e)) (hv : ∀ w, (zeroValue e).run P w = .ok z w) (hz : z.cells = #[z]) (h1 : z.oneCell' = true) (B g k n m c c' : Nat) (xs : List Value) (hown : OS w B e 1 (some ⟨g, 0, none⟩) n c xs)
    (hx : a.eval x = .slice (some ⟨g, k, none⟩) m c') (hm : 0 < m) (hkm : k + m = n)
    (h : ∀ w', OS w' B e 1 (some ⟨g, 0, none⟩) k c (xs.take k) → w.grownBy w' (some g) → wpList P ops Q rest (a.put o.dst (.tuple #[])) w') :
    wpList P ops Q (o :: rest) a w := by
  have hl := hown.len
  have hcell : ∀ j, j < m → (w.cell? ⟨g, k + j, none⟩).isSome = true ∧ w.frozen? ⟨g, k + j, none⟩ = false := fun j hj => by
    have hlt : k + j < xs.length := by omega
    obtain ⟨g', e1, h2, h3⟩ := hown.cell (List.getElem?_eq_getElem hlt)
    injection e1 with e1
    injection e1 with e1
    subst e1
    exact ⟨by rw [h2]; rfl, h3⟩
  have hrun := Lib.run_clear_slice (P := P) w t e o.type z ht hv hz h1 g k m c' hm (fun j hj => (hcell j hj).1) (fun j hj => (hcell j hj).2)
  obtain ⟨ys, h2, h3, h4⟩ := OS.cleared (k := k) (List.replicate m z) k hown (Nat.le_refl _)
  refine wpList_plain hgd fun K hK => ?_
  unfold Oper.wp execOp
  simp only [ho, resolve, invoke, builtin, Sem.run_bind, Sem.run_pure, Result.andThen_ok, List.map_toArray, List.map_cons, List.map_nil, hx, hrun]
  exact hK _ _ (h _ (by rw [← h3]; exact h2.cut (by omega)) h4)
end
theorem comp_short {α : Type} [DecidableEq α] {l : List α} (h : l.length < 2) : comp l = l := comp_same fun k hk => by omega
end Go.Proofs.YtncknfhfkmmhbaaGreat
/- slices.CompactFunc on slices of numbers, in a row that a call owns. No condition beyond those stated. -/
namespace Go.Proofs.YtncknfhfkmmhbaaGreat
open Go.RowKit

def noneSameR (zs : List (List Int)) (k : Nat) : Prop := ∀ (i : Nat), i + 1 < k → row zs (i + 1) ≠ row zs i
theorem noneSameR_step {zs : List (List Int)} {k : Nat} (h : noneSameR zs k) (hk : 0 < k) (hne : row zs k ≠ row zs (k - 1)) : noneSameR zs (k + 1) := fun i hi => by
  rcases Nat.lt_succ_iff_lt_or_eq.1 hi with h1 | h1
  · exact h i h1
  · have e : i = k - 1 := by omega
    subst e
    rw [show k - 1 + 1 = k by omega]
    exact hne
theorem noneSameR_comp {zs : List (List Int)} (h : noneSameR zs zs.length) : comp zs = zs := comp_same fun k hk => by
  have := h k hk
  rwa [row_get hk, row_get (by omega)] at this
theorem compTR_start {zs : List (List Int)} {k : Nat} (h : noneSameR zs (k + 1)) (hk : k + 1 < zs.length) (he : row zs (k + 1) = row zs k) : CompT zs zs (k + 1) (k + 1 + 1) := by
  rw [row_get hk, row_get (by omega)] at he
  refine CompT.start hk (fun i hi hd => ?_) he
  have := h i (by omega)
  rwa [row_get hd, row_get (by omega)] at this
theorem compTR_same {d z : List (List Int)} {k j : Nat} (h : CompT d z k (j + 1)) (hj : j + 1 < d.length) (he : row d (j + 1) = row d j) : CompT d z k (j + 1 + 1) := by
  rw [row_get hj, row_get (by omega)] at he
  exact h.same hj he
theorem compTR_new {d z : List (List Int)} {k j : Nat} (h : CompT d z k (j + 1)) (hj : j + 1 < d.length) (he : row d (j + 1) ≠ row d j) : CompT d (z.set k (row d (j + 1))) (k + 1) (j + 1 + 1) := by
  rw [row_get hj, row_get (by omega)] at he
  rw [row_get hj]
  exact h.new hj he
/-- what is kept stood in the row before, in that order -/
structure SubT {α : Type} (Z Y : List α) (q j : Nat) : Prop where
  sub : (Y.take q).Sublist (Z.take j)
  rest : ∀ i, j ≤ i + 1 → Y[i]? = Z[i]?
theorem SubT.start {α : Type} (Z : List α) (q j : Nat) (h : q ≤ j) : SubT Z Z q j := ⟨List.take_sublist_take_left h, fun _ _ => rfl⟩
theorem SubT.same {α : Type} {Z Y : List α} {q j : Nat} (h : SubT Z Y q j) : SubT Z Y q (j + 1) := ⟨h.sub.trans (List.take_sublist_take_left (Nat.le_succ j)), fun i hi => h.rest i (by omega)⟩
theorem SubT.new {α : Type} {Z Y : List α} {q j : Nat} {p : α} (h : SubT Z Y q j) (hp : Y[j]? = some p) (hqj : q < j) : SubT Z (Y.set q p) (q + 1) (j + 1) := by
  have hz := (h.rest j (by omega)).symm.trans hp
  obtain ⟨hjl, rfl⟩ := List.getElem?_eq_some_iff.1 hz
  have hyl := (List.getElem?_eq_some_iff.1 hp).1
  refine ⟨?_, fun i hi => ?_⟩
  · rw [List.take_succ_eq_append_getElem (by simp; omega), List.take_set_of_le (by omega), List.take_succ_eq_append_getElem hjl]
    refine List.Sublist.append h.sub ?_
    simp
  · rw [List.getElem?_set_ne (by omega)]
    exact h.rest i (by omega)
theorem SubT.done {α : Type} {Z Y : List α} {q j : Nat} (h : SubT Z Y q j) : (Y.take q).Sublist Z := h.sub.trans (List.take_sublist _ _)
abbrev PL := Sl × List Int
/-- slices in a row of the call's own, what they read as beside them -/
structure PV (w : World) (B : Nat) (e2 : TypeId) (g n c : Nat) (Z : List PL) : Prop where
  os : OS w B e2 1 (some ⟨g, 0, none⟩) n c (Z.map fun p => slv p.1)
  rows : ∀ p ∈ Z, p.1.2.1 ≤ p.1.2.2 ∧ p.1.2.2 ≤ 9223372036854775807 ∧ RI w p.1.1 p.1.2.1 p.2 ∧ blk p.1.1 ≠ some g
section
variable {w w' : World} {B : Nat} {e2 : TypeId} {g n c : Nat} {Z : List PL}
theorem RI.kept {A : Option Addr} {m : Nat} {z : List Int} (h : RI w A m z) (hg : w.grownBy w' (some g)) (hne : blk A ≠ some g) : RI w' A m z :=
  ⟨h.len, fun j x hx => by
    obtain ⟨ad, u, ha, hc, he⟩ := RS.at_ h j x hx
    refine ⟨ad, u, ha, ?_, he⟩
    have hb := block_lt hc
    have hblk : (ad.add j).block ≠ g := fun e => hne (by rw [ha]; simp [blk]; rw [← add_block ad j]; exact e)
    have := hg.block _ hb (by intro e; injection e with e; exact hblk e)
    unfold World.cell? at hc ⊢
    rw [this]
    exact hc⟩
theorem PV.len (h : PV w B e2 g n c Z) : Z.length = n := by have := h.os.len; simpa using this
theorem PV.drewN (h : PV w B e2 g n c Z) (q : Nat) : PV (w.drewN q) B e2 g n c Z := ⟨h.os.drewN q, fun p hp => let ⟨a, b, d, e⟩ := h.rows p hp; ⟨a, b, d.keep (below_drewn w q), e⟩⟩
theorem PV.get (h : PV w B e2 g n c Z) {k : Nat} (hk : k < n) : ∃ p, Z[k]? = some p ∧ w.cell? ⟨g, k, none⟩ = some (.slice p.1.1 p.1.2.1 p.1.2.2) ∧ w.frozen? ⟨g, k, none⟩ = false ∧
    p.1.2.1 ≤ p.1.2.2 ∧ p.1.2.2 ≤ 9223372036854775807 ∧ RI w p.1.1 p.1.2.1 p.2 ∧ p.2 = row (Z.map (·.2)) k := by
  have hl : k < Z.length := by rw [h.len]; exact hk
  have hz := List.getElem?_eq_getElem hl
  obtain ⟨g', e1, hc, hf⟩ := h.os.cell (j := k) (u := slv Z[k].1) (by rw [List.getElem?_map, hz]; rfl)
  injection e1 with e1
  injection e1 with e1
  subst e1
  obtain ⟨a, b, d, _⟩ := h.rows _ (List.getElem_mem hl)
  exact ⟨_, hz, hc, hf, a, b, d, by rw [row_get (by simpa using hl)]; simp⟩
theorem PV.set (h : PV w B e2 g n c Z) (q : Nat) {p : PL} (hp : p ∈ Z) : PV (w.setCell ⟨g, q, none⟩ (.slice p.1.1 p.1.2.1 p.1.2.2)) B e2 g n c (Z.set q p) := by
  refine ⟨?_, fun u hu => ?_⟩
  · have := h.os.set q (slv p.1)
    rwa [show (Z.map fun p => slv p.1).set q (slv p.1) = (Z.set q p).map fun p => slv p.1 by rw [List.map_set]] at this
  · have hu' : u ∈ Z := (List.mem_or_eq_of_mem_set hu).elim id (fun e => e ▸ hp)
    obtain ⟨a, b, d, e⟩ := h.rows u hu'
    exact ⟨a, b, d.kept (grown_set (g := g)) e, e⟩
theorem PV.cut {k : Nat} (h : PV w B e2 g n c Z) (hg : w.grownBy w' (some g)) (ho : OS w' B e2 1 (some ⟨g, 0, none⟩) k c ((Z.map fun p => slv p.1).take k)) : PV w' B e2 g k c (Z.take k) :=
  ⟨by rwa [← List.map_take] at ho, fun p hp => let ⟨a, b, d, e⟩ := h.rows p (List.mem_of_mem_take hp); ⟨a, b, d.kept hg e, e⟩⟩
end
set_option maxRecDepth 100000 in
set_option maxHeartbeats 2000000 in
theorem compactR_sub (B g n c : Nat) (Z : List PL) (w : World) (ho : PV w B 33 g n c Z) (hn : n ≤ 1048576) (hgl : g < w.heap.size) :
    Calls Tryz.prog 105 #[.slice (some ⟨g, 0, none⟩) n c, .func (.func 35) #[] #[]] w (fun e w' => ∃ m Y, e = .returned (.slice (some ⟨g, 0, none⟩) m c) ∧ PV w' B 33 g m c Y ∧ Y.map (·.2) = comp (Z.map (·.2)) ∧ Y.Sublist Z ∧ w.grownBy w' (some g)) := by
  have hlen := ho.len
  generalize hD : Z.map (·.2) = D at *
  have hla := Lib.hid (show D.length = n by rw [← hD, List.length_map]; exact hlen)
  have HD := Lib.hid hD
  clear hD
  have hcap := ho.os.cap
  have hz0 : ∀ w, (zeroValue 33).run Tryz.prog w = .ok (.slice none 0 0) w := fun _ => by kernel_rfl
  by_cases h2 : n < 2
  · have HC := Lib.hid (comp_short (l := D) (by rw [hla.out]; exact h2))
    clear hz0
    go_enter Tryz.func105, Tryz.ntmps105
    go_wp2
    go_ret
    exact ⟨n, Z, rfl, ho, by rw [HC.out, HD.out], List.Sublist.refl _, World.grownBy.refl _ _⟩
  · go_enter Tryz.func105, Tryz.ntmps105
    go_wp2
    go_loopw [5] (fun i wr => ∃ k : Nat, k + 1 ≤ n ∧ i = .int .i64 ((k : Int) + 1) ∧ Drawn w wr ∧ noneSameR D (k + 1)) (fun i _ => n - (intOf i).toNat)
    case atStart => exact ⟨0, by omega, rfl, Drawn.refl _, fun i hi => by omega⟩
    case round =>
      obtain ⟨k, hk, rfl, hd, hs⟩ := hrel
      have hod : PV wr B 33 g n c Z := by obtain ⟨q, rfl⟩ := hd; exact ho.drewN q
      by_cases hlt : k + 1 < n
      · have hlt2 : decide ((k : Int) + 1 < (n : Int)) = true := by simp; omega
        obtain ⟨⟨⟨A1, n1, c1⟩, z1⟩, hm1, hc1, hf1, ha1, hb1, hr1, he1⟩ := hod.get (k := k + 1) hlt
        obtain ⟨⟨⟨A0, n0, c0⟩, z0⟩, hm0, hc0, hf0, ha0, hb0, hr0, he0⟩ := hod.get (k := k) (by omega)
        rw [HD.out] at he1 he0
        simp only at hc1 ha1 hb1 hr1 he1 hc0 ha0 hb0 hr0 he0
        have hcmp := fun q => slicesEqual_any A1 A0 n1 n0 c1 c0 z1 z0 (wr.drewN q) (hr1.drewN q) (hr0.drewN q) (by omega) (by omega)
        by_cases he : z1 = z0
        · have HT := Lib.hid (compTR_start hs (by rw [hla.out]; exact hlt) (by rw [← he1, ← he0, he]))
          have he' : decide (z1 = z0) = true := by simp [he]
          have hg0 : w.grownBy wr (some g) := by obtain ⟨q, rfl⟩ := hd; exact ⟨rfl, rfl, rfl, Nat.le_refl _, fun _ _ _ => rfl⟩
          rw [he'] at hcmp
          clear he hs he'
          go_wp2
          go_quiet ((go_at_call 35; exact Quiet.call (hcmp _)))
          go_wp2
          have hod2 : PV (wr.drewN nq) B 33 g n c Z := hod.drewN nq
          have hg2 : w.grownBy (wr.drewN nq) (some g) := ⟨hg0.os, hg0.tape, hg0.output, hg0.size, hg0.block⟩
          clear hod hg0 hc1 hc0 hf1 hf0 hcmp hr1 hr0 hm1 hm0 he1 he0 ha1 ha0 hb1 hb0
          generalize wr.drewN nq = wv at *
          clear hd
          go_loopw [5, 7] (fun t i w2 => ∃ (q j : Nat) (Y : List PL), t = .int .i64 q ∧ i = .int .i64 ((j : Int) + 1) ∧ k + 1 + (j + 1) ≤ n ∧ CompT D (Y.map (·.2)) q (k + 1 + (j + 1)) ∧ SubT Z Y q (k + 1 + (j + 1)) ∧ PV w2 B 33 g n c Y ∧ w.grownBy w2 (some g)) (fun _ i _ => n - (intOf i).toNat)
          case atStart => exact ⟨k + 1, 0, Z, rfl, rfl, by omega, by rw [HD.out]; exact HT.out, SubT.start _ _ _ (by omega), hod2, hg2⟩
          case round =>
            clear hod2 hg2
            obtain ⟨q, j, Y, rfl, rfl, hjn, hT, hSub, hoz, hgz⟩ := hrel
            have hSub := Lib.hid hSub
            have hqj := hT.kj
            by_cases hjl : k + 1 + (j + 1) < n
            · have hjl2 : decide ((j : Int) + 1 < ((n - (k + 1) : Nat) : Int)) = true := by simp; omega
              obtain ⟨⟨⟨A1, n1, c1⟩, z1⟩, hm1, hc1, hf1, ha1, hb1, hr1, he1⟩ := hoz.get (k := k + 1 + (j + 1)) hjl
              obtain ⟨⟨⟨A0, n0, c0⟩, z0⟩, hm0, hc0, hf0, ha0, hb0, hr0, he0⟩ := hoz.get (k := k + 1 + j) (by omega)
              obtain ⟨pq, hmq, hcq, hfq, _⟩ := hoz.get (k := q) (by omega)
              rw [show row (Y.map (·.2)) (k + 1 + (j + 1)) = row D (k + 1 + (j + 1)) by unfold row List.getD; rw [hT.rest _ (by omega)]] at he1
              rw [show row (Y.map (·.2)) (k + 1 + j) = row D (k + 1 + j) by unfold row List.getD; rw [hT.rest _ (by omega)]] at he0
              simp only at hc1 ha1 hb1 hr1 he1 hc0 ha0 hb0 hr0 he0
              have hcmp := fun t => slicesEqual_any A1 A0 n1 n0 c1 c0 z1 z0 (wr.drewN t) (hr1.drewN t) (hr0.drewN t) (by omega) (by omega)
              by_cases he : z1 = z0
              · have HT2 := Lib.hid (compTR_same (j := k + 1 + j) hT (by rw [hla.out]; exact hjl) (by rw [show k + 1 + j + 1 = k + 1 + (j + 1) by omega, ← he1, ← he0, he]))
                have he' : decide (z1 = z0) = true := by simp [he]
                rw [he'] at hcmp
                have HO := Lib.hid (fun t => hoz.drewN t : ∀ t, PV (wr.drewN t) B 33 g n c Y)
                clear he he' hT hoz hcq hfq hm1 hm0 hmq he1 he0
                go_wp2
                go_quiet ((go_at_call 35; exact Quiet.call (hcmp _)))
                go_wp2
                have ho3 := HO.out nq
                have hg3 : w.grownBy (wr.drewN nq) (some g) := ⟨hgz.os, hgz.tape, hgz.output, hgz.size, hgz.block⟩
                go_roundw
                case rel => exact ⟨q, j + 1, Y, rfl, by go_num, by omega, HT2.out, hSub.out.same, ho3, hg3⟩
                case measure => simp [intOf]; omega
              · have HT2 := Lib.hid (compTR_new (j := k + 1 + j) hT (by rw [hla.out]; exact hjl) (by rw [show k + 1 + j + 1 = k + 1 + (j + 1) by omega, ← he1, ← he0]; exact he))
                have he' : decide (z1 = z0) = false := by simp [he]
                rw [he'] at hcmp
                have HO := Lib.hid (fun t => (hoz.drewN t).set q (List.mem_of_getElem? hm1) : ∀ t, PV ((wr.drewN t).setCell ⟨g, q, none⟩ (.slice A1 n1 c1)) B 33 g n c (Y.set q ((A1, n1, c1), z1)))
                have hSub2 := Lib.hid (hSub.out.new hm1 (by omega))
                have HM := Lib.hid (show (Y.set q ((A1, n1, c1), z1)).map (·.2) = (Y.map (·.2)).set q (row D (k + 1 + (j + 1))) by rw [List.map_set, ← he1])
                clear he he' hT hoz hm1 hm0 hmq he1 he0
                go_wp2
                go_quiet ((go_at_call 35; exact Quiet.call (hcmp _)))
                go_wp2
                have ho3 := HO.out nq
                have hg3 : w.grownBy ((wr.drewN nq).setCell ⟨g, q, none⟩ (.slice A1 n1 c1)) (some g) := (show w.grownBy (wr.drewN nq) (some g) from ⟨hgz.os, hgz.tape, hgz.output, hgz.size, hgz.block⟩).trans grown_set
                go_roundw
                case rel => exact ⟨q + 1, j + 1, _, by go_num, by go_num, by omega, by rw [HM.out]; exact HT2.out, hSub2.out, ho3, hg3⟩
                case measure => simp [intOf]; omega
            · have hend := CompT.done (k := q) (by rw [hla.out]; rwa [show k + 1 + (j + 1) = n by omega] at hT)
              have HE := Lib.hid hend
              have hq : q < n := by omega
              clear hT hend
              go_wp2_with (refine wpList_clear _ rfl (.tmp 61) 46 rfl 33 (.slice none 0 0) Tryz.underlying46 hz0 rfl rfl B g q n (n - q) c (c - q) _ hoz.os rfl (by omega) (by omega) ?_; intro w5 ho5 hg5)
              have ho6 := hoz.cut hg5 ho5
              go_wp2
              go_ret
              exact ⟨q, _, rfl, ho6, by rw [List.map_take]; exact HE.out.1, hSub.out.done, hgz.trans hg5⟩
        · have HS := Lib.hid (noneSameR_step (k := k + 1) hs (by omega) (by rw [show k + 1 - 1 = k by omega, ← he1, ← he0]; exact he))
          have he' : decide (z1 = z0) = false := by simp [he]
          rw [he'] at hcmp
          clear he hs he'
          go_wp2
          go_quiet ((go_at_call 35; exact Quiet.call (hcmp _)))
          go_wp2
          go_roundw
          case rel => exact ⟨k + 1, by omega, by go_num, hd.more _, HS.out⟩
          case measure => simp [intOf]; omega
      · have HC := Lib.hid (noneSameR_comp (zs := D) (by rw [hla.out, show n = k + 1 by omega]; exact hs))
        have hg0 : w.grownBy wr (some g) := by obtain ⟨q, rfl⟩ := hd; exact ⟨rfl, rfl, rfl, Nat.le_refl _, fun _ _ _ => rfl⟩
        clear hs
        go_wp2
        go_ret
        exact ⟨n, Z, rfl, hod, by rw [HC.out, HD.out], List.Sublist.refl _, hg0⟩
theorem compactR_any (B g n c : Nat) (Z : List PL) (w : World) (ho : PV w B 33 g n c Z) (hn : n ≤ 1048576) (hgl : g < w.heap.size) :
    Calls Tryz.prog 105 #[.slice (some ⟨g, 0, none⟩) n c, .func (.func 35) #[] #[]] w (fun e w' => ∃ m Y, e = .returned (.slice (some ⟨g, 0, none⟩) m c) ∧ PV w' B 33 g m c Y ∧ Y.map (·.2) = comp (Z.map (·.2)) ∧ w.grownBy w' (some g)) :=
  (compactR_sub B g n c Z w ho hn hgl).mono fun _ _ ⟨m, Y, h1, h2, h3, _, h5⟩ => ⟨m, Y, h1, h2, h3, h5⟩
end Go.Proofs.YtncknfhfkmmhbaaGreat
/-
  DERIVED: THE SHELF's CONTRACTS AT THIS DUMP, IN PLAIN WORDS (tools/lay-plain.mjs out of 'YtncknfhfkmmhbaaGreatLay2X.lean', which tools/lay-shelf.mjs wrote): THE SAME DECLARATIONS UNDER THE SAME NAMES: 'import', 'namespace', 'open', 'def', 'theorem' AND NOTHING ELSE: no command of the shelf's: FOR A HAND-IN. Each laying: the table of numbers ('.._ren') and one theorem, a field a fact of the dump's own or the kernel's comparison; each contract: ONE APPLICATION.
-/
namespace Go.Proofs
open Go.Shelf
def Tryz.srfL_ren : Go.Shelf.Ren := ⟨fun | 6 => 24 | 15 => 43 | 14 => 42 | 28 => 68 | 29 => 69 | 20 => 60 | 21 => 61 | 22 => 62 | 23 => 63 | 24 => 64 | 25 => 65 | 26 => 66 | 27 => 67 | 46 => 92 | 47 => 93 | 48 => 94 | 49 => 95 | 50 => 96 | 57 => 108 | n => n, fun | 22 => 46 | 24 => 33 | 25 => 65 | 3 => 3 | 39 => 80 | 0 => 0 | 53 => 112 | 55 => 58 | 4 => 4 | 46 => 105 | 45 => 104 | 50 => 109 | 5 => 5 | 9 => 9 | 66 => 125 | 70 => 129 | 76 => 141 | 77 => 142 | n => n, fun | n => n⟩
theorem Tryz.srfL : Go.Proofs.SlLaysF.n6 Tryz.prog Tryz.srfL_ren := {
  mixed := by kernel_rfl
  f6 := ⟨Tryz.f24.name, by decide, Tryz.func24.trans (congrArg some (by kernel_rfl))⟩
  f14 := ⟨Tryz.f42.name, by decide, Tryz.func42.trans (congrArg some (by kernel_rfl))⟩
  f15 := Tryz.func43.trans (congrArg some (by kernel_rfl))
  f20 := ⟨Tryz.f60.name, by decide, Tryz.func60.trans (congrArg some (by kernel_rfl))⟩
  f21 := ⟨Tryz.f61.name, by decide, Tryz.func61.trans (congrArg some (by kernel_rfl))⟩
  f22 := ⟨Tryz.f62.name, by decide, Tryz.func62.trans (congrArg some (by kernel_rfl))⟩
  f23 := ⟨Tryz.f63.name, by decide, Tryz.func63.trans (congrArg some (by kernel_rfl))⟩
  f24 := ⟨Tryz.f64.name, by decide, Tryz.func64.trans (congrArg some (by kernel_rfl))⟩
  f25 := ⟨Tryz.f65.name, by decide, Tryz.func65.trans (congrArg some (by kernel_rfl))⟩
  f26 := ⟨Tryz.f66.name, by decide, Tryz.func66.trans (congrArg some (by kernel_rfl))⟩
  f27 := ⟨Tryz.f67.name, by decide, Tryz.func67.trans (congrArg some (by kernel_rfl))⟩
  f28 := Tryz.func68.trans (congrArg some (by kernel_rfl))
  f29 := Tryz.func69.trans (congrArg some (by kernel_rfl))
  f46 := ⟨Tryz.f92.name, by decide, Tryz.func92.trans (congrArg some (by kernel_rfl))⟩
  f47 := Tryz.func93.trans (congrArg some (by kernel_rfl))
  f48 := Tryz.func94.trans (congrArg some (by kernel_rfl))
  f49 := ⟨Tryz.f95.name, by decide, Tryz.func95.trans (congrArg some (by kernel_rfl))⟩
  f50 := ⟨Tryz.f96.name, by decide, Tryz.func96.trans (congrArg some (by kernel_rfl))⟩
  f57 := ⟨Tryz.f108.name, by decide, Tryz.func108.trans (congrArg some (by kernel_rfl))⟩
  t0 := Tryz.underlying0
  a0 := Tryz.isAgg0
  z0 := Tryz.sizeOf0
  v0 := Tryz.zeroValue0
  t3 := Tryz.underlying3
  a3 := Tryz.isAgg3
  z3 := Tryz.sizeOf3
  v3 := Tryz.zeroValue3
  t4 := Tryz.underlying4
  a4 := Tryz.isAgg4
  z4 := Tryz.sizeOf4
  v4 := Tryz.zeroValue4
  t5 := Tryz.underlying5
  a5 := Tryz.isAgg5
  z5 := Tryz.sizeOf5
  v5 := Tryz.zeroValue5
  t9 := Tryz.underlying9
  a9 := Tryz.isAgg9
  z9 := Tryz.sizeOf9
  v9 := Tryz.zeroValue9
  t22 := Tryz.underlying46
  a22 := Tryz.isAgg46
  z22 := Tryz.sizeOf46
  v22 := Tryz.zeroValue46
  a24 := Tryz.isAgg33
  z24 := Tryz.sizeOf33
  t25 := Tryz.underlying65
  a25 := Tryz.isAgg65
  z25 := Tryz.sizeOf65
  v25 := Tryz.zeroValue65
  t39 := Tryz.underlying80
  a39 := Tryz.isAgg80
  z39 := Tryz.sizeOf80
  v39 := Tryz.zeroValue80
  t45 := Tryz.underlying104
  a45 := Tryz.isAgg104
  z45 := Tryz.sizeOf104
  v45 := Tryz.zeroValue104
  t46 := Tryz.underlying105
  a46 := Tryz.isAgg105
  z46 := Tryz.sizeOf105
  v46 := Tryz.zeroValue105
  t50 := Tryz.underlying109
  a50 := Tryz.isAgg109
  z50 := Tryz.sizeOf109
  v50 := Tryz.zeroValue109
  t53 := Tryz.underlying112
  a53 := Tryz.isAgg112
  z53 := Tryz.sizeOf112
  v53 := Tryz.zeroValue112
  t55 := Tryz.underlying58
  a55 := Tryz.isAgg58
  z55 := Tryz.sizeOf58
  v55 := Tryz.zeroValue58
  t66 := Tryz.underlying125
  a66 := Tryz.isAgg125
  z66 := Tryz.sizeOf125
  v66 := Tryz.zeroValue125
  t70 := Tryz.underlying129
  a70 := Tryz.isAgg129
  z70 := Tryz.sizeOf129
  v70 := Tryz.zeroValue129
  t76 := Tryz.underlying141
  a76 := Tryz.isAgg141
  z76 := Tryz.sizeOf141
  v76 := Tryz.zeroValue141
  t77 := Tryz.underlying142
  a77 := Tryz.isAgg142
  z77 := Tryz.sizeOf142
  v77 := Tryz.zeroValue142 }
def Tryz.bsfL_ren : Go.Shelf.Ren := ⟨fun | 14 => 106 | n => n, fun | 22 => 46 | 24 => 33 | 29 => 33 | 32 => 65 | 3 => 3 | 4 => 4 | 35 => 80 | 0 => 0 | n => n, fun | n => n⟩
theorem Tryz.bsfL : Go.Proofs.SlLaysG2.n14 Tryz.prog Tryz.bsfL_ren := {
  mixed := by kernel_rfl
  f14 := ⟨Tryz.f106.name, by decide, Tryz.func106.trans (congrArg some (by kernel_rfl))⟩
  t0 := Tryz.underlying0
  a0 := Tryz.isAgg0
  z0 := Tryz.sizeOf0
  v0 := Tryz.zeroValue0
  t3 := Tryz.underlying3
  a3 := Tryz.isAgg3
  z3 := Tryz.sizeOf3
  v3 := Tryz.zeroValue3
  t4 := Tryz.underlying4
  a4 := Tryz.isAgg4
  z4 := Tryz.sizeOf4
  v4 := Tryz.zeroValue4
  t22 := Tryz.underlying46
  a22 := Tryz.isAgg46
  z22 := Tryz.sizeOf46
  v22 := Tryz.zeroValue46
  a24 := Tryz.isAgg33
  z24 := Tryz.sizeOf33
  a29 := Tryz.isAgg33
  z29 := Tryz.sizeOf33
  t32 := Tryz.underlying65
  a32 := Tryz.isAgg65
  z32 := Tryz.sizeOf65
  v32 := Tryz.zeroValue65
  t35 := Tryz.underlying80
  a35 := Tryz.isAgg80
  z35 := Tryz.sizeOf80
  v35 := Tryz.zeroValue80 }
end Go.Proofs
