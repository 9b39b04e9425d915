/- Appending to memory of a call's own, for this program's slices of numbers and of such slices. No condition beyond those stated. -/
import Derived.Test.YtcnjlkabdfcjdaaZAE
import Derived.Test.YtcnjlkabdfcjdaaZAB
import Derived.Test.YtcnjlkabdfcjdaaProg
import Derived.Test.YtcnjlkabdfcjdaaZAA
import Derived.Test.YtcnjlkabdfcjdaaZAC
import Derived.Deep.QuietTactic
import Derived.BigQuiet
import Derived.StillTailTactics
import Derived.Laws.Bits64b
import Derived.Laws.Closers25b
import Derived.Test.YtcnjlkabdfcjdaaZAG
set_option linter.unusedVariables false
set_option linter.unusedSimpArgs false
namespace Go.Proofs.Ytcnjlkabdfcjdaa
open Go.RowKit

section
variable {w w' : World} {B : Nat} {e2 e1 : TypeId} {A : Option Addr} {n c : Nat} {vs : List Sl} {zss : List (List Int)}
/-- a further row, in a block of its own, behind the append's law -/
theorem ORv.push' (h : ORv w B e2 e1 A n c vs zss) {v : Sl} {z : List Int} (ho : OI w B e1 v.1 v.2.1 v.2.2 z) (hap : ∀ (j : Nat) (u : Sl), vs[j]? = some u → apart u v)
    {A' : Option Addr} {c' : Nat} (hg : w.grownBy w' (blk A)) (hos : OS w' B e2 1 A' (n + 1) c' (vs.map slv ++ [.slice v.1 v.2.1 v.2.2])) : ORv w' B e2 e1 A' (n + 1) c' (vs ++ [v]) (zss ++ [z]) := by
  have hvA : blk v.1 = none ∨ blk v.1 ≠ blk A := OS.typed ho.os h.os (fun e => h.ne e.symm)
  refine ⟨by simpa [slv] using hos, by simp [h.len], fun j u y hu hy => ?_, fun i j u x hij hu hx => ?_, h.ne⟩
  · rw [List.getElem?_append] at hu hy
    rw [h.len] at hu
    split at hu
    · rename_i hj
      rw [if_pos hj] at hy
      exact (h.rows j u y hu hy).kept hg (h.outer_row hu)
    · rename_i hj
      rw [if_neg hj] at hy
      have e : j - zss.length = 0 := by
        have := (List.getElem?_eq_some_iff.1 hu).1
        simp at this; omega
      rw [e] at hu hy
      simp at hu hy
      subst hu; subst hy
      exact ho.kept hg hvA
  · rw [List.getElem?_append] at hu hx
    split at hu
    · split at hx
      · exact h.sep i j u x hij hu hx
      · have : x = v := by
          have := List.mem_of_getElem? hx
          simpa using this
        subst this
        exact hap i u hu
    · have hu' : u = v := by
        have := List.mem_of_getElem? hu
        simpa using this
      subst hu'
      split at hx
      · exact (hap j x hx).symm
      · rename_i h1 h2
        have a1 := (List.getElem?_eq_some_iff.1 hu).1
        have a2 := (List.getElem?_eq_some_iff.1 hx).1
        simp at a1 a2
        omega
end
section
variable {ops : Array Oper} {rest : List Oper} {o : Oper} {a : Act} {Q : Exit → Act → World → Prop}
/-- one number more -/
theorem app_int (w : World) (hgd : o.guard = none) (s x : Operand) (ho : o.op = .call { callee := .builtin .append, args := #[s, x], argTypes := #[30, 30] })
    (B : Nat) (A : Option Addr) (n c : Nat) (zs : List Int) (hs : a.eval s = .slice A n c) (hown : OI w B 2 A n c zs) (u : Int) (g : Nat) (hx : a.eval x = .slice (some ⟨g, 0, none⟩) 1 1) (hgx : g = w.heap.size)
    (hu : I64 u) (hbig : n + 1 ≤ 2199023255552) (hB : B ≤ w.heap.size)
    (h : ∀ A' c' w', OI w' B 2 A' (n + 1) c' (zs ++ [u]) → w.grownBy w' (blk A) → (blk A' = blk A ∨ ∃ k, blk A' = some k ∧ w.heap.size ≤ k) → wpList Try.prog ops Q rest (a.put o.dst (.slice A' (n + 1) c')) w') :
    wpList Try.prog ops Q (o :: rest) a (w.alloc (.cells #[.int .i64 u] 2)) :=
  wpList_app1' w hgd s x 30 ho 2 (.int .i64 0) 8 Try.underlying30 int_info rfl (by omega) B A n c (ints zs) hs hown.os (.int .i64 u) g hx hgx rfl hbig hB
    fun A' c' w' h1 h2 h3 => h A' c' w' (OI.snoc h1 hown.all hu) h2 h3
/-- the numbers of another slice -/
theorem app_ints (w : World) (hgd : o.guard = none) (s x : Operand) (ho : o.op = .call { callee := .builtin .append, args := #[s, x], argTypes := #[30, 30] })
    (B : Nat) (A : Option Addr) (n c : Nat) (zs : List Int) (hs : a.eval s = .slice A n c) (hown : OI w B 2 A n c zs) (A2 : Option Addr) (m c2 : Nat) (ys : List Int) (hx : a.eval x = .slice A2 m c2) (hr : RI w A2 m ys)
    (hbig : n + m ≤ 2199023255552) (hB : B ≤ w.heap.size)
    (h : ∀ A' c' w', OI w' B 2 A' (n + m) c' (zs ++ ys) → w.grownBy w' (blk A) → (blk A' = blk A ∨ blk A' = some w.heap.size) → wpList Try.prog ops Q rest (a.put o.dst (.slice A' (n + m) c')) w') :
    wpList Try.prog ops Q (o :: rest) a w :=
  wpList_app w hgd s x 30 ho 2 (.int .i64 0) 1 8 Try.underlying30 int_info rfl (by omega) (by omega) B A n c (ints zs) hs hown.os A2 m c2 (ints ys) hx (by have := hr.len; simp [ints, this]) hr.news (ints_oneCell ys) hbig hB
    fun A' c' w' h1 h2 h3 => h A' c' w' (OI.cat h1 hown.all hr.all64) h2 h3
/-- one row more: the row's block lies apart from all others -/
theorem app_row (w : World) (hgd : o.guard = none) (s x : Operand) (ho : o.op = .call { callee := .builtin .append, args := #[s, x], argTypes := #[24, 24] })
    (B : Nat) (A : Option Addr) (n c : Nat) (vs : List Sl) (zss : List (List Int)) (hs : a.eval s = .slice A n c) (hown : ORv w B 30 2 A n c vs zss) (v : Sl) (z : List Int) (hv : OI w B 2 v.1 v.2.1 v.2.2 z) (hap : ∀ (j : Nat) (u : Sl), vs[j]? = some u → apart u v)
    (g : Nat) (hx : a.eval x = .slice (some ⟨g, 0, none⟩) 1 1) (hgx : g = w.heap.size) (hbig : n + 1 ≤ 2199023255552) (hB : B ≤ w.heap.size)
    (h : ∀ A' c' w', ORv w' B 30 2 A' (n + 1) c' (vs ++ [v]) (zss ++ [z]) → w.grownBy w' (blk A) → (blk A' = blk A ∨ ∃ k, blk A' = some k ∧ w.heap.size ≤ k) → wpList Try.prog ops Q rest (a.put o.dst (.slice A' (n + 1) c')) w') :
    wpList Try.prog ops Q (o :: rest) a (w.alloc (.cells #[.slice v.1 v.2.1 v.2.2] 30)) :=
  wpList_app1' w hgd s x 24 ho 30 (.slice none 0 0) 24 Try.underlying24 ints_info rfl (by omega) B A n c (vs.map slv) hs hown.os (.slice v.1 v.2.1 v.2.2) g hx hgx rfl hbig hB
    fun A' c' w' h1 h2 h3 => h A' c' w' (ORv.push' hown hv hap h2 h1) h2 h3
end
end Go.Proofs.Ytcnjlkabdfcjdaa
/- A place of a row of one's own rows: where it stands, and what it is to write it over. No condition beyond those stated. -/
namespace Go.Proofs.Ytcnjlkabdfcjdaa
open Go.RowKit

section
variable {w w' : World} {B : Nat} {e2 e1 : TypeId} {A : Option Addr} {n c : Nat} {vs : List Sl} {zss : List (List Int)}
/-- the row i, its place j -/
structure At2 (w : World) (B : Nat) (e2 e1 : TypeId) (A : Option Addr) (n c : Nat) (vs : List Sl) (zss : List (List Int)) (i j g r m k : Nat) : Prop where
  ha : A = some ⟨g, 0, none⟩
  co : w.cell? ⟨g, i, none⟩ = some (.slice (some ⟨r, 0, none⟩) m k)
  fo : w.frozen? ⟨g, i, none⟩ = false
  hm : (row zss i).length = m
  mle : m ≤ k
  k1 : k ≤ 9223372036854775807
  ci : w.cell? ⟨r, j, none⟩ = some (.int .i64 (nth (row zss i) j))
  fi : w.frozen? ⟨r, j, none⟩ = false
  br : B ≤ r
  rl : r < w.heap.size
  iz : I64 (nth (row zss i) j)
  set : ∀ u, I64 u → ORv (w.setCell ⟨r, j, none⟩ (.int .i64 u)) B e2 e1 A n c vs (zss.set i ((row zss i).set j u))
theorem ORv.at2 (h : ORv w B e2 e1 A n c vs zss) {i j : Nat} (hi : i < n) (hj : j < (row zss i).length) : ∃ g r m k, At2 w B e2 e1 A n c vs zss i j g r m k := by
  obtain ⟨g, v, ha, hv, co, fo, hr⟩ := h.get hi
  obtain ⟨r, hr1, ci, fi, iz⟩ := hr.cell (k := j) (by rw [← hr.len]; exact hj)
  have hlt := hr.os.lt (k := r) (by rw [hr1]; rfl)
  refine ⟨g, r, v.2.1, v.2.2, ha, by rw [co, hr1], fo, hr.len, hr.os.cap.1, hr.os.cap.2, ci, fi, hlt.1, hlt.2, iz, fun u hu => ?_⟩
  have h2 : OI w B e1 (some ⟨r, 0, none⟩) v.2.1 v.2.2 (row zss i) := by rw [← hr1]; exact hr
  have h3 := h2.set j hu
  rw [← hr1] at h3
  refine h.wrote hv ?_ h3
  rw [hr1]
  exact ⟨rfl, rfl, rfl, by simp [World.setCell], fun k _ hk => Below.heap_setCell _ _ _ _ (fun e => hk (by rw [e]; rfl))⟩
theorem ORv.keptB {g : Nat} (h : ORv w B e2 e1 A n c vs zss) (hg : w.grownBy w' (some g)) (hb : g < B) : ORv w' B e2 e1 A n c vs zss := by
  have far : ∀ {e : TypeId} {size : Nat} {A : Option Addr} {n c : Nat} {xs : List Value}, OS w B e size A n c xs → blk A = none ∨ blk A ≠ some g := fun {e size A n c xs} ho => by
    cases A with
    | none => exact .inl rfl
    | some a => exact .inr fun e => by have := (ho.lt (k := a.block) rfl).1; simp only [blk, Option.map_some, Option.some.injEq] at e; omega
  refine h.kept hg (far h.os) fun j v hv => ?_
  have hj : j < zss.length := by rw [← h.len]; exact (List.getElem?_eq_some_iff.1 hv).1
  exact far (h.rows j v _ hv (List.getElem?_eq_getElem hj)).os
theorem OR.keptB {g : Nat} (h : OR w B e2 e1 A n c zss) (hg : w.grownBy w' (some g)) (hb : g < B) : OR w' B e2 e1 A n c zss := by
  obtain ⟨vs, h⟩ := h
  exact ⟨vs, h.keptB hg hb⟩
theorem OI.keptB {g : Nat} {zs : List Int} (h : OI w B e1 A n c zs) (hg : w.grownBy w' (some g)) (hb : g < B) : OI w' B e1 A n c zs :=
  h.kept hg (by
    cases A with
    | none => exact .inl rfl
    | some a => exact .inr fun e => by have := (h.os.lt (k := a.block) rfl).1; simp only [blk, Option.map_some, Option.some.injEq] at e; omega)
end
end Go.Proofs.Ytcnjlkabdfcjdaa
/- The source of choices that a law draws its input from: what a call returns lies in its range, and nothing else is touched. No condition beyond those stated. -/
namespace Go.Proofs.Ytcnjlkabdfcjdaa
open Go.RowKit

/-- some draws on -/
def Drawn' (w w' : World) : Prop := ∃ q, w' = w.drewN q
theorem Drawn'.below {a b : World} (h : Drawn' a b) : Below a.heap.size a b := by
  obtain ⟨p, rfl⟩ := h
  exact below_drewn _ _
/-- block g is a source of choices, p of them made -/
def Src (w : World) (g p : Nat) : Prop := ∃ (A : Option Addr) (n c : Nat) (bs : List Int) (sd : Int),
  Blk w g 93 #[.slice A n c, .int .i64 p, .int .u64 sd] ∧ RS EByte w A n bs ∧ (0 < n → ∀ a, A = some a → a.block < g) ∧ n ≤ 9223372036854775807 ∧ 0 ≤ sd ∧ sd ≤ 18446744073709551615
theorem Src.lt {w : World} {g p : Nat} (h : Src w g p) : g < w.heap.size := by
  obtain ⟨A, n, c, bs, sd, hB, _⟩ := h
  exact hB.lt
theorem Src.kept {w w' : World} {g p : Nat} {r : Option Nat} (h : Src w g p) (hg : w.grownBy w' r) (hr : ∀ b, r = some b → g < b) : Src w' g p := by
  obtain ⟨A, n, c, bs, sd, hB, hR, hA, rest⟩ := h
  refine ⟨A, n, c, bs, sd, hB.grown hg (fun e => by have := hr g e.symm; omega), ⟨hR.len, fun j x hx => ?_⟩, hA, rest⟩
  obtain ⟨ad, u, ha, hc, he⟩ := hR.at_ j x hx
  have hlt := hA (by have := hR.len; have := (List.getElem?_eq_some_iff.1 hx).1; omega) ad ha
  exact ⟨ad, u, ha, hg.cell hc (fun e => by rw [add_block] at e; have := hr _ e.symm; omega), he⟩
theorem Src.below {w w' : World} {g p : Nat} (h : Src w g p) (hb : Below w.heap.size w w') : Src w' g p := h.kept (grownBy_of_below hb none) (fun _ e => by cases e)

/-- what a call of a source leaves: a number from lo to hi, the source some choices on -/
def Drew (w : World) (g p k : Nat) (lo hi : Int) (e : Ending) (w' : World) : Prop :=
  ∃ (x : Int) (q : Nat), e = .returned (.int .i64 x) ∧ lo ≤ x ∧ x ≤ hi ∧ q ≤ p + k ∧ Src w' g q ∧ w.grownBy w' (some g)

theorem u64_bd (n : Int) : 0 ≤ IntKind.u64.wrap n ∧ IntKind.u64.wrap n ≤ 18446744073709551615 := by
  rw [IntKind.wrap_u64]
  omega
theorem grown_putS {w : World} {g p : Nat} {u : Value} : w.grownBy (w.setCell ⟨g, p, none⟩ u) (some g) :=
  ⟨rfl, rfl, rfl, by simp [World.setCell], fun k _ hk => Below.heap_setCell _ _ _ _ (fun e => hk (by rw [e]))⟩
theorem grown_drewN (w : World) (n : Nat) (r : Option Nat) : w.grownBy (w.drewN n) r := grownBy_of_below (below_drewn w n) r

theorem EBytes.keep {w w' : World} {A : Option Addr} {n : Nat} {bs : List Int} (h : RS EByte w A n bs) (hb : Below w.heap.size w w') : RS EByte w' A n bs := RS.keep keeps_EByte h hb
theorem EBytes.grown {w w' : World} {g : Nat} {A : Option Addr} {n : Nat} {bs : List Int} (h : RS EByte w A n bs) (hg : w.grownBy w' (some g)) (hA : 0 < n → ∀ a, A = some a → a.block < g) : RS EByte w' A n bs :=
  ⟨h.len, fun j x hx => let ⟨ad, u, ha, hc, he⟩ := h.at_ j x hx; ⟨ad, u, ha, hg.cell hc (fun e => by rw [add_block] at e; injection e with e; have := hA (by have := h.len; have := (List.getElem?_eq_some_iff.1 hx).1; omega) ad ha; omega), he⟩⟩
theorem Src.set {w w' : World} {g p q : Nat} {A : Option Addr} {n c : Nat} {bs : List Int} {sd : Int} (hg : w.grownBy w' (some g)) (hB : Blk w' g 93 #[.slice A n c, .int .i64 q, .int .u64 sd]) (hR : RS EByte w A n bs) (hA : 0 < n → ∀ a, A = some a → a.block < g) (hn : n ≤ 9223372036854775807) (h1 : 0 ≤ sd) (h2 : sd ≤ 18446744073709551615) : Src w' g q :=
  ⟨A, n, c, bs, sd, hB, EBytes.grown hR hg hA, hA, hn, h1, h2⟩
theorem bits_and255 (x : Int) (h : 0 ≤ x) (h2 : x ≤ 18446744073709551615) : 0 ≤ bits BinOp.and IntKind.u64 x 255 ∧ bits BinOp.and IntKind.u64 x 255 ≤ 255 := by
  have e := bits_and_u64_nat x.toNat 255 (by omega) (by omega)
  rw [Int.toNat_of_nonneg h] at e
  have e2 : bits BinOp.and IntKind.u64 x 255 = ((x.toNat &&& 255 : Nat) : Int) := e
  have := Nat.and_le_right (n := x.toNat) (m := 255)
  omega
theorem next_tail (x : Int) (h : 0 ≤ x) (h2 : x ≤ 18446744073709551615) : 0 ≤ wrap64 (bits BinOp.and IntKind.u64 (x / 1099511627776) 255) ∧ wrap64 (bits BinOp.and IntKind.u64 (x / 1099511627776) 255) ≤ 255 := by
  have h := bits_and255 (x / 1099511627776) (by omega) (by omega)
  have e : wrap64 (bits BinOp.and IntKind.u64 (x / 1099511627776) 255) = bits BinOp.and IntKind.u64 (x / 1099511627776) 255 := IntWalk.wrap64_in _ (by omega)
  rw [e]
  exact h
theorem nth_in {zs : List Int} {k : Nat} (h : k < zs.length) : nth zs k ∈ zs := by rw [nth_get h]; exact List.getElem_mem h

set_option maxHeartbeats 1000000 in
theorem next_any (g p : Nat) (w : World) (hs : Src w g p) (hp : p ≤ 1125899906842624) :
    Calls Try.prog 92 #[.pointer (some ⟨g, 0, none⟩)] w (Drew w g p 1 0 255) := by
  obtain ⟨A, n, c, bs, sd, hB, hR, hA, hn, hs1, hs2⟩ := hs
  obtain ⟨k1, k2, k3⟩ := hB.cells3
  by_cases hlt : p < n
  · obtain ⟨ad, u, x, rfl, hx, hc, rfl, x0, x1⟩ := hR.get hlt
    have HRd := Lib.hid hR
    clear hR hx
    go_enter Try.func92, Try.ntmps92
    go_wp2
    go_quiet (fail)
    go_wp2
    go_quiet (fail)
    generalize hwa : w.drewN _ = wa
    have hd : Drawn w wa := ⟨_, hwa.symm⟩
    have hB2 := hB.after hd.below
    clear hwa k1 k2 k3 hc
    obtain ⟨k1, k2, k3⟩ := hB2.cells3
    have f1 := hB2.frozen 1
    have f2 := hB2.frozen 2
    go_wp2
    obtain ⟨sd2, hsd⟩ : ∃ sd2, IntKind.u64.wrap (IntKind.u64.wrap (IntKind.u64.wrap (sd * 6364136223846793005) + x) + 1442695040888963407) = sd2 := ⟨_, rfl⟩
    rw [hsd]
    have hsb := u64_bd (IntKind.u64.wrap (IntKind.u64.wrap (sd * 6364136223846793005) + x) + 1442695040888963407)
    rw [hsd] at hsb
    have hB3 : Blk (((wa.drewN nq).setCell ⟨g, 1, none⟩ (.int .i64 ((p : Int) + 1))).setCell ⟨g, 2, none⟩ (.int .u64 sd2)) g 93 #[.slice (some ad) n c, .int .i64 ((p : Int) + 1), .int .u64 sd2] :=
      ((hB2.after (below_drewn wa nq)).set_ 1 (.int .i64 ((p : Int) + 1))).set_ 2 (.int .u64 sd2)
    have hgr : w.grownBy (((wa.drewN nq).setCell ⟨g, 1, none⟩ (.int .i64 ((p : Int) + 1))).setCell ⟨g, 2, none⟩ (.int .u64 sd2)) (some g) :=
      (((grownBy_of_below hd.below (some g)).trans (grown_drewN wa nq (some g))).trans grown_putS).trans grown_putS
    clear hsd k1 k2 k3 f1 f2 hB2 hd
    generalize ((wa.drewN nq).setCell ⟨g, 1, none⟩ (.int .i64 ((p : Int) + 1))).setCell ⟨g, 2, none⟩ (.int .u64 sd2) = wb at *
    obtain ⟨k1, k2, k3⟩ := hB3.cells3
    have hlt2 : p + 1 ≤ n := hlt
    go_quiet (fail)
    go_wp2
    go_ret
    refine ⟨x, p + 1, rfl, x0, x1, Nat.le_refl _, Src.set (w := w) (p := p) (hgr.trans (grown_drewN wb nq (some g))) (hB3.after (below_drewn wb nq)) HRd.out hA hn hsb.1 hsb.2, hgr.trans (grown_drewN wb nq (some g))⟩
  · have hlt' : n ≤ p := by omega
    have HRd := Lib.hid hR
    clear hR
    go_enter Try.func92, Try.ntmps92
    go_wp2
    go_quiet (fail)
    generalize hwa : w.drewN _ = wa
    have hd : Drawn w wa := ⟨_, hwa.symm⟩
    have hB2 := hB.after hd.below
    clear hwa k1 k2 k3
    obtain ⟨k1, k2, k3⟩ := hB2.cells3
    have f1 := hB2.frozen 1
    have f2 := hB2.frozen 2
    go_wp2
    obtain ⟨sd2, hsd⟩ : ∃ sd2, IntKind.u64.wrap (IntKind.u64.wrap (IntKind.u64.wrap (sd * 6364136223846793005)) + 1442695040888963407) = sd2 := ⟨_, rfl⟩
    rw [hsd]
    have hsb := u64_bd (IntKind.u64.wrap (IntKind.u64.wrap (sd * 6364136223846793005)) + 1442695040888963407)
    rw [hsd] at hsb
    have hB3 : Blk ((wa.setCell ⟨g, 1, none⟩ (.int .i64 ((p : Int) + 1))).setCell ⟨g, 2, none⟩ (.int .u64 sd2)) g 93 #[.slice A n c, .int .i64 ((p : Int) + 1), .int .u64 sd2] :=
      (hB2.set_ 1 (.int .i64 ((p : Int) + 1))).set_ 2 (.int .u64 sd2)
    have hgr : w.grownBy ((wa.setCell ⟨g, 1, none⟩ (.int .i64 ((p : Int) + 1))).setCell ⟨g, 2, none⟩ (.int .u64 sd2)) (some g) :=
      ((grownBy_of_below hd.below (some g)).trans grown_putS).trans grown_putS
    have HSB := Lib.hid hsb
    have HT := Lib.hid (next_tail sd2 hsb.1 hsb.2)
    clear hsd k1 k2 k3 f1 f2 hB2 hd hsb
    generalize (wa.setCell ⟨g, 1, none⟩ (.int .i64 ((p : Int) + 1))).setCell ⟨g, 2, none⟩ (.int .u64 sd2) = wb at *
    obtain ⟨k1, k2, k3⟩ := hB3.cells3
    have hlt2 : ¬ p + 1 ≤ n := by omega
    have hdc : decide ((p : Int) + 1 ≤ (n : Int)) = false := by simp; omega
    go_quiet (fail)
    clear hdc
    have hB4 := hB3.after (below_drewn wb nq)
    have hg4 := hgr.trans (grown_drewN wb nq (some g))
    generalize wb.drewN nq = wc at *
    clear k1 k2 k3
    obtain ⟨k1, k2, k3⟩ := hB4.cells3
    go_wp2
    go_ret
    exact ⟨_, p + 1, rfl, HT.out.1, HT.out.2, Nat.le_refl _, Src.set (w := w) (p := p) hg4 hB4 HRd.out hA hn HSB.out.1 HSB.out.2, hg4⟩
/-- 'pick(n)': a number from 0 to n - 1; 0 where n is 1 or less -/
theorem pick_low (g : Nat) (n : Int) (w : World) (hn : n ≤ 1) : Calls Try.prog 68 #[.pointer (some ⟨g, 0, none⟩), .int .i64 n] w fun e w' => e = .returned (.int .i64 0) ∧ w = w' := by
  go_enter Try.func68, Try.ntmps68
  go_wp2
  go_ret
  exact ⟨rfl, rfl⟩
theorem Drew.mk {w w' : World} {g p k q : Nat} {lo hi x : Int} (h1 : lo ≤ x) (h2 : x ≤ hi) (hq : q ≤ p + k) (hs : Src w' g q) (hg : w.grownBy w' (some g)) : Drew w g p k lo hi (.returned (.int .i64 x)) w' := ⟨x, q, rfl, h1, h2, hq, hs, hg⟩
set_option maxHeartbeats 1000000 in
theorem pick_any (g p : Nat) (n : Int) (w : World) (hs : Src w g p) (hp : p ≤ 1125899906842623) (h1 : 1 ≤ n) (h2 : n ≤ 60000) :
    Calls Try.prog 68 #[.pointer (some ⟨g, 0, none⟩), .int .i64 n] w (Drew w g p 2 0 (n - 1)) := by
  by_cases h0 : n ≤ 1
  · refine (pick_low g n w h0).mono ?_
    rintro e w' ⟨rfl, rfl⟩
    exact Drew.mk (Int.le_refl _) (by omega) (Nat.le_add_right _ _) hs (World.grownBy.refl w _)
  · have h1' : 1 < n := by omega
    by_cases h3 : n ≤ 200
    · go_enter Try.func68, Try.ntmps68
      go_wp2_with fail
      refine (next_any g p w hs (by omega)).mono ?_
      rintro e w1 ⟨x, q, rfl, x0, x1, hq, hs1, hg1⟩
      have HM := Lib.hid (show 0 ≤ x % n ∧ x % n < n from ⟨Int.emod_nonneg _ (by omega), Int.emod_lt_of_pos _ (by omega)⟩)
      go_wp2
      go_ret
      exact Drew.mk (q := q) HM.out.1 (by have := HM.out.2; omega) (by omega) hs1 hg1
    · have h3' : 200 < n := by omega
      go_enter Try.func68, Try.ntmps68
      go_wp2_with fail
      refine (next_any g p w hs (by omega)).mono ?_
      rintro e w1 ⟨x, q, rfl, x0, x1, hq, hs1, hg1⟩
      go_wp2_with fail
      refine (next_any g q w1 hs1 (by omega)).mono ?_
      rintro e w2 ⟨y, r, rfl, y0, y1, hr, hs2, hg2⟩
      have HM := Lib.hid (show 0 ≤ (x * 256 + y) % n ∧ (x * 256 + y) % n < n from ⟨Int.emod_nonneg _ (by omega), Int.emod_lt_of_pos _ (by omega)⟩)
      go_wp2
      go_ret
      exact Drew.mk (q := r) HM.out.1 (by have := HM.out.2; omega) (by omega) hs2 (hg1.trans hg2)
/-- what 'one' leaves -/
def DrewB (w : World) (g p : Nat) (e : Ending) (w' : World) : Prop := ∃ (b : Bool) (q : Nat), e = .returned (.bool b) ∧ q ≤ p + 2 ∧ Src w' g q ∧ w.grownBy w' (some g)
set_option maxHeartbeats 1000000 in
theorem one_any (g p : Nat) (n : Int) (w : World) (hs : Src w g p) (hp : p ≤ 1125899906842623) (h1 : 1 ≤ n) (h2 : n ≤ 60000) :
    Calls Try.prog 56 #[.pointer (some ⟨g, 0, none⟩), .int .i64 n] w (DrewB w g p) := by
  go_enter Try.func56, Try.ntmps56
  go_wp2_with fail
  refine (pick_any g p n w hs hp h1 h2).mono ?_
  rintro e w1 ⟨x, q, rfl, x0, x1, hq, hs1, hg1⟩
  go_wp2
  go_ret
  exact ⟨_, q, rfl, hq, hs1, hg1⟩
/-- what 'among' leaves: one of the numbers -/
def DrewA (w : World) (g p : Nat) (zs : List Int) (e : Ending) (w' : World) : Prop := ∃ (x : Int) (q : Nat), e = .returned (.int .i64 x) ∧ x ∈ zs ∧ q ≤ p + 2 ∧ Src w' g q ∧ w.grownBy w' (some g)
set_option maxHeartbeats 1000000 in
theorem among_any (g p : Nat) (A : Option Addr) (n c : Nat) (zs : List Int) (w : World) (hs : Src w g p) (hp : p ≤ 1125899906842623) (ha : RI w A n zs) (hA : ∀ a, A = some a → a.block ≠ g) (h1 : 1 ≤ n) (h2 : n ≤ 60000) :
    Calls Try.prog 33 #[.pointer (some ⟨g, 0, none⟩), .slice A n c] w (DrewA w g p zs) := by
  have hla := Lib.hid ha.len
  go_enter Try.func33, Try.ntmps33
  go_wp2_with fail
  refine (pick_any g p n w hs hp (by omega) (by omega)).mono ?_
  rintro e w1 ⟨x, q, rfl, x0, x1, hq, hs1, hg1⟩
  obtain ⟨y, rfl⟩ := Int.eq_ofNat_of_zero_le x0
  obtain ⟨ad, rfl, hc, hi⟩ := ha.get (k := y) (by omega)
  have hc1 := hg1.cell hc (fun e => by rw [add_block] at e; injection e with e; exact hA ad rfl e)
  have HM := Lib.hid (nth_in (zs := zs) (k := y) (by rw [hla.out]; omega))
  generalize nth zs y = z at *
  clear hc hi
  go_wp2
  go_ret
  exact ⟨z, q, rfl, HM.out, hq, hs1, hg1⟩
set_option maxHeartbeats 1000000 in
theorem l00From_any (A : Option Addr) (n c : Nat) (bs : List Int) (w : World) (ha : RS EByte w A n bs) (hn : n ≤ 9223372036854775807) :
    Calls Try.prog 31 #[.slice A n c] w fun e w' => e = .returned (.pointer (some ⟨w.heap.size, 0, none⟩)) ∧ Src w' w.heap.size 0 ∧ Below w.heap.size w w' := by
  go_enter Try.func31, Try.ntmps31
  go_wp2
  go_ret
  refine ⟨rfl, ⟨A, n, c, bs, 0, Blk.new _ _ _, EBytes.keep ha (below_alloc _ _), fun h0 a hA => ?_, hn, by omega, by omega⟩, below_alloc _ _⟩
  subst hA
  obtain ⟨ad, u, x, e, -, hc, -⟩ := ha.get h0
  cases e
  have := block_lt hc
  rwa [add_block] at this
end Go.Proofs.Ytcnjlkabdfcjdaa
/- The permutation that leaves all in place, on both sides. No condition beyond those stated. -/
namespace Go.Proofs.Ytcnjlkabdfcjdaa
open Go.RowKit

theorem iota_step {n k : Nat} (h : k < n) : (copied (iotaP n) (List.replicate n 0) k).set k (k : Int) = copied (iotaP n) (List.replicate n 0) (k + 1) := by
  have := copied_step (xs := iotaP n) (zs := List.replicate n 0) (j := k) (by rw [iotaP_len]; exact h) (by simpa using h)
  rwa [iotaP_nth h] at this
theorem iota_take {n k : Nat} (h : k < n) : (iotaP n).take k ++ [(k : Int)] = (iotaP n).take (k + 1) := by
  rw [List.take_succ_eq_append_getElem (by rw [iotaP_len]; exact h), ← nth_get (by rw [iotaP_len]; exact h), iotaP_nth h]
set_option maxHeartbeats 1000000 in
theorem l04One_any (n : Nat) (w : World) (hn : n ≤ 1048576) :
    Calls Try.prog 103 #[.int .i64 n] w (RetI w 2 (iotaP n)) := by
  go_enter Try.func103, Try.ntmps103
  go_wp2_with fail
  have hb1 := below_alloc w (.cells #[] 2)
  have ho0 : OI (w.alloc (.cells #[] 2)) w.heap.size 2 (some ⟨w.heap.size, 0, none⟩) 0 0 ((iotaP n).take 0) := by simpa [ints] using OI.lit w w.heap.size 2 [] (Nat.le_refl _) (by simp) (by simp [All64])
  go_loopw [3, 4] (fun l i wr => ∃ (k : Nat) (A' : Option Addr) (c' : Nat), k ≤ n ∧ i = .int .i64 k ∧ l = .slice A' k c' ∧ OI wr w.heap.size 2 A' k c' ((iotaP n).take k) ∧ Below w.heap.size w wr) (fun _ i _ => n - (intOf i).toNat)
  case atStart => exact ⟨0, _, 0, Nat.zero_le _, rfl, rfl, ho0, hb1⟩
  case round =>
    clear ho0 hb1
    obtain ⟨k, A', c', hk, rfl, rfl, ho, hw⟩ := hrel
    by_cases hlt : k < n
    · have HN := Lib.hid (iota_take hlt)
      have hki : I64 (k : Int) := by unfold I64; omega
      have hws := hw.size
      go_wp2_with (at_builtin; refine app_int _ rfl (.tmp 11) (.tmp 13) rfl w.heap.size A' k c' _ rfl ho (k : Int) wr.heap.size rfl rfl hki (by omega) hws ?_; intro A4 c4 w4 ho4 hg4 hf4; have hb4 := below_own hw hg4 hws (fun q hq => (ho.os.lt hq).1))
      rw [HN.out] at ho4
      go_roundw
      case rel => exact ⟨k + 1, A4, c4, by omega, by go_num, rfl, ho4, hb4⟩
      case measure => simp [intOf]; omega
    · obtain rfl : k = n := by omega
      rw [List.take_of_length_le (by rw [iotaP_len]; exact Nat.le_refl _)] at ho
      go_wp2
      go_ret
      exact ⟨_, _, _, rfl, ho, hw⟩
end Go.Proofs.Ytcnjlkabdfcjdaa
