/- The words of a code, in plain words. No condition beyond those stated. -/
import Derived.Test.YtdkbcjdimhgmnaaGreatSJI
import Derived.Test.YtdkbcjdimhgmnaaGreatSHM
set_option linter.unusedVariables false
set_option linter.unusedSimpArgs false
namespace Go.Proofs.YtdkbcjdimhgmnaaGreat
open Go.RowKit
def plusR (p : Int) (k : Nat) (a b : List Int) : List Int := (List.range a.length).map fun i => sumP p k 1 (nth a i) (nth b i)
theorem plusR_len (p : Int) (k : Nat) (a b : List Int) : (plusR p k a b).length = a.length := by simp [plusR]
theorem plusR_nth (p : Int) (k : Nat) (a b : List Int) {i : Nat} (h : i < a.length) : nth (plusR p k a b) i = sumP p k 1 (nth a i) (nth b i) := by
  unfold plusR
  rw [nth_map_range, if_pos h]
theorem VecQ.plus {p : Int} (h0 : 0 < p) (k : Nat) (a b : List Int) : VecQ (p ^ k) (plusR p k a b) := fun i hi => by
  rw [plusR_len] at hi
  rw [plusR_nth p k a b hi]
  exact sumP_bd h0 k _ _ _
theorem wscale_len (p : Int) (k : Nat) (f : List Int) (x : Int) (r : List Int) : (scaleR p k f x r).length = r.length := by simp [scaleR]
def sumsR (p : Int) (k : Nat) (f : List Int) (q : Nat) (r w : List Int) : List (List Int) := (List.range q).map fun (x : Nat) => plusR p k w (scaleR p k f x r)
theorem sumsR_len (p : Int) (k : Nat) (f : List Int) (q : Nat) (r w : List Int) : (sumsR p k f q r w).length = q := by simp [sumsR]
theorem sumsR_row (p : Int) (k : Nat) (f : List Int) {q x : Nat} (r w : List Int) (h : x < q) : row (sumsR p k f q r w) x = plusR p k w (scaleR p k f x r) := by
  rw [row_get (by rw [sumsR_len]; exact h)]
  simp [sumsR]
def wordsTo (p : Int) (k : Nat) (f : List Int) (q n : Nat) (rows : List (List Int)) : Nat → List (List Int)
  | 0 => [List.replicate n 0]
  | j + 1 => (wordsTo p k f q n rows j).flatMap fun w => sumsR p k f q (row rows j) w
theorem flatMap_len {L : List (List Int)} {F : List Int → List (List Int)} {q : Nat} (h : ∀ w, (F w).length = q) : (L.flatMap F).length = L.length * q := by
  induction L with
  | nil => simp
  | cons a L ih => rw [List.flatMap_cons, List.length_append, h, ih, List.length_cons, Nat.succ_mul]; omega
theorem row_cons_app {A B : List (List Int)} {i : Nat} : row (A ++ B) i = if i < A.length then row A i else row B (i - A.length) := by
  unfold row
  simp only [List.getD, List.getElem?_append]
  split <;> rfl
theorem flatMap_row {L : List (List Int)} {F : List Int → List (List Int)} {q : Nat} (h : ∀ w, (F w).length = q) : ∀ {i x : Nat}, i < L.length → x < q → row (L.flatMap F) (i * q + x) = row (F (row L i)) x := by
  induction L with
  | nil => intro i x hi; simp at hi
  | cons a L ih =>
    intro i x hi hx
    rw [List.flatMap_cons, row_cons_app, h]
    cases i with
    | zero => rw [if_pos (by omega), Nat.zero_mul, Nat.zero_add]; rfl
    | succ i =>
      rw [if_neg (by rw [Nat.succ_mul]; omega), show (i + 1) * q + x - q = i * q + x from by rw [Nat.succ_mul]; omega, ih (by simpa using hi) hx]
      rfl
theorem wordsTo_len (p : Int) (k : Nat) (f : List Int) (q n : Nat) (rows : List (List Int)) (j : Nat) : (wordsTo p k f q n rows j).length = q ^ j := by
  induction j with
  | zero => rfl
  | succ j ih => rw [wordsTo, flatMap_len (fun w => sumsR_len p k f q _ w), ih, Nat.pow_succ]
theorem wordsTo_row {p : Int} (h0 : 0 < p) (k : Nat) (f : List Int) (q n : Nat) (rows : List (List Int)) : ∀ j i, i < q ^ j → (row (wordsTo p k f q n rows j) i).length = n ∧ VecQ (p ^ k) (row (wordsTo p k f q n rows j) i) := by
  intro j
  induction j with
  | zero =>
    intro i hi
    have : i = 0 := by simpa using hi
    subst this
    refine ⟨by simp [wordsTo, row], fun t ht => ?_⟩
    have e : row (wordsTo p k f q n rows 0) 0 = List.replicate n 0 := rfl
    rw [e] at ht ⊢
    rw [List.length_replicate] at ht
    rw [nth_get (by simpa using ht), List.getElem_replicate]
    exact ⟨Int.le_refl _, Int.pow_pos h0⟩
  | succ j ih =>
    intro i hi
    have hq : 0 < q := by
      rcases Nat.eq_zero_or_pos q with h | h
      · subst h; simp at hi
      · exact h
    have e : i = (i / q) * q + i % q := by rw [Nat.mul_comm]; exact (Nat.div_add_mod i q).symm
    have h1 : i / q < q ^ j := Nat.div_lt_of_lt_mul (by rw [Nat.mul_comm, ← Nat.pow_succ]; exact hi)
    have h2 := Nat.mod_lt i hq
    rw [wordsTo, e, flatMap_row (fun w => sumsR_len p k f q _ w) (by rw [wordsTo_len]; exact h1) h2, sumsR_row p k f _ _ h2]
    exact ⟨by rw [plusR_len]; exact (ih _ h1).1, VecQ.plus h0 k _ _⟩
theorem take_rowW {L : List (List Int)} {x : Nat} (h : x < L.length) : L.take x ++ [row L x] = L.take (x + 1) := by
  rw [List.take_succ_eq_append_getElem h, row_get h]
def supW (z : List Int) : List Int := ((List.range z.length).filter fun i => nth z i != 0).map fun (i : Nat) => (i : Int)
theorem mem_supW {z : List Int} {x : Nat} : (x : Int) ∈ supW z ↔ x < z.length ∧ nth z x ≠ 0 := by
  unfold supW
  simp only [List.mem_map, List.mem_filter, List.mem_range]
  constructor
  · rintro ⟨a, ⟨h1, h2⟩, h3⟩
    obtain rfl : a = x := by omega
    exact ⟨h1, by simpa using h2⟩
  · rintro ⟨h1, h2⟩
    exact ⟨x, ⟨h1, by simpa using h2⟩, rfl⟩
theorem supW_len (z : List Int) : (supW z).length ≤ z.length := by
  unfold supW
  rw [List.length_map]
  exact Nat.le_trans (List.length_filter_le _ _) (by simp)
theorem supW_rise (z : List Int) : (supW z).Pairwise (fun x y => x < y) := by
  unfold supW
  rw [List.pairwise_map]
  exact (List.pairwise_lt_range.filter _).imp fun {i j} h => by omega
theorem supW_bd (z : List Int) : ∀ x ∈ supW z, 0 ≤ x ∧ x < (z.length : Int) := fun x hx => by
  unfold supW at hx
  obtain ⟨a, ha, rfl⟩ := List.mem_map.1 hx
  have := List.mem_range.1 (List.mem_filter.1 ha).1
  omega
def supsW (L : List (List Int)) : List (List Int) := (L.drop 1).map supW
theorem supsW_len (L : List (List Int)) : (supsW L).length = L.length - 1 := by simp [supsW]
theorem supsW_row {L : List (List Int)} {j : Nat} (h : j + 1 < L.length) : row (supsW L) j = supW (row L (j + 1)) := by
  rw [row_get (by rw [supsW_len]; omega), row_get h]
  unfold supsW
  rw [List.getElem_map, List.getElem_drop]
  congr 2
  exact Nat.add_comm 1 j
theorem supsW_sets {L : List (List Int)} {n : Nat} (h : ∀ i, i < L.length → (row L i).length = n) (hn : n ≤ 32) (hl : L.length ≤ 257) : Sets n (supsW L) := by
  refine ⟨by omega, by rw [supsW_len]; omega, fun i hi => ?_, fun i hi => ?_⟩
  all_goals rw [supsW_len] at hi; rw [supsW_row (by omega)]
  · refine ⟨supW_rise _, fun x hx => ?_⟩
    have := supW_bd _ x hx
    rw [h _ (by omega)] at this
    exact this
  · have := supW_len (row L (i + 1))
    rw [h _ (by omega)] at this
    omega
structure GV (w0 wr : World) (gb : Nat) (A : Option Addr) (n c : Nat) (F : Option Addr) (m d : Nat) (cs : List Int) (es : List Ed) : Prop where
  b : Below w0.heap.size w0 wr
  x : Blk wr gb 46 #[.slice A n c, .slice F m d]
  oa : OI wr w0.heap.size 2 A n c cs
  of_ : OE wr w0.heap.size 113 F m d es
  lg : w0.heap.size ≤ gb
section
variable {w0 wr w' : World} {gb : Nat} {A : Option Addr} {n c : Nat} {F : Option Addr} {m d : Nat} {cs : List Int} {es : List Ed}
theorem GV.edges (h : GV w0 wr gb A n c F m d cs es) (hg : wr.grownBy w' (blk F)) {F' : Option Addr} {m' d' : Nat} {es' : List Ed} (ho : OE w' w0.heap.size 113 F' m' d' es') :
    GV w0 (w'.setCell ⟨gb, 1, none⟩ (.slice F' m' d')) gb A n c F' m' d' cs es' := by
  have hlg := h.lg
  have hx := h.x.grown hg (OS.typed' h.of_.os h.x (by decide))
  have hoa := h.oa.kept hg (OS.typed h.oa.os h.of_.os (by decide))
  have hb := below_own h.b hg h.b.size (fun b hb => (h.of_.os.lt hb).1)
  refine ⟨Below.setCell hb (by show w0.heap.size ≤ gb; omega) _, ?_, ?_, ?_, hlg⟩
  · have := hx.set_ 1 (.slice F' m' d')
    simpa using this
  · exact hoa.kept grown_set (.inr fun e => OS.typed' hoa.os hx (by decide) e.symm)
  · exact ho.kept grown_set (.inr fun e => OS.typed' ho.os hx (by decide) e.symm)
end
def cdB (p : Int) (k : Nat) (f : List Int) (m : Nat) (rows : List (List Int)) : List (List Int) := supsW (wordsTo p k f 2 m rows rows.length)
def cdC (p : Int) (k : Nat) (f : List Int) (m : Nat) (rows : List (List Int)) : List Int := if p ^ k = 2 then dgC m (cdB p k f m rows) else []
def cdE (p : Int) (k : Nat) (f : List Int) (m : Nat) (rows : List (List Int)) : List Ed := if p ^ k = 2 then dgE m (cdB p k f m rows) else []
def cdK (p : Int) (k : Nat) (f : List Int) (m : Nat) (rows : List (List Int)) : Int := if p ^ k = 2 then dgK m (cdB p k f m rows) else 6
theorem cd_yes {p : Int} {k : Nat} {f : List Int} {m : Nat} {rows : List (List Int)} (h : p ^ k = 2) : cdC p k f m rows = dgC m (cdB p k f m rows) ∧ cdE p k f m rows = dgE m (cdB p k f m rows) ∧ cdK p k f m rows = dgK m (cdB p k f m rows) := by
  simp [cdC, cdE, cdK, h]
theorem cd_no {p : Int} {k : Nat} {f : List Int} {m : Nat} {rows : List (List Int)} (h : ¬ p ^ k = 2) : cdC p k f m rows = [] ∧ cdE p k f m rows = [] ∧ cdK p k f m rows = 6 := by
  simp [cdC, cdE, cdK, h]
def cgK (P D : Int) (f : List Int) (rows : List (List Int)) : Int := cdK P D.toNat f (row rows 0).length rows
def cgC (P D : Int) (f : List Int) (rows : List (List Int)) : List Int := cdC P D.toNat f (row rows 0).length rows
def cgE (P D : Int) (f : List Int) (rows : List (List Int)) : List Ed := cdE P D.toNat f (row rows 0).length rows
noncomputable def eqcK (P D : Int) (f : List Int) (xs : List (List Int)) (P' D' : Int) (f' : List Int) (ys : List (List Int)) (b : Int) : Int := if tB (CodeOk P D f xs) && tB (CodeOk P' D' f' ys) then samC (inB b 1 20000) (cgK P D f xs) (cgK P' D' f' ys) (code2P (cgC P D f xs) (cgE P D f xs) (cgC P' D' f' ys) (cgE P' D' f' ys) b) else 1
noncomputable def eqcR (P D : Int) (f : List Int) (xs : List (List Int)) (P' D' : Int) (f' : List Int) (ys : List (List Int)) (b : Int) : Bool := if tB (CodeOk P D f xs) && tB (CodeOk P' D' f' ys) then samB (inB b 1 20000) (cgK P D f xs) (cgK P' D' f' ys) (isoP (cgC P D f xs) (cgE P D f xs) (cgC P' D' f' ys) (cgE P' D' f' ys) b) else false
def RetCg (w : World) (k : Int) (cs : List Int) (es : List Ed) (e : Ending) (w' : World) : Prop :=
  ∃ A' n' c' F' m' d', e = .returned (.tuple #[.agg #[.slice A' n' c', .slice F' m' d'], .int .i64 k]) ∧ OI w' w.heap.size 2 A' n' c' cs ∧ OE w' w.heap.size 113 F' m' d' es ∧ n' ≤ 64 ∧ m' ≤ 512 ∧ Below w.heap.size w w'
theorem CodeOk.nums {P D : Int} {f : List Int} {rows : List (List Int)} (h : CodeOk P D f rows) : ∃ (k q : Nat), D = (k : Int) ∧ FldOk P k f ∧ P ^ k = (q : Int) ∧ MatQ (P ^ k) (row rows 0).length rows ∧ 1 ≤ rows.length ∧ rows.length ≤ 8 ∧ 1 ≤ (row rows 0).length ∧ (row rows 0).length ≤ 32 ∧ q ^ rows.length ≤ 4096 := by
  obtain ⟨⟨⟨h1, h2⟩, h3, h4, h5⟩, h6, h7, h8⟩ := h
  obtain ⟨p2, p61, k1, k6, q64, q2⟩ := h2.nums
  obtain ⟨q, hq⟩ : ∃ q : Nat, P ^ D.toNat = (q : Int) := ⟨(P ^ D.toNat).toNat, by omega⟩
  refine ⟨D.toNat, q, by omega, h2, hq, h5, h3.1, h6, h4.1, h4.2, ?_⟩
  rw [hq, ← Int.natCast_pow] at h7
  exact Int.ofNat_le.1 h7
end Go.Proofs.YtdkbcjdimhgmnaaGreat
