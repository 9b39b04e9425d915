/- Plain law: the search for transversals finds them in lexicographic order. No program in sight. -/
import Derived.Test.YtcnjlkabdfcjdaaZAC
import Derived.Test.YtcnjlkabdfcjdaaZAG
import Derived.Test.YtcnjlkabdfcjdaaZAD
import Derived.Test.YtcnjlkabdfcjdaaZAB
import Derived.Test.YtcnjlkabdfcjdaaZAI
set_option linter.unusedVariables false
set_option linter.unusedSimpArgs false
namespace Go.Proofs.Ytcnjlkabdfcjdaa

/-- the state of the search -/
structure TSt where
  left : Nat
  spent : Bool
  found : List (List Int)
/-- the symbols of chosen cells -/
def symT (a : List (List Int)) (cols : List Int) : List Int := (List.range cols.length).map fun i => nth (row a i) (nth cols i).toNat
def freeT (a : List (List Int)) (cols : List Int) (y : Nat) : Bool := !(cols.contains (y : Int)) && !((symT a cols).contains (nth (row a cols.length) y))
def trL (sub : List Int → TSt → TSt) (a : List (List Int)) (lim : Nat) (cols : List Int) : List Nat → TSt → TSt
  | [], s => s
  | y :: r, s => if freeT a cols y then (if s.spent = true ∨ s.found.length = lim then s else if s.left = 0 then { s with spent := true } else trL sub a lim cols r (sub (cols ++ [(y : Int)]) { s with left := s.left - 1 })) else trL sub a lim cols r s
def trS (a : List (List Int)) (lim : Nat) : Nat → List Int → TSt → TSt
  | 0, cols, s => { s with found := s.found ++ [cols] }
  | k + 1, cols, s => trL (trS a lim k) a lim cols (List.range a.length) s
/-- all transversals that begin so, k rows on -/
def allT (a : List (List Int)) : Nat → List Int → List (List Int)
  | 0, cols => [cols]
  | k + 1, cols => (List.range a.length).flatMap fun y => if freeT a cols y then allT a k (cols ++ [(y : Int)]) else []
section
variable {a : List (List Int)} {lim : Nat}
theorem trL_spent {sub : List Int → TSt → TSt} {cols : List Int} : ∀ (r : List Nat) (s : TSt), s.spent = true → trL sub a lim cols r s = s
  | [], s, _ => rfl
  | y :: r, s, h => by
    rw [trL]
    split
    · rw [if_pos (.inl h)]
    · exact trL_spent r s h
theorem take_take_app {l m r : List (List Int)} {n : Nat} : ((l ++ m).take n ++ r).take n = (l ++ (m ++ r)).take n := by
  rw [← List.append_assoc]
  generalize l ++ m = x
  rcases Nat.lt_or_ge x.length n with h | h
  · rw [show x.take n = x from List.take_of_length_le (by omega)]
  · rw [List.take_append_of_le_length (by rw [List.length_take]; omega), List.take_append_of_le_length h, List.take_take, Nat.min_self]
theorem take_full {l m : List (List Int)} {n : Nat} (h : l.length = n) : (l ++ m).take n = l := by
  rw [List.take_append_of_le_length (by omega), List.take_of_length_le (by omega)]
theorem trL_found {sub : List Int → TSt → TSt} {cols : List Int} {F : List Int → List (List Int)}
    (hs : ∀ c s, s.spent = false → s.found.length < lim → (sub c s).spent = false → (sub c s).found = (s.found ++ F c).take lim) :
    ∀ (r : List Nat) (s : TSt), s.spent = false → s.found.length ≤ lim → (trL sub a lim cols r s).spent = false →
      (trL sub a lim cols r s).found = (s.found ++ r.flatMap fun y => if freeT a cols y then F (cols ++ [(y : Int)]) else []).take lim
  | [], s, _, h2, _ => by rw [trL, List.flatMap_nil, List.append_nil, List.take_of_length_le h2]
  | y :: r, s, h1, h2, h3 => by
    rw [trL] at h3 ⊢
    rw [List.flatMap_cons]
    by_cases hf : freeT a cols y = true
    · rw [if_pos hf] at h3 ⊢
      rw [if_pos hf]
      by_cases hl : s.spent = true ∨ s.found.length = lim
      · rw [if_pos hl]
        rcases hl with hl | hl
        · rw [h1] at hl; cases hl
        · exact (take_full hl).symm
      · rw [if_neg hl] at h3 ⊢
        have hl2 : s.found.length < lim := by
          rcases Nat.lt_or_ge s.found.length lim with h | h
          · exact h
          · exact absurd (.inr (by omega)) hl
        by_cases h0 : s.left = 0
        · rw [if_pos h0] at h3; cases h3
        · rw [if_neg h0] at h3 ⊢
          have hsub := hs (cols ++ [(y : Int)]) { s with left := s.left - 1 } h1 hl2
          cases hsp : (sub (cols ++ [(y : Int)]) { s with left := s.left - 1 }).spent with
          | true => rw [trL_spent r _ hsp, hsp] at h3; cases h3
          | false =>
            have e := hsub hsp
            have ih := trL_found hs r _ hsp (by rw [e, List.length_take]; omega) h3
            rw [ih, e]
            exact take_take_app
    · rw [if_neg hf] at h3 ⊢
      rw [if_neg hf, List.nil_append]
      exact trL_found hs r s h1 h2 h3
theorem trS_found : ∀ (k : Nat) (cols : List Int) (s : TSt), s.spent = false → s.found.length < lim → (trS a lim k cols s).spent = false → (trS a lim k cols s).found = (s.found ++ allT a k cols).take lim
  | 0, cols, s, _, h2, _ => by
    rw [trS, allT, List.take_of_length_le (by simp; omega)]
  | k + 1, cols, s, h1, h2, h3 => by
    rw [trS] at h3 ⊢
    rw [allT]
    exact trL_found (fun c s h1 h2 h3 => trS_found k c s h1 h2 h3) _ s h1 (by omega) h3
end
/-! what is found -/
/-- the first rows chosen so that no column and no symbol comes twice -/
structure PartT (a : List (List Int)) (cols : List Int) : Prop where
  len : cols.length ≤ a.length
  bd : ∀ i, i < cols.length → 0 ≤ nth cols i ∧ nth cols i < (a.length : Int)
  col : ∀ i j, i < j → j < cols.length → nth cols i ≠ nth cols j
  sym : ∀ i j, i < j → j < cols.length → nth (row a i) (nth cols i).toNat ≠ nth (row a j) (nth cols j).toNat
theorem nth_snocT {l : List Int} {x : Int} {i : Nat} : nth (l ++ [x]) i = if i < l.length then nth l i else if i = l.length then x else 0 := by
  unfold nth
  simp only [List.getD_eq_getElem?_getD, List.getElem?_append]
  split
  · rfl
  · split
    · rename_i e; subst e; simp
    · rw [List.getElem?_eq_none (by simp; omega)]; rfl
theorem symT_mem {a : List (List Int)} {cols : List Int} {z : Int} : z ∈ symT a cols ↔ ∃ i, i < cols.length ∧ nth (row a i) (nth cols i).toNat = z := by
  unfold symT
  simp only [List.mem_map, List.mem_range]
theorem freeT_iff {a : List (List Int)} {cols : List Int} (h : PartT a cols) (hl : cols.length < a.length) {y : Nat} (hy : y < a.length) : freeT a cols y = true ↔ PartT a (cols ++ [(y : Int)]) := by
  unfold freeT
  rw [Bool.and_eq_true, Bool.not_eq_true', Bool.not_eq_true', ← Bool.not_eq_true, ← Bool.not_eq_true, List.contains_iff_mem, List.contains_iff_mem, symT_mem]
  constructor
  · rintro ⟨h1, h2⟩
    refine ⟨by simp; omega, fun i hi => ?_, fun i j hij hj => ?_, fun i j hij hj => ?_⟩
    · rw [List.length_append, List.length_singleton] at hi
      rw [nth_snocT]
      split
      · exact h.bd i (by assumption)
      · rw [if_pos (by omega)]; omega
    · rw [List.length_append, List.length_singleton] at hj
      rw [nth_snocT, nth_snocT, if_pos (by omega)]
      split
      · exact h.col i j hij (by assumption)
      · rw [if_pos (by omega)]
        intro e
        exact h1 (by rw [← e, nth_get (by omega)]; exact List.getElem_mem _)
    · rw [List.length_append, List.length_singleton] at hj
      rw [nth_snocT, nth_snocT, if_pos (by omega)]
      split
      · exact h.sym i j hij (by assumption)
      · have ej : j = cols.length := by omega
        subst ej
        rw [if_pos rfl, Int.toNat_natCast]
        exact fun e => h2 ⟨i, by omega, e⟩
  · intro k
    have hlen : (cols ++ [(y : Int)]).length = cols.length + 1 := by simp
    refine ⟨fun hm => ?_, ?_⟩
    · obtain ⟨i, hi, e⟩ := mem_nth hm
      have := k.col i cols.length hi (by omega)
      rw [nth_snocT, nth_snocT, if_pos hi, if_neg (by omega), if_pos rfl] at this
      exact this e
    · rintro ⟨i, hi, e⟩
      have := k.sym i cols.length hi (by omega)
      rw [nth_snocT, nth_snocT, if_pos hi, if_neg (by omega), if_pos rfl, Int.toNat_natCast] at this
      exact this e
theorem PartT.prefix_ {a : List (List Int)} {cols : List Int} {y : Int} (h : PartT a (cols ++ [y])) : PartT a cols := by
  have hl : (cols ++ [y]).length = cols.length + 1 := by simp
  have e : ∀ i, i < cols.length → nth (cols ++ [y]) i = nth cols i := fun i hi => by rw [nth_snocT, if_pos hi]
  refine ⟨by have := h.len; omega, fun i hi => ?_, fun i j hij hj => ?_, fun i j hij hj => ?_⟩
  · rw [← e i hi]; exact h.bd i (by omega)
  · rw [← e i (by omega), ← e j hj]; exact h.col i j hij (by omega)
  · rw [← e i (by omega), ← e j hj]; exact h.sym i j hij (by omega)
/-- all of them, and no others -/
theorem allT_mem {a : List (List Int)} : ∀ (k : Nat) (cols : List Int), PartT a cols → cols.length + k = a.length → ∀ c, c ∈ allT a k cols ↔ PartT a c ∧ c.length = a.length ∧ c.take cols.length = cols
  | 0, cols, h, hl, c => by
    rw [allT, List.mem_singleton]
    constructor
    · rintro rfl; exact ⟨h, by omega, List.take_of_length_le (Nat.le_refl _)⟩
    · rintro ⟨-, h2, h3⟩
      rw [List.take_of_length_le (by omega)] at h3
      exact h3
  | k + 1, cols, h, hl, c => by
    rw [allT, List.mem_flatMap]
    constructor
    · rintro ⟨y, hy, hc⟩
      have hy := List.mem_range.1 hy
      split at hc
      · rename_i hf
        have h2 := (freeT_iff h (by omega) hy).1 hf
        obtain ⟨h3, h4, h5⟩ := (allT_mem k _ h2 (by simp; omega) c).1 hc
        refine ⟨h3, h4, ?_⟩
        have := congrArg (List.take cols.length) h5
        rw [List.take_take, List.length_append, List.length_singleton, Nat.min_eq_left (by omega), List.take_append_of_le_length (Nat.le_refl _), List.take_of_length_le (Nat.le_refl _)] at this
        exact this
      · cases hc
    · rintro ⟨h1, h2, h3⟩
      have hb := h1.bd cols.length (by omega)
      have hpre : c.take (cols.length + 1) = cols ++ [nth c cols.length] := by
        rw [List.take_succ_eq_append_getElem (by omega), h3, nth_get (by omega)]
      have hP : ∀ t, t ≤ c.length → PartT a (c.take t) := fun t ht => by
        have hlt : (c.take t).length = t := by rw [List.length_take]; omega
        have e : ∀ i, i < t → nth (c.take t) i = nth c i := fun i hi => by unfold nth; simp [List.getD_eq_getElem?_getD, List.getElem?_take, hi]
        refine ⟨by omega, fun i hi => ?_, fun i j hij hj => ?_, fun i j hij hj => ?_⟩
        · rw [e i (by omega)]; exact h1.bd i (by omega)
        · rw [e i (by omega), e j (by omega)]; exact h1.col i j hij (by omega)
        · rw [e i (by omega), e j (by omega)]; exact h1.sym i j hij (by omega)
      have hy : (nth c cols.length).toNat < a.length := by omega
      have ey : (((nth c cols.length).toNat : Nat) : Int) = nth c cols.length := by omega
      refine ⟨(nth c cols.length).toNat, List.mem_range.2 hy, ?_⟩
      have hP2 := hP (cols.length + 1) (by omega)
      rw [hpre, ← ey] at hP2
      rw [if_pos ((freeT_iff h (by omega) hy).2 hP2)]
      refine (allT_mem k _ hP2 (by simp; omega) c).2 ⟨h1, h2, ?_⟩
      rw [List.length_append, List.length_singleton, hpre, ey]
theorem agree_of_take {x y : List Int} {k : Nat} (h : x.take k = y.take k) (hx : k ≤ x.length) (hy : k ≤ y.length) : agree x y k := by
  refine ⟨hx, hy, fun j hj => ?_⟩
  have e : ∀ l : List Int, nth (l.take k) j = nth l j := fun l => by unfold nth; simp [List.getD_eq_getElem?_getD, List.getElem?_take, hj]
  rw [← e x, ← e y, h]
/-- in lexicographic order -/
theorem allT_strict {a : List (List Int)} : ∀ (k : Nat) (cols : List Int), PartT a cols → cols.length + k = a.length → StrictL cmpL (allT a k cols)
  | 0, cols, _, _ => by rw [allT]; exact List.pairwise_singleton _ _
  | k + 1, cols, h, hl => by
    rw [allT, StrictL, List.pairwise_flatMap]
    refine ⟨fun y hy => ?_, List.Pairwise.imp_of_mem ?_ List.pairwise_lt_range⟩
    · have hy := List.mem_range.1 hy
      split
      · rename_i hf
        exact allT_strict k _ ((freeT_iff h (by omega) hy).1 hf) (by simp; omega)
      · exact List.Pairwise.nil
    · intro y z hy hz hyz u hu v hv
      have hy := List.mem_range.1 hy
      have hz := List.mem_range.1 hz
      split at hu
      · split at hv
        · rename_i f1 f2
          obtain ⟨-, u2, u3⟩ := (allT_mem k _ ((freeT_iff h (by omega) hy).1 f1) (by simp; omega) u).1 hu
          obtain ⟨-, v2, v3⟩ := (allT_mem k _ ((freeT_iff h (by omega) hz).1 f2) (by simp; omega) v).1 hv
          have key : ∀ (c : List Int) (t : Nat), c.length = a.length → c.take (cols ++ [(t : Int)]).length = cols ++ [(t : Int)] → c.take cols.length = cols ∧ nth c cols.length = t := fun c t hc e => by
            rw [List.length_append, List.length_singleton] at e
            constructor
            · have := congrArg (List.take cols.length) e
              rw [List.take_take, Nat.min_eq_left (by omega), List.take_append_of_le_length (Nat.le_refl _), List.take_of_length_le (Nat.le_refl _)] at this
              exact this
            · have := congrArg (fun l => nth l cols.length) e
              simp only [nth_snocT, Nat.lt_irrefl, if_false, if_true] at this
              rw [← this]
              unfold nth
              simp [List.getD_eq_getElem?_getD, List.getElem?_take]
          obtain ⟨p1, p2⟩ := key u y u2 u3
          obtain ⟨q1, q2⟩ := key v z v2 v3
          have hag : agree u v cols.length := agree_of_take (by rw [p1, q1]) (by omega) (by omega)
          rw [cmpL_lt hag (by omega) (by omega) (by rw [p2, q2]; omega)]
          decide
        · cases hv
      · cases hu
theorem PartT.nil (a : List (List Int)) : PartT a [] := ⟨Nat.zero_le _, fun i h => absurd h (by simp), fun i j _ h => absurd h (by simp), fun i j _ h => absurd h (by simp)⟩
/-- what the law asks: a list that is not among those found comes behind them, and there are as many as are asked for -/
theorem first_of {l : List (List Int)} {lim : Nat} (hs : StrictL cmpL l) {p : List Int} (hp : p ∈ l) (hn : p ∉ l.take lim) : (l.take lim).length = lim ∧ ∀ i, i < lim → cmpL (row (l.take lim) i) p < 0 := by
  obtain ⟨j, hj, rfl⟩ := List.mem_iff_getElem.1 hp
  have hjl : lim ≤ j := by
    rcases Nat.lt_or_ge j lim with h | h
    · exact absurd (List.mem_take_iff_getElem.2 ⟨j, by omega, rfl⟩) hn
    · exact h
  have hlen : (l.take lim).length = lim := by rw [List.length_take]; omega
  refine ⟨hlen, fun i hi => ?_⟩
  rw [row_get (by omega), List.getElem_take]
  exact List.pairwise_iff_getElem.1 hs i j (by omega) hj (by omega)
end Go.Proofs.Ytcnjlkabdfcjdaa
/- Transversals, the program's search: its state in memory. No condition beyond those stated. -/
namespace Go.Proofs.Ytcnjlkabdfcjdaa
open Go.RowKit

/-- flags in memory -/
def flags (n : Nat) (f : Nat → Bool) : List Value := (List.range n).map fun j => .bool (f j)
theorem flags_len (n : Nat) (f : Nat → Bool) : (flags n f).length = n := by simp [flags]
theorem flags_at {n : Nat} {f : Nat → Bool} {j : Nat} (h : j < n) : (flags n f)[j]? = some (.bool (f j)) := by simp [flags, h]
theorem flags_set {n i : Nat} {f : Nat → Bool} (b : Bool) : (flags n f).set i (.bool b) = flags n (fun j => if j = i then b else f j) := by
  refine List.ext_getElem (by simp [flags]) fun j h1 h2 => ?_
  rw [List.getElem_set]
  simp only [flags, List.getElem_map, List.getElem_range]
  by_cases h : i = j
  · subst h; simp
  · rw [if_neg h, if_neg (fun e => h e.symm)]
theorem flags_congr {n : Nat} {f g : Nat → Bool} (h : ∀ i, i < n → f i = g i) : flags n f = flags n g := List.map_congr_left fun i hi => by rw [h i (List.mem_range.1 hi)]
theorem ne_of_none {a b : Option Nat} (h : a = none ∨ a ≠ b) (hb : b ≠ none) : a ≠ b := by
  rcases h with h | h
  · rw [h]; exact fun e => hb e.symm
  · exact h
theorem OS.short {w : World} {B : Nat} {e : TypeId} {g n c k : Nat} {xs : List Value} (h : OS w B e 1 (some ⟨g, 0, none⟩) n c xs) (hk : k ≤ n) : OS w B e 1 (some ⟨g, 0, none⟩) k c (xs.take k) := by
  rcases h.cases with ⟨h0, _⟩ | ⟨g', cur, h0, hB, hg, hnc, hc, hs, ht⟩
  · cases h0
  · injection h0 with h0
    injection h0 with h0
    subst h0
    refine ⟨by have := h.len; simp; omega, .inr ⟨g, c, cur, rfl, hB, hg, by omega, hc, hs, ?_⟩⟩
    rw [← ht, Nat.mul_one, Nat.mul_one, List.take_take, Nat.min_eq_left hk]
theorem ORv.low {w : World} {B : Nat} {e2 e1 : TypeId} {A : Option Addr} {n c : Nat} {vs : List Sl} {zss : List (List Int)} (h : ORv w B e2 e1 A n c vs zss) {p : Addr} (hp : p.block < B) (u : Value) : ORv (w.setCell p u) B e2 e1 A n c vs zss :=
  ⟨h.os.setLow hp u, h.len, fun j v z hv hz => (h.rows j v z hv hz).setLow hp u, h.sep, h.ne⟩
theorem size_setCell' (w : World) (p : Addr) (u : Value) : (w.setCell p u).heap.size = w.heap.size := by simp [World.setCell]
/-- the program's search in memory: the symbols' flags in the block behind w0, the struct in the next one, all else from M on -/
structure ITr (w0 w : World) (M n : Nat) (SA : Option Addr) (sc : Nat) (a : List (List Int)) (lim : Nat) (C : Option Addr) (m mc : Nat) (FA : Option Addr) (fn fk : Nat) (left : Int) (spent : Bool) (dn : Nat → Bool) (cols : List Int) (vs : List Sl) (found : List (List Int)) : Prop where
  x : Blk w (w0.heap.size + 1) 59 #[.int .i64 left, .bool spent, .slice SA n sc, .int .i64 lim, .slice C m mc, .slice (some ⟨w0.heap.size, 0, none⟩) n n, .slice FA fn fk]
  b : Below w0.heap.size w0 w
  o0 : RR w0 SA n a
  M2 : w0.heap.size + 2 ≤ M
  M3 : M ≤ w.heap.size
  d : OS w w0.heap.size 4 1 (some ⟨w0.heap.size, 0, none⟩) n n (flags n dn)
  c : OI w M 2 C m mc cols
  r : ORv w M 30 2 FA fn fk vs found
  rc : ∀ (j : Nat) (u : Sl), vs[j]? = some u → blk u.1 = none ∨ blk u.1 ≠ blk C
section
variable {w0 w w' : World} {M n : Nat} {SA : Option Addr} {sc : Nat} {a : List (List Int)} {lim : Nat} {C C' : Option Addr} {m mc m' mc' : Nat} {FA FA' : Option Addr} {fn fk fk' : Nat} {left : Int} {spent : Bool} {dn dn' : Nat → Bool} {cols cols' : List Int} {vs : List Sl} {found : List (List Int)}
theorem ITr.cells (h : ITr w0 w M n SA sc a lim C m mc FA fn fk left spent dn cols vs found) :
    (w.cell? ⟨w0.heap.size + 1, 0, none⟩ = some (.int .i64 left) ∧ w.cell? ⟨w0.heap.size + 1, 1, none⟩ = some (.bool spent) ∧ w.cell? ⟨w0.heap.size + 1, 2, none⟩ = some (.slice SA n sc) ∧ w.cell? ⟨w0.heap.size + 1, 3, none⟩ = some (.int .i64 lim)) ∧
    w.cell? ⟨w0.heap.size + 1, 4, none⟩ = some (.slice C m mc) ∧ w.cell? ⟨w0.heap.size + 1, 5, none⟩ = some (.slice (some ⟨w0.heap.size, 0, none⟩) n n) ∧ w.cell? ⟨w0.heap.size + 1, 6, none⟩ = some (.slice FA fn fk) :=
  ⟨⟨h.x.cell 0, h.x.cell 1, h.x.cell 2, h.x.cell 3⟩, h.x.cell 4, h.x.cell 5, h.x.cell 6⟩
theorem ITr.o (h : ITr w0 w M n SA sc a lim C m mc FA fn fk left spent dn cols vs found) : RR w SA n a := h.o0.keep h.b
theorem ITr.below (h : ITr w0 w M n SA sc a lim C m mc FA fn fk left spent dn cols vs found) (hb : Below w.heap.size w w') : ITr w0 w' M n SA sc a lim C m mc FA fn fk left spent dn cols vs found :=
  ⟨h.x.after hb, h.b.trans (hb.mono h.b.size), h.o0, h.M2, Nat.le_trans h.M3 hb.size, h.d.below hb, h.c.below hb, h.r.below hb, h.rc⟩
/-- a cell of the struct is stored -/
theorem ITr.put (h : ITr w0 w M n SA sc a lim C m mc FA fn fk left spent dn cols vs found) (i : Nat) (u : Value) :
    (∀ cs, Blk w (w0.heap.size + 1) 59 cs → Blk (w.setCell ⟨w0.heap.size + 1, i, none⟩ u) (w0.heap.size + 1) 59 (cs.setIfInBounds i u)) ∧ Below w0.heap.size w0 (w.setCell ⟨w0.heap.size + 1, i, none⟩ u) ∧ M ≤ (w.setCell ⟨w0.heap.size + 1, i, none⟩ u).heap.size ∧
    OS (w.setCell ⟨w0.heap.size + 1, i, none⟩ u) w0.heap.size 4 1 (some ⟨w0.heap.size, 0, none⟩) n n (flags n dn) ∧
    OI (w.setCell ⟨w0.heap.size + 1, i, none⟩ u) M 2 C m mc cols ∧ ORv (w.setCell ⟨w0.heap.size + 1, i, none⟩ u) M 30 2 FA fn fk vs found := by
  have hM := h.M2
  have hlow : (⟨w0.heap.size + 1, i, none⟩ : Addr).block < M := by show w0.heap.size + 1 < M; omega
  refine ⟨fun cs hc => hc.set_ i u, h.b.setCell (by show w0.heap.size ≤ w0.heap.size + 1; omega) _, by rw [size_setCell']; exact h.M3, h.d.setFar (p := ⟨w0.heap.size + 1, i, none⟩) (by simp [blk]) u, h.c.setLow hlow u, h.r.low hlow u⟩
theorem ITr.left_ (h : ITr w0 w M n SA sc a lim C m mc FA fn fk left spent dn cols vs found) (u : Int) :
    ITr w0 (w.setCell ⟨w0.heap.size + 1, 0, none⟩ (.int .i64 u)) M n SA sc a lim C m mc FA fn fk u spent dn cols vs found := by
  obtain ⟨h1, h2, h3, h4, h5, h6⟩ := h.put 0 (.int .i64 u)
  exact ⟨h1 _ h.x, h2, h.o0, h.M2, h3, h4, h5, h6, h.rc⟩
theorem ITr.spent_ (h : ITr w0 w M n SA sc a lim C m mc FA fn fk left spent dn cols vs found) (u : Bool) :
    ITr w0 (w.setCell ⟨w0.heap.size + 1, 1, none⟩ (.bool u)) M n SA sc a lim C m mc FA fn fk left u dn cols vs found := by
  obtain ⟨h1, h2, h3, h4, h5, h6⟩ := h.put 1 (.bool u)
  exact ⟨h1 _ h.x, h2, h.o0, h.M2, h3, h4, h5, h6, h.rc⟩
/-- a flag is stored -/
theorem ITr.flag (h : ITr w0 w M n SA sc a lim C m mc FA fn fk left spent dn cols vs found) (i : Nat) (b : Bool) (he : ∀ x, x < n → dn' x = if x = i then b else dn x) :
    ITr w0 (w.setCell ⟨w0.heap.size, i, none⟩ (.bool b)) M n SA sc a lim C m mc FA fn fk left spent dn' cols vs found := by
  have hM := h.M2
  have hlow : (⟨w0.heap.size, i, none⟩ : Addr).block < M := by show w0.heap.size < M; omega
  have hd := h.d.set i (.bool b)
  rw [flags_set, ← flags_congr he] at hd
  exact ⟨h.x.far (p := ⟨w0.heap.size, i, none⟩) (by show w0.heap.size + 1 ≠ w0.heap.size; omega) _, h.b.setCell (Nat.le_refl _) _, h.o0, h.M2, by rw [size_setCell']; exact h.M3, hd, h.c.setLow hlow _, h.r.low hlow _, h.rc⟩
/-- a row of the search's own has grown: the others are as they were -/
theorem ITr.grow (h : ITr w0 w M n SA sc a lim C m mc FA fn fk left spent dn cols vs found) {r : Option Nat} (hg : w.grownBy w' r) (hr : ∀ k, r = some k → M ≤ k ∧ k < w.heap.size) :
    Blk w' (w0.heap.size + 1) 59 #[.int .i64 left, .bool spent, .slice SA n sc, .int .i64 lim, .slice C m mc, .slice (some ⟨w0.heap.size, 0, none⟩) n n, .slice FA fn fk] ∧ Below w0.heap.size w0 w' ∧ M ≤ w'.heap.size ∧
    OS w' w0.heap.size 4 1 (some ⟨w0.heap.size, 0, none⟩) n n (flags n dn) := by
  have hM := h.M2
  have hM3 := h.M3
  refine ⟨h.x.grown hg (fun e => by have := hr _ e.symm; omega), h.b.grown hg (by omega) (fun k hk => by have := hr k hk; omega), Nat.le_trans h.M3 hg.size, h.d.kept hg (.inr (fun e => by have := hr w0.heap.size e.symm; omega))⟩
/-- a column more -/
theorem ITr.push (h : ITr w0 w M n SA sc a lim C m mc FA fn fk left spent dn cols vs found) (hg : w.grownBy w' (blk C)) (hc : OI w' M 2 C' m' mc' cols') (hn : blk C' = blk C ∨ ∃ k, blk C' = some k ∧ w.heap.size ≤ k) :
    ITr w0 (w'.setCell ⟨w0.heap.size + 1, 4, none⟩ (.slice C' m' mc')) M n SA sc a lim C' m' mc' FA fn fk left spent dn cols' vs found := by
  have hM := h.M2
  have hlow : (⟨w0.heap.size + 1, 4, none⟩ : Addr).block < M := by show w0.heap.size + 1 < M; omega
  obtain ⟨g1, g2, g3, g4⟩ := h.grow hg (fun k hk => h.c.os.lt hk)
  refine ⟨g1.set_ 4 _, g2.setCell (by show w0.heap.size ≤ w0.heap.size + 1; omega) _, h.o0, h.M2, by rw [size_setCell']; exact g3, g4.setFar (p := ⟨w0.heap.size + 1, 4, none⟩) (by simp [blk]) _, hc.setLow hlow _,
    (h.r.kept hg (OS.typed h.r.os h.c.os (by decide)) h.rc).low hlow _, fun j u hu => ?_⟩
  rcases hn with e | ⟨k, e, hk⟩
  · rw [e]; exact h.rc j u hu
  · rw [e]
    refine .inr fun e' => ?_
    have := (h.r.row_lt hu e').2
    omega
/-- the last column taken back -/
theorem ITr.pop {gC : Nat} {k : Int} (h : ITr w0 w M n SA sc a lim (some ⟨gC, 0, none⟩) (m + 1) mc FA fn fk left spent dn (cols ++ [k]) vs found) :
    ITr w0 (w.setCell ⟨w0.heap.size + 1, 4, none⟩ (.slice (some ⟨gC, 0, none⟩) m mc)) M n SA sc a lim (some ⟨gC, 0, none⟩) m mc FA fn fk left spent dn cols vs found := by
  have hl : m = cols.length := by
    have := h.c.len
    simp at this
    omega
  have hc : OI w M 2 (some ⟨gC, 0, none⟩) m mc cols := by
    refine ⟨?_, fun z hz => h.c.all z (List.mem_append_left _ hz)⟩
    have := h.c.os.short (k := m) (by omega)
    rw [show (ints (cols ++ [k])).take m = ints cols by
      unfold ints
      rw [List.map_append, List.take_append_of_le_length (by simp [hl]), List.take_of_length_le (by simp [hl])]] at this
    exact this
  exact h.push (World.grownBy.refl w _) hc (.inl rfl)
/-- a transversal more -/
theorem ITr.more {u : Sl} {z : List Int} (h : ITr w0 w M n SA sc a lim C m mc FA fn fk left spent dn cols vs found) (hg : w.grownBy w' (blk FA)) (hr : ORv w' M 30 2 FA' (fn + 1) fk' (vs ++ [u]) (found ++ [z]))
    (hC : blk u.1 = none ∨ blk u.1 ≠ blk C) :
    ITr w0 (w'.setCell ⟨w0.heap.size + 1, 6, none⟩ (.slice FA' (fn + 1) fk')) M n SA sc a lim C m mc FA' (fn + 1) fk' left spent dn cols (vs ++ [u]) (found ++ [z]) := by
  have hM := h.M2
  have hlow : (⟨w0.heap.size + 1, 6, none⟩ : Addr).block < M := by show w0.heap.size + 1 < M; omega
  obtain ⟨g1, g2, g3, g4⟩ := h.grow hg (fun k hk => h.r.os.lt hk)
  refine ⟨g1.set_ 6 _, g2.setCell (by show w0.heap.size ≤ w0.heap.size + 1; omega) _, h.o0, h.M2, by rw [size_setCell']; exact g3, g4.setFar (p := ⟨w0.heap.size + 1, 6, none⟩) (by simp [blk]) _,
    (h.c.kept hg (OS.typed h.c.os h.r.os (by decide))).setLow hlow _, hr.low hlow _, fun j y hy => ?_⟩
  rw [List.getElem?_append] at hy
  split at hy
  · exact h.rc j y hy
  · have := List.mem_of_getElem? hy
    rw [List.mem_singleton.1 this]; exact hC
end
/-- a slice's block is another's, or none, or one made since -/
def Fr (A' A : Option Addr) (n : Nat) : Prop := blk A' = blk A ∨ blk A' = none ∨ ∃ k, blk A' = some k ∧ n ≤ k
theorem Fr.refl (A : Option Addr) (n : Nat) : Fr A A n := .inl rfl
theorem Fr.of {A' A : Option Addr} {n : Nat} (h : blk A' = blk A ∨ ∃ k, blk A' = some k ∧ n ≤ k) : Fr A' A n := h.elim .inl fun h => .inr (.inr h)
theorem Fr.trans {A B C : Option Addr} {n m : Nat} (h : Fr B A n) (k : Fr C B m) (hm : n ≤ m) : Fr C A n := by
  rcases k with k | k | ⟨b, k, h1⟩
  · rcases h with h | h | ⟨b, h, h1⟩
    · exact .inl (k.trans h)
    · exact .inr (.inl (k.trans h))
    · exact .inr (.inr ⟨b, k.trans h, h1⟩)
  · exact .inr (.inl k)
  · exact .inr (.inr ⟨b, k, Nat.le_trans hm h1⟩)
theorem Fr.apart {A' A T : Option Addr} {n : Nat} (h : Fr A' A n) (ht : blk T = none ∨ blk T ≠ blk A) (hl : ∀ k, blk T = some k → k < n) : blk T = none ∨ blk T ≠ blk A' := by
  rcases h with h | h | ⟨b, h, h1⟩
  · rw [h]; exact ht
  · by_cases e : blk T = none
    · exact .inl e
    · exact .inr (by rw [h]; exact e)
  · refine .inr fun e => ?_
    rw [h] at e
    have := hl b e
    omega
/-- from M on, all blocks so far but those of the choices and of the covers are the same -/
structure Kc (M : Nat) (w w' : World) (C C' FA FA' : Option Addr) : Prop where
  size : w.heap.size ≤ w'.heap.size
  block : ∀ k, M ≤ k → k < w.heap.size → some k ≠ blk C → some k ≠ blk FA → w'.heap[k]? = w.heap[k]?
  fc : Fr C' C w.heap.size
  ff : Fr FA' FA w.heap.size
theorem Kc.of_below {M : Nat} {w w' : World} {C FA : Option Addr} (h : Below w.heap.size w w') : Kc M w w' C C FA FA := ⟨h.size, fun k _ hk _ _ => h.block k hk, .refl _ _, .refl _ _⟩
theorem Kc.trans {M : Nat} {w w' w'' : World} {C C' C'' FA FA' FA'' : Option Addr} (h : Kc M w w' C C' FA FA') (k : Kc M w' w'' C' C'' FA' FA'') : Kc M w w'' C C'' FA FA'' := by
  refine ⟨Nat.le_trans h.size k.size, fun b hM hb h1 h2 => ?_, h.fc.trans k.fc h.size, h.ff.trans k.ff h.size⟩
  rw [k.block b hM (Nat.lt_of_lt_of_le hb h.size) ?_ ?_]
  · exact h.block b hM hb h1 h2
  · have := h.fc.apart (T := some ⟨b, 0, none⟩) (.inr h1) (fun k hk => by have e : b = k := (by simpa [blk] using hk); omega)
    rcases this with e | e
    · cases e
    · exact e
  · have := h.ff.apart (T := some ⟨b, 0, none⟩) (.inr h2) (fun k hk => by have e : b = k := (by simpa [blk] using hk); omega)
    rcases this with e | e
    · cases e
    · exact e
theorem Kc.set {M : Nat} {w : World} {C FA : Option Addr} {p : Addr} (hp : p.block < M) (u : Value) : Kc M w (w.setCell p u) C C FA FA :=
  ⟨by rw [size_setCell']; exact Nat.le_refl _, fun k hM _ _ _ => Below.heap_setCell _ _ _ _ (by omega), .refl _ _, .refl _ _⟩
theorem Kc.grownC {M : Nat} {w w' : World} {C C' FA : Option Addr} (h : w.grownBy w' (blk C)) (hn : blk C' = blk C ∨ ∃ k, blk C' = some k ∧ w.heap.size ≤ k) : Kc M w w' C C' FA FA :=
  ⟨h.size, fun k _ hk h1 _ => h.block k hk h1, .of hn, .refl _ _⟩
theorem Kc.grownF {M : Nat} {w w' : World} {C FA FA' : Option Addr} (h : w.grownBy w' (blk FA)) (hn : blk FA' = blk FA ∨ ∃ k, blk FA' = some k ∧ w.heap.size ≤ k) : Kc M w w' C C FA FA' :=
  ⟨h.size, fun k _ hk _ h2 => h.block k hk h2, .refl _ _, .of hn⟩
/-- a list that lies apart from both is as it was -/
theorem OI.kc {M : Nat} {w w' : World} {C C' FA FA' : Option Addr} {T : Option Addr} {n c : Nat} {zs : List Int} {e : TypeId} (h : OI w M e T n c zs) (k : Kc M w w' C C' FA FA') (h1 : blk T = none ∨ blk T ≠ blk C) (h2 : blk T = none ∨ blk T ≠ blk FA) : OI w' M e T n c zs := by
  refine ⟨⟨h.os.1, ?_⟩, h.all⟩
  rcases h.os.2 with h3 | ⟨g, cap, cur, hv, h4, hg, r⟩
  · exact .inl h3
  · refine .inr ⟨g, cap, cur, hv, h4, ?_, r⟩
    injection hv with ha
    subst ha
    have hlt := (h.os.lt (show blk (some ⟨g, 0, none⟩) = some g from rfl)).2
    rw [k.block g h4 hlt (fun e => ne_of_none h1 (by rw [← e]; simp) (by rw [← e]; rfl)) (fun e => ne_of_none h2 (by rw [← e]; simp) (by rw [← e]; rfl))]
    exact hg
end Go.Proofs.Ytcnjlkabdfcjdaa
