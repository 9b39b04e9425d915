/- Plain law: a Latin rectangle is extended row by row, and the square is the first completion. No program in sight. -/
import Derived.Test.YtcnjlkabdfcjdaaZAT
set_option linter.unusedVariables false
set_option linter.unusedSimpArgs false
namespace Go.Proofs.Ytcnjlkabdfcjdaa

/-- full rows, then empty ones -/
structure Rect (n x : Nat) (q : List (List Int)) : Prop where
  sq : PSq n q
  full : ∀ i j, i < x → i < n → j < n → atS q i j ≠ -1
  emp : ∀ i j, x ≤ i → i < n → j < n → atS q i j = -1
def candL (n x : Nat) (q : List (List Int)) : List (List Int) := (List.range n).map fun y => candP q x y
theorem candL_row {n x y : Nat} (q : List (List Int)) (hy : y < n) : row (candL n x q) y = candP q x y := by
  unfold row candL
  simp [List.getD_eq_getElem?_getD, hy]
theorem candL_out {n x y : Nat} (q : List (List Int)) (hy : ¬ y < n) : row (candL n x q) y = [] := by
  unfold row candL
  rw [List.getD_eq_getElem?_getD, List.getElem?_eq_none (by simp; omega)]
  rfl
theorem candL_len (n x : Nat) (q : List (List Int)) : (candL n x q).length = n := by simp [candL]
section
variable {n x : Nat} {q : List (List Int)}
theorem candL_ok (h : PSq n q) (hx : x < n) : LOk n (candL n x q) := fun j z hj hz => by
  rw [candL_row q hj] at hz
  have := (candP_mem h hx).1 hz
  exact ⟨this.1, this.2.1⟩
theorem candL_asc : Asc (candL n x q) := fun j => by
  by_cases hj : j < n
  · rw [candL_row q hj]
    unfold candP
    refine List.Pairwise.filter _ (List.pairwise_map.2 (List.Pairwise.imp ?_ List.pairwise_lt_range))
    intro a b hab
    omega
  · rw [candL_out q hj]; exact List.Pairwise.nil
theorem Rect.adj (h : Rect n x q) (hx : x < n) {j s : Nat} (hj : j < n) (hs : s < n) : Adj (candL n x q) j s ↔ ∀ i, i < x → atS q i j ≠ (s : Int) := by
  unfold Adj
  rw [candL_row q hj, candP_mem h.sq hx]
  constructor
  · rintro ⟨-, -, -, h3⟩ i hi
    exact h3 i (by omega)
  · intro h3
    refine ⟨by omega, by omega, fun k hk e => ?_, fun i hi e => ?_⟩
    · rw [h.emp x k (Nat.le_refl _) hx hk] at e; omega
    · by_cases hi2 : i < x
      · exact h3 i hi2 e
      · rw [h.emp i j (by omega) hi hj] at e; omega
theorem Rect.bd (h : Rect n x q) {i j : Nat} (hi : i < x) (hin : i < n) (hj : j < n) : 0 ≤ atS q i j ∧ atS q i j < (n : Int) := by
  have h1 := h.sq.bd i j hin hj
  have h2 := h.full i j hi hin hj
  omega
/-- a column has as many candidates as there are empty rows -/
theorem Rect.many (h : Rect n x q) (hx : x < n) {j : Nat} (hj : j < n) : n - x ≤ ((List.range n).filter fun s => decide (Adj (candL n x q) j s)).length := by
  have := List.Nodup.length_le_of_subset (l₁ := List.range n) (l₂ := ((List.range n).filter fun s => decide (Adj (candL n x q) j s)) ++ (List.range x).map fun i => (atS q i j).toNat) List.nodup_range (fun s hs => by
    have hs2 := List.mem_range.1 hs
    by_cases ha : Adj (candL n x q) j s
    · exact List.mem_append.2 (.inl (List.mem_filter.2 ⟨hs, by simpa using ha⟩))
    · rw [h.adj hx hj hs2] at ha
      have ha : ∃ i, i < x ∧ atS q i j = (s : Int) := by
        apply Classical.byContradiction
        intro hno
        exact ha fun i hi e => hno ⟨i, hi, e⟩
      obtain ⟨i, hi, e⟩ := ha
      exact List.mem_append.2 (.inr (List.mem_map.2 ⟨i, List.mem_range.2 hi, by rw [e, Int.toNat_natCast]⟩)))
  rw [List.length_append, List.length_map, List.length_range, List.length_range] at this
  omega
/-- a full row has every symbol -/
theorem Rect.has (h : Rect n x q) {i s : Nat} (hi : i < x) (hin : i < n) (hs : s < n) : ∃ j, j < n ∧ atS q i j = (s : Int) := by
  apply Classical.byContradiction
  intro hno
  have hnd : (s :: (List.range n).map fun j => (atS q i j).toNat).Nodup := by
    refine List.nodup_cons.2 ⟨fun hm => ?_, List.pairwise_map.2 (List.Pairwise.imp_of_mem ?_ (List.pairwise_lt_range (n := n)))⟩
    · obtain ⟨j, hj, e⟩ := List.mem_map.1 hm
      have hj := List.mem_range.1 hj
      have := h.bd hi hin hj
      exact hno ⟨j, hj, by omega⟩
    · intro a b ha hb hab e
      have ha := List.mem_range.1 ha
      have hb := List.mem_range.1 hb
      have h1 := h.bd hi hin ha
      have h2 := h.bd hi hin hb
      exact h.sq.rd i a b hin hab hb (h.full i a hi hin ha) (by omega)
  have := List.Nodup.length_le_of_subset hnd (l₂ := List.range n) (fun t ht => by
    rcases List.mem_cons.1 ht with rfl | ht
    · exact List.mem_range.2 hs
    · obtain ⟨j, hj, rfl⟩ := List.mem_map.1 ht
      have := h.bd hi hin (List.mem_range.1 hj)
      exact List.mem_range.2 (by omega))
  simp at this
  omega
/-- a symbol is a candidate of as many columns as there are empty rows -/
theorem Rect.few (h : Rect n x q) (hx : x < n) {s : Nat} (hs : s < n) : ((List.range n).filter fun j => decide (Adj (candL n x q) j s)).length ≤ n - x := by
  have hex : ∀ i, i < x → ∃ j, j < n ∧ atS q i j = (s : Int) := fun i hi => h.has hi (by omega) hs
  let f : Nat → Nat := fun i => if hi : i < x then Classical.choose (hex i hi) else 0
  have hf : ∀ i, i < x → f i < n ∧ atS q i (f i) = (s : Int) := fun i hi => by
    show (if hi : i < x then Classical.choose (hex i hi) else 0) < n ∧ atS q i (if hi : i < x then Classical.choose (hex i hi) else 0) = (s : Int)
    rw [dif_pos hi]
    exact Classical.choose_spec (hex i hi)
  generalize f = f at hf
  have hnd : (((List.range n).filter fun j => decide (Adj (candL n x q) j s)) ++ (List.range x).map f).Nodup := by
    refine List.pairwise_append.2 ⟨List.Pairwise.filter _ List.nodup_range, List.pairwise_map.2 (List.Pairwise.imp_of_mem ?_ (List.pairwise_lt_range (n := x))), fun j hj k hk e => ?_⟩
    · intro a b ha hb hab e
      obtain ⟨a1, a2⟩ := hf a (List.mem_range.1 ha)
      obtain ⟨b1, b2⟩ := hf b (List.mem_range.1 hb)
      have hb := List.mem_range.1 hb
      exact h.sq.cd a b (f a) hab (by omega) a1 (by rw [a2]; omega) (by rw [a2, e, b2])
    · subst e
      obtain ⟨h1, h2⟩ := List.mem_filter.1 hj
      obtain ⟨i, hi, e⟩ := List.mem_map.1 hk
      obtain ⟨e1, e2⟩ := hf i (List.mem_range.1 hi)
      rw [e] at e1 e2
      exact ((h.adj hx e1 hs).1 (by simpa using h2)) i (List.mem_range.1 hi) e2
  have := List.Nodup.length_le_of_subset hnd (l₂ := List.range n) (fun t ht => by
    rcases List.mem_append.1 ht with ht | ht
    · exact (List.mem_filter.1 ht).1
    · obtain ⟨i, hi, rfl⟩ := List.mem_map.1 ht
      exact List.mem_range.2 (hf i (List.mem_range.1 hi)).1)
  rw [List.length_append, List.length_map, List.length_range, List.length_range] at this
  omega
/-- a rectangle can be extended by a row -/
theorem Rect.sdr (h : Rect n x q) (hx : x < n) : ∃ g, Sdr n (candL n x q) noT 0 g := by
  have hL := candL_ok h.sq hx
  rw [← matP_iff hL (Nat.zero_le _)]
  cases e : matP (candL n x q) noT n 0 with
  | true => rfl
  | false =>
    obtain ⟨J, S, hv⟩ := matS_bad hL (n - 0) (by omega) e
    exact (hv.count (d := n - x) (by omega) (fun j hj => h.many hx hj) (fun s hs => h.few hx hs)).elim
def newR (n x : Nat) (q : List (List Int)) : List Int := lrP (candL n x q) n n 0 noT
def extR (n x : Nat) (q : List (List Int)) : List (List Int) := q.set x (newR n x q)
theorem Rect.newR (h : Rect n x q) (hx : x < n) : LrOk n (candL n x q) noT 0 n (newR n x q) := lr_spec (candL_ok h.sq hx) candL_asc n 0 noT (by omega) (h.sdr hx)
theorem row_setR {q : List (List Int)} {x : Nat} {r : List Int} (hx : x < q.length) (i : Nat) : row (q.set x r) i = if i = x then r else row q i := by
  unfold row
  simp only [List.getD_eq_getElem?_getD, List.getElem?_set]
  by_cases e : i = x
  · subst e; simp [hx]
  · rw [if_neg (fun h => e h.symm), if_neg e]
theorem Rect.at_ (h : Rect n x q) (hx : x < n) (i j : Nat) : atS (extR n x q) i j = if i = x then nth (Go.Proofs.Ytcnjlkabdfcjdaa.newR n x q) j else atS q i j := by
  unfold atS extR
  rw [row_setR (by rw [h.sq.len]; exact hx)]
  split <;> rfl
theorem Rect.cell (h : Rect n x q) (hx : x < n) {j : Nat} (hj : j < n) : 0 ≤ nth (Go.Proofs.Ytcnjlkabdfcjdaa.newR n x q) j ∧ nth (Go.Proofs.Ytcnjlkabdfcjdaa.newR n x q) j < (n : Int) ∧ ∀ i, i < n → atS q i j ≠ nth (Go.Proofs.Ytcnjlkabdfcjdaa.newR n x q) j := by
  have := ((h.newR hx).adj j hj).1
  rw [Nat.zero_add, candL_row q hj, candP_mem h.sq hx] at this
  exact ⟨this.1, this.2.1, this.2.2.2⟩
theorem Rect.next (h : Rect n x q) (hx : x < n) : Rect n (x + 1) (extR n x q) := by
  have hat := h.at_ hx
  have hc := fun {j} hj => h.cell hx (j := j) hj
  have hr := h.newR hx
  refine ⟨⟨by unfold extR; rw [List.length_set, h.sq.len], fun i hi => ?_, fun i j hi hj => ?_, fun i j k hi hjk hk => ?_, fun i k j hik hk hj => ?_⟩, fun i j hi hin hj => ?_, fun i j hi hin hj => ?_⟩
  · unfold extR
    rw [row_setR (by rw [h.sq.len]; exact hx)]
    split
    · exact hr.len
    · exact h.sq.row i hi
  · rw [hat]
    split
    · have := hc hj; omega
    · exact h.sq.bd i j hi hj
  · rw [hat, hat]
    by_cases e : i = x
    · rw [if_pos e, if_pos e]; exact fun _ => hr.inj j k hjk hk
    · rw [if_neg e, if_neg e]; exact h.sq.rd i j k hi hjk hk
  · rw [hat, hat]
    by_cases e : i = x
    · rw [if_pos e, if_neg (by omega)]
      intro _ e2
      exact (hc hj).2.2 k hk e2.symm
    · rw [if_neg e]
      by_cases e2 : k = x
      · rw [if_pos e2]; exact fun _ e3 => (hc hj).2.2 i (by omega) e3
      · rw [if_neg e2]; exact h.sq.cd i k j hik hk hj
  · rw [hat]
    by_cases e : i = x
    · rw [if_pos e]; have := hc hj; omega
    · rw [if_neg e]; exact h.full i j (by omega) hin hj
  · rw [hat, if_neg (by omega)]
    exact h.emp i j (by omega) hin hj
end
def extP (n : Nat) : Nat → Nat → List (List Int) → List (List Int)
  | 0, _, q => q
  | m + 1, x, q => extP n m (x + 1) (extR n x q)
/-- the first cell that differs is less -/
def LessSq (n : Nat) (a c : List (List Int)) : Prop := ∃ i j, i < n ∧ j < n ∧ (∀ u v, u < n → v < n → (u < i ∨ (u = i ∧ v < j)) → atS a u v = atS c u v) ∧ atS a i j < atS c i j
structure ExtOk (n : Nat) (q a : List (List Int)) : Prop where
  sq : PSq n a
  full : Full n a
  keep : KeepS n q a
  least : ∀ c, PSq n c → Full n c → KeepS n q c → (∀ i j, i < n → j < n → atS a i j = atS c i j) ∨ LessSq n a c
theorem extP_ok {n : Nat} : ∀ (m x : Nat) (q : List (List Int)), x + m = n → Rect n x q → ExtOk n q (extP n m x q)
  | 0, x, q, hm, h => by
    obtain rfl : x = n := by omega
    refine ⟨h.sq, fun i j hi hj => h.full i j hi hi hj, fun i j _ _ _ => rfl, fun c _ _ hk => .inl fun i j hi hj => (hk i j hi hj (h.full i j hi hi hj)).symm⟩
  | m + 1, x, q, hm, h => by
    have hx : x < n := by omega
    have hat := h.at_ hx
    have hr := h.newR hx
    obtain ⟨e1, e2, e3, e4⟩ := extP_ok m (x + 1) (extR n x q) (by omega) (h.next hx)
    rw [extP]
    generalize extP n m (x + 1) (extR n x q) = a at *
    have hold : KeepS n q a := fun i j hi hj hne => by
      have hix : i ≠ x := fun e => hne (h.emp i j (by omega) hi hj)
      have := e3 i j hi hj (by rw [hat, if_neg hix]; exact hne)
      rw [this, hat, if_neg hix]
    have hnew : ∀ j, j < n → atS a x j = nth (newR n x q) j := fun j hj => by
      have h1 := h.cell hx hj
      have h2 := hat x j
      rw [if_pos rfl] at h2
      rw [e3 x j hx hj (by rw [h2]; omega), h2]
    refine ⟨e1, e2, hold, fun c c1 c2 c3 => ?_⟩
    have hcb : ∀ i j, i < n → j < n → 0 ≤ atS c i j ∧ atS c i j < (n : Int) := fun i j hi hj => by
      have h1 := c1.bd i j hi hj
      have h2 := c2 i j hi hj
      omega
    have hg : Sdr n (candL n x q) noT 0 (fun j => (atS c x j).toNat) := by
      refine ⟨fun j _ hj => ⟨?_, rfl⟩, fun i j _ hij hj e => ?_⟩
      · have h1 := hcb x j hx hj
        refine (h.adj hx hj (by omega)).2 fun i hi e => ?_
        have h2 := c3 i j (by omega) hj (h.full i j hi (by omega) hj)
        exact c1.cd i x j hi hx hj (c2 i j (by omega) hj) (by rw [h2, e]; omega)
      · have h1 := hcb x i hx (by omega)
        have h2 := hcb x j hx hj
        have e : (atS c x i).toNat = (atS c x j).toNat := e
        exact c1.rd x i j hx hij hj (c2 x i hx (by omega)) (by omega)
    rcases hr.least _ hg with h1 | ⟨j, hj, h1, h2⟩
    · refine e4 c c1 c2 fun i j hi hj hne => ?_
      rw [hat] at hne ⊢
      by_cases e : i = x
      · subst e
        rw [if_pos rfl, h1 j hj, Nat.zero_add]
        have := hcb i j hi hj
        omega
      · rw [if_neg e] at hne ⊢
        exact c3 i j hi hj hne
    · refine .inr ⟨x, j, hx, hj, fun u v hu hv hc => ?_, ?_⟩
      · rcases hc with hc | ⟨rfl, hc⟩
        · have hne := h.full u v hc hu hv
          rw [hold u v hu hv hne, c3 u v hu hv hne]
        · rw [hnew v hv, h1 v hc, Nat.zero_add]
          have := hcb u v hu hv
          omega
      · rw [hnew j hj]
        rw [Nat.zero_add] at h2
        have := hcb x j hx hj
        omega
theorem sq_ext {n : Nat} {a c : List (List Int)} (ha : PSq n a) (hc : PSq n c) (h : ∀ i j, i < n → j < n → atS a i j = atS c i j) : a = c := by
  refine List.ext_getElem (by rw [ha.len, hc.len]) fun i hi hj => ?_
  rw [ha.len] at hi
  rw [← row_get, ← row_get]
  refine List.ext_getElem (by rw [ha.row i hi, hc.row i hi]) fun j h1 h2 => ?_
  rw [← nth_get, ← nth_get]
  exact h i j hi (by rw [ha.row i hi] at h1; exact h1)
theorem less_cmp {n : Nat} {a c : List (List Int)} (ha : PSq n a) (hc : PSq n c) (h : LessSq n a c) : cmpL (flatP a) (flatP c) = -1 := by
  obtain ⟨i, j, hi, hj, h1, h2⟩ := h
  have hk : i * n + j < n * n := by
    have : (i + 1) * n ≤ n * n := Nat.mul_le_mul_right _ hi
    rw [Nat.succ_mul] at this
    omega
  have hdiv : (i * n + j) / n = i := by rw [Nat.mul_comm, Nat.mul_add_div (by omega), Nat.div_eq_of_lt hj, Nat.add_zero]
  have hmod : (i * n + j) % n = j := by rw [Nat.mul_comm, Nat.mul_add_mod, Nat.mod_eq_of_lt hj]
  refine cmpL_lt (k := i * n + j) ⟨by rw [flat_len ha]; omega, by rw [flat_len hc]; omega, fun d hd => ?_⟩ (by rw [flat_len ha]; exact hk) (by rw [flat_len hc]; exact hk) (by rw [flat_at ha hk, flat_at hc hk, hdiv, hmod]; exact h2)
  have hdn : d < n * n := by omega
  rw [flat_at ha hdn, flat_at hc hdn]
  obtain ⟨b1, b2⟩ := cell_bd hdn
  refine h1 _ _ b1 b2 ?_
  by_cases e : d / n < i
  · exact .inl e
  · have e2 := Nat.div_add_mod d n
    have e3 : n * i ≤ n * (d / n) := Nat.mul_le_mul_left _ (by omega)
    have e4 : n * i = i * n := Nat.mul_comm _ _
    have e5 : d / n = i := by
      apply Classical.byContradiction
      intro hne
      have e6 : n * (i + 1) ≤ n * (d / n) := Nat.mul_le_mul_left _ (by omega)
      rw [Nat.mul_succ] at e6
      omega
    exact .inr ⟨e5, by rw [e5] at e2; omega⟩
/-- the square is the first completion -/
theorem ext_first {n : Nat} {q a F : List (List Int)} (h : ExtOk n q a) (h1 : PSq n F) (h2 : Full n F) (h3 : KeepS n q F) (hl : ∀ c, PSq n c → Full n c → KeepS n q c → cmpL (flatP F) (flatP c) ≤ 0) : F = a := by
  rcases h.least F h1 h2 h3 with e | e
  · exact (sq_ext h.sq h1 e).symm
  · have a1 := less_cmp h.sq h1 e
    have a2 := hl a h.sq h.full h.keep
    rw [cmpL_swap, a1] at a2
    omega
/-- a rectangle has a completion, if the search was not cut off -/
theorem clR_some {p a : List (List Int)} (hp : PartOk p) {b : Nat} (ha : ExtOk p.length p a) (h : (clR p 1 b).spent = false) : (clR p 1 b).count ≠ 0 := by
  obtain ⟨e1, -⟩ := clS_says (n := p.length) (lim := 1) (by decide) (empP p.length p) p ⟨b, false, 0, []⟩ rfl (Nat.zero_lt_one) h
  unfold clR
  rw [e1]
  have hm := (allC_mem (empP p.length p) p hp.2.2 rfl a).2 ⟨ha.sq, ha.full, ha.keep⟩
  have : 0 < (allC p.length (empP p.length p) p).length := List.length_pos_of_mem hm
  simp only []
  omega
end Go.Proofs.Ytcnjlkabdfcjdaa
