/- Plain law: the search for completions of a partial square: the first one is the least. No program in sight. -/
import Derived.Test.YtnmcmologlgccaaGreatZAG
import Derived.Test.YtnmcmologlgccaaGreatZAC
import Derived.Test.YtnmcmologlgccaaGreatZAH
import Derived.Test.YtnmcmologlgccaaGreatZAD
set_option linter.unusedVariables false
set_option linter.unusedSimpArgs false
namespace Go.Proofs.YtnmcmologlgccaaGreat

/-! squares as rows; a place written -/
def putS (p : List (List Int)) (x y : Nat) (s : Int) : List (List Int) := p.set x ((row p x).set y s)
/-- the symbols that are neither in the row nor in the column -/
def candP (p : List (List Int)) (x y : Nat) : List Int := ((List.range p.length).map fun (s : Nat) => (s : Int)).filter fun s => !(row p x).contains s && !(p.any fun r => nth r y == s)
structure CSt where
  left : Nat
  spent : Bool
  count : Nat
  first : List (List Int)
def clL (sub : List (List Int) → CSt → CSt) (lim : Nat) (p : List (List Int)) (x y : Nat) : List Int → CSt → CSt
  | [], s => s
  | z :: r, s => if s.count = lim ∨ s.spent = true then s else if s.left = 0 then { s with spent := true } else clL sub lim p x y r (sub (putS p x y z) { s with left := s.left - 1 })
def clS (n lim : Nat) : List Nat → List (List Int) → CSt → CSt
  | [], p, s => { s with count := s.count + 1, first := if s.count = 0 then p else s.first }
  | c :: r, p, s => clL (clS n lim r) lim p (c / n) (c % n) (candP p (c / n) (c % n)) s
/-- all completions, one by one -/
def allC (n : Nat) : List Nat → List (List Int) → List (List (List Int))
  | [], p => [p]
  | c :: r, p => (candP p (c / n) (c % n)).flatMap fun z => allC n r (putS p (c / n) (c % n) z)
section
variable {n lim : Nat}
theorem clL_stop {sub : List (List Int) → CSt → CSt} {p : List (List Int)} {x y : Nat} (r : List Int) (s : CSt) (h : s.count = lim ∨ s.spent = true) : clL sub lim p x y r s = s := by
  cases r with
  | nil => rfl
  | cons z r => rw [clL, if_pos h]
/-- what a search says of the completions: how many up to the limit, and which is the first -/
def Says (lim : Nat) (s t : CSt) (L : List (List (List Int))) : Prop :=
  t.spent = false → t.count = min lim (s.count + L.length) ∧ t.first = (if s.count = 0 then L.headD s.first else s.first)
theorem clL_says {sub : List (List Int) → CSt → CSt} {p : List (List Int)} {x y : Nat} {F : List (List Int) → List (List (List Int))} (hl : 0 < lim)
    (hs : ∀ q s, s.spent = false → s.count < lim → Says lim s (sub q s) (F q)) :
    ∀ (r : List Int) (s : CSt), s.spent = false → s.count ≤ lim → Says lim s (clL sub lim p x y r s) (r.flatMap fun z => F (putS p x y z))
  | [], s, h1, h2 => fun _ => by
    rw [clL, List.flatMap_nil]
    exact ⟨by simp; omega, by split <;> rfl⟩
  | z :: r, s, h1, h2 => fun h3 => by
    rw [clL] at h3 ⊢
    rw [List.flatMap_cons]
    by_cases hc : s.count = lim ∨ s.spent = true
    · rw [if_pos hc]
      have hc : s.count = lim := hc.resolve_right (by rw [h1]; simp)
      exact ⟨by omega, by rw [if_neg (by omega)]⟩
    · rw [if_neg hc] at h3 ⊢
      have hlt : s.count < lim := by
        rcases Nat.lt_or_ge s.count lim with h | h
        · exact h
        · exact absurd (.inl (by omega)) hc
      by_cases h0 : s.left = 0
      · rw [if_pos h0] at h3; cases h3
      · rw [if_neg h0] at h3 ⊢
        have hsub := hs (putS p x y z) { s with left := s.left - 1 } h1 hlt
        cases hsp : (sub (putS p x y z) { s with left := s.left - 1 }).spent with
        | true => rw [clL_stop r _ (.inr hsp), hsp] at h3; cases h3
        | false =>
          obtain ⟨e1, e2⟩ := hsub hsp
          simp only [] at e1 e2
          obtain ⟨f1, f2⟩ := clL_says hl hs r _ hsp (by omega) h3
          rw [f1, f2, e1, e2, List.length_append]
          refine ⟨by omega, ?_⟩
          generalize F (putS p x y z) = L1
          generalize (r.flatMap fun z => F (putS p x y z)) = L2
          by_cases hz : s.count = 0
          · rw [if_pos hz, if_pos hz]
            cases L1 with
            | nil =>
              rw [if_pos (by simp; omega)]
              rfl
            | cons q L1 =>
              rw [if_neg (by simp; omega)]
              rfl
          · rw [if_neg hz, if_neg hz, if_neg (by omega)]
theorem clS_says (hl : 0 < lim) : ∀ (cs : List Nat) (p : List (List Int)) (s : CSt), s.spent = false → s.count < lim → Says lim s (clS n lim cs p s) (allC n cs p)
  | [], p, s, h1, h2 => fun _ => by
    rw [clS, allC]
    exact ⟨by simp; omega, by simp⟩
  | c :: r, p, s, h1, h2 => by
    rw [clS, allC]
    exact clL_says hl (fun q s h1 h2 => clS_says hl r q s h1 h2) _ s h1 (by omega)
end
/-! partial squares -/
def atS (p : List (List Int)) (x y : Nat) : Int := nth (row p x) y
structure PSq (n : Nat) (p : List (List Int)) : Prop where
  len : p.length = n
  row : ∀ x, x < n → (Go.Proofs.YtnmcmologlgccaaGreat.row p x).length = n
  bd : ∀ x y, x < n → y < n → -1 ≤ atS p x y ∧ atS p x y < (n : Int)
  rd : ∀ x y z, x < n → y < z → z < n → atS p x y ≠ -1 → atS p x y ≠ atS p x z
  cd : ∀ x z y, x < z → z < n → y < n → atS p x y ≠ -1 → atS p x y ≠ atS p z y
def Full (n : Nat) (p : List (List Int)) : Prop := ∀ x y, x < n → y < n → atS p x y ≠ -1
def KeepS (n : Nat) (p q : List (List Int)) : Prop := ∀ x y, x < n → y < n → atS p x y ≠ -1 → atS q x y = atS p x y
def empP (n : Nat) (p : List (List Int)) : List Nat := (List.range (n * n)).filter fun c => atS p (c / n) (c % n) == -1
theorem row_putS {p : List (List Int)} {x y : Nat} {z : Int} (hx : x < p.length) (i : Nat) : row (putS p x y z) i = if i = x then (row p x).set y z else row p i := by
  unfold putS
  unfold row
  simp only [List.getD_eq_getElem?_getD, List.getElem?_set]
  by_cases e : i = x
  · subst e; simp [hx]
  · rw [if_neg (fun h => e h.symm), if_neg e]
theorem atS_put {n : Nat} {p : List (List Int)} (h : PSq n p) {x y : Nat} (hx : x < n) (hy : y < n) (z : Int) {i j : Nat} (hi : i < n) (hj : j < n) : atS (putS p x y z) i j = if i = x ∧ j = y then z else atS p i j := by
  unfold atS
  rw [row_putS (by rw [h.len]; exact hx)]
  by_cases e : i = x
  · subst e
    rw [if_pos rfl]
    unfold nth
    simp only [List.getD_eq_getElem?_getD, List.getElem?_set]
    by_cases e2 : j = y
    · subst e2
      rw [if_pos rfl, if_pos (by rw [h.row i hi]; exact hj)]
      simp
    · rw [if_neg (fun h => e2 h.symm), if_neg (fun h => e2 h.2)]
  · rw [if_neg e, if_neg (fun h => e h.1)]
theorem candP_mem {n : Nat} {p : List (List Int)} (h : PSq n p) {x y : Nat} (hx : x < n) {z : Int} : z ∈ candP p x y ↔ 0 ≤ z ∧ z < (n : Int) ∧ (∀ j, j < n → atS p x j ≠ z) ∧ ∀ i, i < n → atS p i y ≠ z := by
  unfold candP
  rw [List.mem_filter, List.mem_map, Bool.and_eq_true, Bool.not_eq_true', Bool.not_eq_true', ← Bool.not_eq_true, ← Bool.not_eq_true, List.contains_iff_mem, List.any_eq_true, h.len]
  constructor
  · rintro ⟨⟨s, hs, rfl⟩, h1, h2⟩
    have hs := List.mem_range.1 hs
    refine ⟨by omega, by omega, fun j hj e => h1 ?_, fun i hi e => h2 ⟨row p i, ?_, ?_⟩⟩
    · rw [← e]
      unfold atS
      rw [nth_get (by rw [h.row x hx]; exact hj)]
      exact List.getElem_mem _
    · rw [row_get (by rw [h.len]; exact hi)]
      exact List.getElem_mem _
    · unfold atS at e
      rw [e]
      simp
  · rintro ⟨h0, h1, h2, h3⟩
    refine ⟨⟨z.toNat, List.mem_range.2 (by omega), by omega⟩, fun hm => ?_, ?_⟩
    · obtain ⟨j, hj, e⟩ := mem_nth hm
      rw [h.row x hx] at hj
      exact h2 j hj e
    · rintro ⟨r, hr, e⟩
      obtain ⟨i, hi, rfl⟩ := List.mem_iff_getElem.1 hr
      rw [← row_get hi] at e
      exact h3 i (by rw [← h.len]; exact hi) (by unfold atS; simpa using e)
theorem PSq.put {n : Nat} {p : List (List Int)} (h : PSq n p) {x y : Nat} (hx : x < n) (hy : y < n) {z : Int} (hz : z ∈ candP p x y) : PSq n (putS p x y z) := by
  obtain ⟨z0, z1, z2, z3⟩ := (candP_mem h hx).1 hz
  have at_ := fun {i j} (hi : i < n) (hj : j < n) => atS_put h hx hy z hi hj
  refine ⟨by unfold putS; rw [List.length_set, h.len], fun i hi => ?_, fun i j hi hj => ?_, fun i j k hi hjk hk => ?_, fun i k j hik hk hj => ?_⟩
  · rw [row_putS (by rw [h.len]; exact hx)]
    split
    · rw [List.length_set]; exact h.row x hx
    · exact h.row i hi
  · rw [at_ hi hj]
    split
    · omega
    · exact h.bd i j hi hj
  · rw [at_ hi (by omega), at_ hi hk]
    by_cases e1 : i = x ∧ j = y
    · rw [if_pos e1, if_neg (by omega)]
      intro _ e
      exact z2 k hk (by rw [← e1.1]; exact e.symm)
    · rw [if_neg e1]
      by_cases e2 : i = x ∧ k = y
      · rw [if_pos e2]
        intro _ e
        exact z2 j (by omega) (by rw [← e2.1]; exact e)
      · rw [if_neg e2]
        exact h.rd i j k hi hjk hk
  · rw [at_ (by omega) hj, at_ hk hj]
    by_cases e1 : i = x ∧ j = y
    · rw [if_pos e1, if_neg (by omega)]
      intro _ e
      exact z3 k hk (by rw [← e1.2]; exact e.symm)
    · rw [if_neg e1]
      by_cases e2 : k = x ∧ j = y
      · rw [if_pos e2]
        intro _ e
        exact z3 i (by omega) (by rw [← e2.2]; exact e)
      · rw [if_neg e2]
        exact h.cd i k j hik hk hj
theorem cell_bd {n c : Nat} (h : c < n * n) : c / n < n ∧ c % n < n := by
  have hn : 0 < n := by
    rcases Nat.eq_zero_or_pos n with h0 | h0
    · subst h0; simp at h
    · exact h0
  exact ⟨Nat.div_lt_of_lt_mul h, Nat.mod_lt _ hn⟩
theorem cell_ne {n c d : Nat} (h : c ≠ d) : ¬ (c / n = d / n ∧ c % n = d % n) := fun e => h (by rw [← Nat.div_add_mod c n, ← Nat.div_add_mod d n, e.1, e.2])
/-- the first empty cell is filled: the others are left -/
theorem emp_put {n : Nat} {p : List (List Int)} (h : PSq n p) {c : Nat} {r : List Nat} (he : empP n p = c :: r) {z : Int} (hz : z ∈ candP p (c / n) (c % n)) : empP n (putS p (c / n) (c % n) z) = r := by
  have hcm : c ∈ empP n p := by rw [he]; exact List.mem_cons_self
  have hc := List.mem_range.1 (List.mem_filter.1 hcm).1
  obtain ⟨b1, b2⟩ := cell_bd hc
  have hnd : (empP n p).Nodup := List.Pairwise.filter _ List.nodup_range
  have hzn := (candP_mem h b1).1 hz
  have e1 : empP n (putS p (c / n) (c % n) z) = (empP n p).filter fun d => d != c := by
    unfold empP
    rw [List.filter_filter]
    refine List.filter_congr fun d hd => ?_
    obtain ⟨d1, d2⟩ := cell_bd (List.mem_range.1 hd)
    rw [atS_put h b1 b2 z d1 d2]
    by_cases e : d = c
    · subst e
      rw [if_pos ⟨rfl, rfl⟩]
      have : (z == -1) = false := by simp; omega
      simp [this]
    · rw [if_neg (cell_ne e)]
      simp [e]
  rw [e1, he, List.filter_cons]
  rw [he, List.nodup_cons] at hnd
  simp only [bne_self_eq_false, Bool.false_eq_true, if_false]
  exact List.filter_eq_self.2 fun d hd => by simp; rintro rfl; exact hnd.1 hd
theorem emp_full {n : Nat} {p : List (List Int)} (he : empP n p = []) : Full n p := fun x y hx hy e => by
  have hc : n * x + y < n * n := by
    have := Nat.mul_le_mul_left n (show x + 1 ≤ n by omega)
    rw [Nat.mul_succ] at this
    omega
  have hm : n * x + y ∈ empP n p := by
    unfold empP
    refine List.mem_filter.2 ⟨List.mem_range.2 hc, ?_⟩
    rw [Nat.mul_add_div (by omega), Nat.div_eq_of_lt hy, Nat.mul_add_mod, Nat.mod_eq_of_lt hy, Nat.add_zero, e]
    rfl
  rw [he] at hm
  cases hm
theorem allC_mem {n : Nat} : ∀ (cs : List Nat) (p : List (List Int)), PSq n p → empP n p = cs → ∀ q, q ∈ allC n cs p ↔ PSq n q ∧ Full n q ∧ KeepS n p q
  | [], p, h, he, q => by
    rw [allC, List.mem_singleton]
    have hf := emp_full he
    constructor
    · rintro rfl; exact ⟨h, hf, fun _ _ _ _ _ => rfl⟩
    · rintro ⟨h1, h2, h3⟩
      refine List.ext_getElem (by rw [h1.len, h.len]) fun i hi hi2 => ?_
      rw [h1.len] at hi
      rw [← row_get (by rw [h1.len]; exact hi), ← row_get hi2]
      refine List.ext_getElem (by rw [h1.row i hi, h.row i hi]) fun j hj hj2 => ?_
      rw [h1.row i hi] at hj
      rw [← nth_get (by rw [h1.row i hi]; exact hj), ← nth_get hj2]
      exact h3 i j hi hj (hf i j hi hj)
  | c :: r, p, h, he, q => by
    have hcm : c ∈ empP n p := by rw [he]; exact List.mem_cons_self
    have hc := List.mem_range.1 (List.mem_filter.1 hcm).1
    have hce : atS p (c / n) (c % n) = -1 := by simpa using (List.mem_filter.1 hcm).2
    obtain ⟨b1, b2⟩ := cell_bd hc
    rw [allC, List.mem_flatMap]
    constructor
    · rintro ⟨z, hz, hq⟩
      obtain ⟨h1, h2, h3⟩ := (allC_mem r _ (h.put b1 b2 hz) (emp_put h he hz) q).1 hq
      refine ⟨h1, h2, fun x y hx hy hne => ?_⟩
      have e : ¬ (x = c / n ∧ y = c % n) := fun e => hne (by rw [e.1, e.2]; exact hce)
      have := h3 x y hx hy
      rw [atS_put h b1 b2 z hx hy, if_neg e] at this
      exact this hne
    · rintro ⟨h1, h2, h3⟩
      have hz : atS q (c / n) (c % n) ∈ candP p (c / n) (c % n) := by
        have hq := h1.bd _ _ b1 b2
        have hf := h2 _ _ b1 b2
        refine (candP_mem h b1).2 ⟨by omega, hq.2, fun j hj e => ?_, fun i hi e => ?_⟩
        · have ej : atS p (c / n) j ≠ -1 := by rw [e]; exact hf
          have k := h3 _ _ b1 hj ej
          rcases Nat.lt_trichotomy j (c % n) with hh | hh | hh
          · exact h1.rd _ _ _ b1 hh b2 (by rw [k]; exact ej) (by rw [k, e])
          · rw [hh] at ej; exact ej hce
          · exact h1.rd _ _ _ b1 hh hj hf (by rw [k, e])
        · have ej : atS p i (c % n) ≠ -1 := by rw [e]; exact hf
          have k := h3 _ _ hi b2 ej
          rcases Nat.lt_trichotomy i (c / n) with hh | hh | hh
          · exact h1.cd _ _ _ hh b1 b2 (by rw [k]; exact ej) (by rw [k, e])
          · rw [hh] at ej; exact ej hce
          · exact h1.cd _ _ _ hh hi b2 hf (by rw [k, e])
      refine ⟨_, hz, (allC_mem r _ (h.put b1 b2 hz) (emp_put h he hz) q).2 ⟨h1, h2, fun x y hx hy => ?_⟩⟩
      rw [atS_put h b1 b2 _ hx hy]
      by_cases e : x = c / n ∧ y = c % n
      · rw [if_pos e, e.1, e.2]; exact fun _ => rfl
      · rw [if_neg e]; exact h3 x y hx hy
/-! in order -/
def flatP (p : List (List Int)) : List Int := p.flatten
theorem flatten_nth {n : Nat} : ∀ (p : List (List Int)), (∀ r ∈ p, r.length = n) → ∀ x y, x < p.length → y < n → nth p.flatten (n * x + y) = nth (row p x) y
  | [], _, x, y, hx, _ => absurd hx (by simp)
  | r :: p, h, x, y, hx, hy => by
    have hr := h r List.mem_cons_self
    rw [List.flatten_cons]
    cases x with
    | zero =>
      have e : row (r :: p) 0 = r := rfl
      rw [e]
      unfold nth
      rw [List.getD_eq_getElem?_getD, List.getElem?_append_left (by omega), ← List.getD_eq_getElem?_getD]
      simp
    | succ x =>
      have e : row (r :: p) (x + 1) = row p x := by simp [row]
      rw [e, ← flatten_nth p (fun r hr => h r (List.mem_cons_of_mem _ hr)) x y (by simpa using hx) hy]
      unfold nth
      rw [List.getD_eq_getElem?_getD, List.getElem?_append_right (by rw [hr, Nat.mul_succ]; omega), ← List.getD_eq_getElem?_getD]
      congr 1
      rw [hr, Nat.mul_succ]
      omega
theorem flatten_len {n : Nat} : ∀ (p : List (List Int)), (∀ r ∈ p, r.length = n) → p.flatten.length = n * p.length
  | [], _ => by simp
  | r :: p, h => by
    rw [List.flatten_cons, List.length_append, flatten_len p (fun r hr => h r (List.mem_cons_of_mem _ hr)), h r List.mem_cons_self, List.length_cons, Nat.mul_succ]
    omega
theorem PSq.rows {n : Nat} {p : List (List Int)} (h : PSq n p) : ∀ r ∈ p, r.length = n := fun r hr => by
  obtain ⟨i, hi, rfl⟩ := List.mem_iff_getElem.1 hr
  rw [← row_get hi]
  exact h.row i (by rw [← h.len]; exact hi)
theorem flat_at {n : Nat} {p : List (List Int)} (h : PSq n p) {c : Nat} (hc : c < n * n) : nth (flatP p) c = atS p (c / n) (c % n) := by
  obtain ⟨b1, b2⟩ := cell_bd hc
  have := flatten_nth p h.rows (c / n) (c % n) (by rw [h.len]; exact b1) b2
  rw [Nat.div_add_mod] at this
  exact this
theorem flat_len {n : Nat} {p : List (List Int)} (h : PSq n p) : (flatP p).length = n * n := by
  unfold flatP
  rw [flatten_len p h.rows, h.len]
/-- completions come in the order of their numbers -/
theorem allC_order {n : Nat} : ∀ (cs : List Nat) (p : List (List Int)), PSq n p → empP n p = cs → (allC n cs p).Pairwise fun q s => cmpL (flatP q) (flatP s) < 0
  | [], p, _, _ => by rw [allC]; exact List.pairwise_singleton _ _
  | c :: r, p, h, he => by
    have hcm : c ∈ empP n p := by rw [he]; exact List.mem_cons_self
    have hc := List.mem_range.1 (List.mem_filter.1 hcm).1
    obtain ⟨b1, b2⟩ := cell_bd hc
    have hlow : ∀ d, d < c → atS p (d / n) (d % n) ≠ -1 := fun d hd e => by
      have hm : d ∈ empP n p := List.mem_filter.2 ⟨List.mem_range.2 (by omega), by rw [e]; rfl⟩
      have hs : (empP n p).Pairwise fun a b => a < b := List.Pairwise.filter _ List.pairwise_lt_range
      rw [he] at hm hs
      rcases List.mem_cons.1 hm with rfl | hm
      · omega
      · have := (List.pairwise_cons.1 hs).1 d hm
        omega
    have hcs : (candP p (c / n) (c % n)).Pairwise fun a b => a < b := by
      unfold candP
      refine List.Pairwise.filter _ ?_
      rw [List.pairwise_map]
      exact List.pairwise_lt_range.imp fun h => by omega
    rw [allC, List.pairwise_flatMap]
    refine ⟨fun z hz => allC_order r _ (h.put b1 b2 hz) (emp_put h he hz), List.Pairwise.imp_of_mem ?_ hcs⟩
    intro z1 z2 hz1 hz2 hlt q hq s hs
    obtain ⟨q1, q2, q3⟩ := (allC_mem r _ (h.put b1 b2 hz1) (emp_put h he hz1) q).1 hq
    obtain ⟨s1, s2, s3⟩ := (allC_mem r _ (h.put b1 b2 hz2) (emp_put h he hz2) s).1 hs
    have key : ∀ (z : Int) (u : List (List Int)), z ∈ candP p (c / n) (c % n) → KeepS n (putS p (c / n) (c % n) z) u → (∀ d, d < c → atS u (d / n) (d % n) = atS p (d / n) (d % n)) ∧ atS u (c / n) (c % n) = z := fun z u hz hu => by
      have hz0 := (candP_mem h b1).1 hz
      refine ⟨fun d hd => ?_, ?_⟩
      · obtain ⟨d1, d2⟩ := cell_bd (show d < n * n by omega)
        have := hu _ _ d1 d2
        rw [atS_put h b1 b2 z d1 d2, if_neg (cell_ne (by omega))] at this
        exact this (hlow d hd)
      · have := hu _ _ b1 b2
        rw [atS_put h b1 b2 z b1 b2, if_pos ⟨rfl, rfl⟩] at this
        exact this (by omega)
    obtain ⟨u1, u2⟩ := key z1 q hz1 q3
    obtain ⟨v1, v2⟩ := key z2 s hz2 s3
    have hag : agree (flatP q) (flatP s) c := ⟨by rw [flat_len q1]; omega, by rw [flat_len s1]; omega, fun d hd => by rw [flat_at q1 (by omega), flat_at s1 (by omega), u1 d hd, v1 d hd]⟩
    rw [cmpL_lt hag (by rw [flat_len q1]; exact hc) (by rw [flat_len s1]; exact hc) (by rw [flat_at q1 hc, flat_at s1 hc, u2, v2]; exact hlt)]
    decide
/-- the first completion is the least -/
theorem head_least {n : Nat} {p q : List (List Int)} (h : PSq n p) {d : List (List Int)} (h1 : PSq n q) (h2 : Full n q) (h3 : KeepS n p q) : cmpL (flatP ((allC n (empP n p) p).headD d)) (flatP q) ≤ 0 := by
  have hm := (allC_mem _ p h rfl q).2 ⟨h1, h2, h3⟩
  have ho := allC_order _ p h rfl
  generalize allC n (empP n p) p = L at *
  cases L with
  | nil => cases hm
  | cons a L =>
    rcases List.mem_cons.1 hm with rfl | hm
    · rw [List.headD_cons, cmpL_refl]; decide
    · have := (List.pairwise_cons.1 ho).1 q hm
      rw [List.headD_cons]
      omega
end Go.Proofs.YtnmcmologlgccaaGreat
/- Plain law of completions, as the law asks it. No program in sight. -/
namespace Go.Proofs.YtnmcmologlgccaaGreat

/-- a partial square -/
def PartOk (p : List (List Int)) : Prop := 1 ≤ p.length ∧ p.length ≤ 10 ∧ PSq p.length p
theorem full_square {n : Nat} {q : List (List Int)} (h : PSq n q) (hf : Full n q) (h1 : 1 ≤ n) (h2 : n ≤ 10) : Square q := by
  refine ⟨by rw [h.len]; exact h1, by rw [h.len]; exact h2, fun i hi => ?_, fun y hy => ?_⟩
  · rw [h.len] at hi
    have hr := h.row i hi
    refine ⟨by rw [hr, h.len], ⟨fun k hk => ?_, fun j k hjk hk => ?_⟩⟩
    · rw [hr] at hk
      have b := h.bd i k hi hk
      have f := hf i k hi hk
      unfold atS at b f
      rw [hr]
      omega
    · rw [hr] at hk
      exact h.rd i j k hi hjk hk (hf i j hi (by omega))
  · rw [h.len] at hy
    have e : ∀ i, i < n → nth (q.map fun r => nth r y) i = atS q i y := fun i hi => by
      rw [nth_get (by rw [List.length_map, h.len]; exact hi), List.getElem_map, ← row_get (by rw [h.len]; exact hi)]
      rfl
    refine ⟨fun k hk => ?_, fun j k hjk hk => ?_⟩
    · rw [List.length_map, h.len] at hk ⊢
      rw [e k hk]
      have b := h.bd k y hk hy
      have f := hf k y hk hy
      omega
    · rw [List.length_map, h.len] at hk
      rw [e j (by omega), e k hk]
      exact h.cd j k y hjk hk hy (hf j y (by omega) hy)
/-- the search for completions -/
def clR (p : List (List Int)) (lim budget : Nat) : CSt := clS p.length lim (empP p.length p) p ⟨budget, false, 0, []⟩
/-- a completion that is found -/
theorem clR_first {p : List (List Int)} (hp : PartOk p) {budget : Nat} (h : (clR p 1 budget).spent = false) (hc : (clR p 1 budget).count ≠ 0) :
    (clR p 1 budget).count = 1 ∧ PSq p.length (clR p 1 budget).first ∧ Full p.length (clR p 1 budget).first ∧ KeepS p.length p (clR p 1 budget).first ∧ Square (clR p 1 budget).first ∧
    ∀ q, PSq p.length q → Full p.length q → KeepS p.length p q → cmpL (flatP (clR p 1 budget).first) (flatP q) ≤ 0 := by
  obtain ⟨e1, e2⟩ := clS_says (n := p.length) (lim := 1) (by decide) (empP p.length p) p ⟨budget, false, 0, []⟩ rfl (Nat.zero_lt_one) h
  unfold clR at hc ⊢
  rw [e1] at hc ⊢
  rw [e2, if_pos rfl]
  simp only [Nat.zero_add] at hc ⊢
  have hm := allC_mem (empP p.length p) p hp.2.2 rfl
  have hl := fun q h1 h2 h3 => head_least (d := []) (q := q) hp.2.2 h1 h2 h3
  generalize allC p.length (empP p.length p) p = L at *
  cases L with
  | nil => simp at hc
  | cons q L =>
    obtain ⟨h1, h2, h3⟩ := (hm q).1 List.mem_cons_self
    rw [List.headD_cons] at hl ⊢
    exact ⟨by simp, h1, h2, h3, full_square h1 h2 hp.1 hp.2.1, hl⟩
/-- one symbol more -/
theorem keep_put {n : Nat} {p q : List (List Int)} (h : PSq n p) {x y : Nat} (hx : x < n) (hy : y < n) {z : Int} (he : atS p x y = -1) (hz : z ∈ candP p x y) (hk : KeepS n (putS p x y z) q) : KeepS n p q := fun i j hi hj hne => by
  have e : ¬ (i = x ∧ j = y) := fun e => hne (by rw [e.1, e.2]; exact he)
  have := hk i j hi hj
  rw [atS_put h hx hy z hi hj, if_neg e] at this
  exact this hne
theorem part_put {p : List (List Int)} (hp : PartOk p) {x y : Nat} (hx : x < p.length) (hy : y < p.length) {z : Int} (hz : z ∈ candP p x y) : PartOk (putS p x y z) := by
  have hl : (putS p x y z).length = p.length := by unfold putS; rw [List.length_set]
  exact ⟨by rw [hl]; exact hp.1, by rw [hl]; exact hp.2.1, by rw [hl]; exact hp.2.2.put hx hy hz⟩
end Go.Proofs.YtnmcmologlgccaaGreat
/- Partial squares: a symbol in a column, the candidates of a cell, the empty cells. No condition beyond those stated. -/
namespace Go.Proofs.YtnmcmologlgccaaGreat
open Go.RowKit

/-- a function value that tells of each of some lists whether p holds -/
def AskRm (g : Nat) (lb : Array Value) (p : List Int → Bool) (zs : List (List Int)) (w : World) : Prop :=
  ∀ (A : Option Addr) (n c : Nat) (z : List Int) (W : World), Below w.heap.size w W → z ∈ zs → RI W A n z → n ≤ c → c ≤ 9223372036854775807 → Calls Tryz.prog g (#[.slice A n c] ++ lb) W (RetB W (p z))
set_option maxHeartbeats 1000000 in
theorem indexFuncRm (g : Nat) (lb : Array Value) (eg : ∀ args w, (callFunc g args).run Tryz.prog w = .ok (.enter g args) w) (p : List Int → Bool) (A : Option Addr) (n c : Nat) (zs : List (List Int)) (w : World) (ha : RR w A n zs) (hn : n ≤ 9223372036854775807) (hp : AskRm g lb p zs w) :
    Calls Tryz.prog 109 #[.slice A n c, .func (.func g) #[] lb] w (SomeIdx w (zs.any p)) := by
  have hla := Lib.hid ha.len
  go_enter Tryz.func109, Tryz.ntmps109
  go_wp2
  go_loopw [5, 8] (fun _ i wr => ∃ k : Nat, k ≤ n ∧ i = .int .i64 k ∧ Below w.heap.size w wr ∧ noneTo p zs k) (fun _ i _ => n - (intOf i).toNat)
  case atStart => exact ⟨0, Nat.zero_le _, rfl, Below.refl _ _, fun j _ h => absurd h (by omega)⟩
  case round =>
    obtain ⟨k, hk, rfl, hb, hnone⟩ := hrel
    by_cases hlt : k < n
    · obtain ⟨a, A1, n1, c1, rfl, hca, hn1, hc1, ha1⟩ := (ha.keep hb).get hlt
      have hz : zs[k]? = some (row zs k) := by
        have h : k < zs.length := by rw [hla.out]; exact hlt
        rw [row_get h]; exact List.getElem?_eq_getElem h
      have hcall := fun W h1 => hp A1 n1 c1 (row zs k) W h1 (List.mem_of_getElem? hz)
      cases hq : p (row zs k) with
      | true =>
        rw [hq] at hcall
        have H := Lib.hid (any_hit hz hq)
        clear hnone hz hq
        go_wp2_with (go_at_fn g; refine (hcall _ hb ha1 hn1 hc1).mono ?_; rintro e w1 ⟨rfl, hb1⟩)
        go_ret
        exact ⟨k, rfl, by omega, by omega, by rw [H.out]; simp, hb.trans (hb1.mono hb.size)⟩
      | false =>
        rw [hq] at hcall
        have H := Lib.hid (noneTo_step hnone hz hq)
        clear hnone hz hq
        go_wp2_with (go_at_fn g; refine (hcall _ hb ha1 hn1 hc1).mono ?_; rintro e w1 ⟨rfl, hb1⟩)
        go_roundw
        case rel => exact ⟨k + 1, by omega, by go_num, hb.trans (hb1.mono hb.size), H.out⟩
        case measure => simp [intOf]; omega
    · have H := Lib.hid (show zs.any p = false from noneTo_all (by rw [hla.out]; rwa [show k = n by omega] at hnone))
      clear hnone
      go_wp2
      go_ret
      exact ⟨-1, rfl, by omega, by omega, by rw [H.out]; simp, hb⟩
set_option maxHeartbeats 400000 in
theorem containsFuncRm (g : Nat) (lb : Array Value) (eg : ∀ args w, (callFunc g args).run Tryz.prog w = .ok (.enter g args) w) (p : List Int → Bool) (A : Option Addr) (n c : Nat) (zs : List (List Int)) (w : World) (ha : RR w A n zs) (hn : n ≤ 9223372036854775807) (hp : AskRm g lb p zs w) :
    Calls Tryz.prog 64 #[.slice A n c, .func (.func g) #[] lb] w (RetB w (zs.any p)) := by
  go_enter Tryz.func64, Tryz.ntmps64
  go_wp2_with fail
  refine (indexFuncRm g lb eg p A n c zs _ ha hn hp).mono ?_
  rintro e w1 ⟨r, rfl, h1, h2, h3, hb⟩
  have H := Lib.hid h3
  clear h3
  go_wp2
  go_ret
  exact ⟨by rw [← H.out]; rfl, hb⟩
/-- a symbol stands in a column -/
def colB (y : Nat) (s : Int) (r : List Int) : Bool := nth r y == s
/-- the candidates below a number -/
def candTo (p : List (List Int)) (x y k : Nat) : List Int := ((List.range k).map fun (s : Nat) => (s : Int)).filter fun s => !(row p x).contains s && !(p.any fun r => nth r y == s)
theorem candTo_all (p : List (List Int)) (x y : Nat) : candTo p x y p.length = candP p x y := rfl
theorem memB_contains (l : List Int) (x : Int) : l.contains x = memB l x := by
  by_cases h : x ∈ l
  · rw [memB_true.2 h, List.contains_iff_mem.2 h]
  · rw [memB_false.2 h, Bool.eq_false_iff]; exact fun e => h (List.contains_iff_mem.1 e)
theorem candTo_step (p : List (List Int)) (x y k : Nat) : candTo p x y (k + 1) = if (!memB (row p x) (k : Int) && !p.any (colB y (k : Int))) = true then candTo p x y k ++ [(k : Int)] else candTo p x y k := by
  unfold candTo
  rw [List.range_succ, List.map_append, List.filter_append, List.map_singleton, List.filter_cons, List.filter_nil]
  rw [show (!(row p x).contains (k : Int) && !(p.any fun r => nth r y == (k : Int))) = (!memB (row p x) (k : Int) && !p.any (colB y (k : Int))) by rw [memB_contains]; rfl]
  split
  · rfl
  · simp
theorem candTo_le (p : List (List Int)) (x y k : Nat) : (candTo p x y k).length ≤ k := Nat.le_trans (List.length_filter_le _ _) (by simp)
/-- the empty cells, below a number -/
def empTo (n : Nat) (p : List (List Int)) (k : Nat) : List Nat := (List.range k).filter fun c => atS p (c / n) (c % n) == -1
def natsI (l : List Nat) : List Int := l.map fun (c : Nat) => (c : Int)
theorem empTo_step (n : Nat) (p : List (List Int)) (x y : Nat) (hy : y < n) : empTo n p (x * n + y + 1) = if atS p x y = -1 then empTo n p (x * n + y) ++ [x * n + y] else empTo n p (x * n + y) := by
  have h1 : (x * n + y) / n = x := by
    rw [Nat.mul_comm, Nat.mul_add_div (by omega), Nat.div_eq_of_lt hy, Nat.add_zero]
  have h2 : (x * n + y) % n = y := by
    rw [Nat.mul_comm, Nat.mul_add_mod, Nat.mod_eq_of_lt hy]
  unfold empTo
  rw [List.range_succ, List.filter_append, List.filter_cons, List.filter_nil, h1, h2]
  by_cases h : atS p x y = -1
  · rw [if_pos (by simp [h]), if_pos h]
  · rw [if_neg (by simp [h]), if_neg h, List.append_nil]
theorem empTo_le (n : Nat) (p : List (List Int)) (k : Nat) : (empTo n p k).length ≤ k := Nat.le_trans (List.length_filter_le _ _) (by simp)
theorem natsI_len (l : List Nat) : (natsI l).length = l.length := by simp [natsI]
end Go.Proofs.YtnmcmologlgccaaGreat
/- Squares filled by a function value. No condition beyond those stated. -/
namespace Go.Proofs.YtnmcmologlgccaaGreat
open Go.RowKit

/-- a function value that tells the symbol of each cell -/
def AskS (g : Nat) (lb : Array Value) (F : Nat → Nat → Int) (n : Nat) (w : World) : Prop :=
  ∀ (x y : Nat) (W : World), Below w.heap.size w W → x < n → y < n → Calls Tryz.prog g (#[.int .i64 x, .int .i64 y] ++ lb) W fun e w' => e = .returned (.int .i64 (F x y)) ∧ Below W.heap.size W w'
def fillR (F : Nat → Nat → Int) (x k : Nat) : List Int := (List.range k).map fun y => F x y
def fillS (F : Nat → Nat → Int) (n k : Nat) : List (List Int) := (List.range k).map fun x => fillR F x n
theorem fillR_step (F : Nat → Nat → Int) (x k : Nat) : fillR F x (k + 1) = fillR F x k ++ [F x k] := by simp [fillR, List.range_succ]
theorem fillS_step (F : Nat → Nat → Int) (n k : Nat) : fillS F n (k + 1) = fillS F n k ++ [fillR F k n] := by simp [fillS, List.range_succ]
theorem fillS_len (F : Nat → Nat → Int) (n k : Nat) : (fillS F n k).length = k := by simp [fillS]
theorem fillR_len (F : Nat → Nat → Int) (x k : Nat) : (fillR F x k).length = k := by simp [fillR]
theorem fillR_nth (F : Nat → Nat → Int) {x y k : Nat} (h : y < k) : nth (fillR F x k) y = F x y := by
  rw [nth_get (by rw [fillR_len]; exact h)]; simp [fillR]
theorem fillS_row (F : Nat → Nat → Int) {x n k : Nat} (h : x < k) : row (fillS F n k) x = fillR F x n := by
  rw [row_get (by rw [fillS_len]; exact h)]; simp [fillS]
theorem fillS_at (F : Nat → Nat → Int) {x y n : Nat} (hx : x < n) (hy : y < n) : atS (fillS F n n) x y = F x y := by
  unfold atS
  rw [fillS_row F hx, fillR_nth F hy]
set_option maxRecDepth 100000 in
set_option maxHeartbeats 2000000 in
theorem filledSquare_any (g : Nat) (lb : Array Value) (eg : ∀ args w, (callFunc g args).run Tryz.prog w = .ok (.enter g args) w) (F : Nat → Nat → Int) (n : Nat) (w : World) (hn : n ≤ 1000) (hF : ∀ x y, x < n → y < n → I64 (F x y)) (hp : AskS g lb F n w) :
    Calls Tryz.prog 111 #[.int .i64 n, .func (.func g) #[] lb] w fun e w' => ∃ A c, e = .returned (.slice A n c) ∧ OR w' w.heap.size 36 2 A n c (fillS F n n) ∧ Below w.heap.size w w' := by
  have HF := Lib.hid hF
  clear hF
  go_enter Tryz.func111, Tryz.ntmps111
  go_wp2
  go_loopw [5, 6, 7, 8] (fun l i _ _ wr => ∃ (x : Nat) (A : Option Addr) (c : Nat), x ≤ n ∧ i = .int .i64 x ∧ l = .slice A x c ∧ OR wr w.heap.size 36 2 A x c (fillS F n x) ∧ Below w.heap.size w wr) (fun _ i _ _ _ => n - (intOf i).toNat)
  case atStart => exact ⟨0, none, 0, Nat.zero_le _, rfl, rfl, OR.nil_ _ _ (by decide), Below.refl _ _⟩
  case round =>
    obtain ⟨x, A, c, hx, rfl, rfl, ho, hb⟩ := hrel
    by_cases hlt : x < n
    · generalize hwo : wr = wo at *
      clear hwo
      have HO := Lib.hid ho
      have HB := Lib.hid hb
      clear ho hb
      go_wp2
      go_loopw [7, 8] (fun l i wr => ∃ (y : Nat) (R : Option Addr) (rc : Nat), y ≤ n ∧ i = .int .i64 y ∧ l = .slice R y rc ∧ OI wr wo.heap.size 2 R y rc (fillR F x y) ∧ Below wo.heap.size wo wr) (fun _ i _ => n - (intOf i).toNat)
      case atStart => exact ⟨0, none, 0, Nat.zero_le _, rfl, rfl, OI.nil_ _ _ _, Below.refl _ _⟩
      case round =>
        obtain ⟨y, R, rc, hy, rfl, rfl, hor, hbr⟩ := hrel
        by_cases hyl : y < n
        · have hcall := hp x y wr (HB.out.trans (hbr.mono HB.out.size)) hlt hyl
          have h64 := HF.out x y hlt hyl
          have HR := Lib.hid hor
          have HST := Lib.hid (fillR_step F x y)
          generalize F x y = z at *
          clear hor
          go_wp2_with (first | (go_at_fn g; refine hcall.mono ?_; rintro e w4 ⟨rfl, hb4⟩; have HR4 := Lib.hid (HR.out.below hb4); have hbs4 := hb4.size; have hbrs := hbr.size) | (at_builtin; refine app_int _ rfl (.tmp 19) (.tmp 24) rfl wo.heap.size R y rc _ rfl HR4.out z w4.heap.size rfl rfl h64 (by omega) (by omega) ?_; intro A5 c5 w5 ho5 hg5 hf5; have hb5 := Lib.hid (below_own (hbr.trans (hb4.mono hbr.size)) hg5 (by omega) (fun b hb => (HR4.out.os.lt hb).1)); rw [← HST.out] at ho5))
          go_roundw
          case rel => exact ⟨y + 1, A5, c5, by omega, by go_num, rfl, ho5, hb5.out⟩
          case measure => simp [intOf]; omega
        · obtain rfl : y = n := by omega
          obtain ⟨vs, hov0⟩ := HO.out
          have hap := hov0.apart_new (v := (R, y, rc)) (fun b hb => (hor.os.lt hb).1)
          have ho1 := Lib.hid (hov0.below hbr)
          have hrow := Lib.hid (hor.more HB.out.size)
          have hbw := Lib.hid (HB.out.trans (hbr.mono HB.out.size))
          have hbs := hbw.out.size
          have HST := Lib.hid (fillS_step F y x)
          clear hov0 hor hbr
          go_wp2_with (at_builtin; refine app_row _ rfl (.tmp 26) (.tmp 28) rfl w.heap.size A x c vs (fillS F y x) rfl ho1.out (R, y, rc) (fillR F x y) hrow.out hap _ rfl rfl (by omega) hbs ?_; intro A3 c3 w3 ho3 hg3 hn3; have hb3 := Lib.hid (below_own hbw.out hg3 hbs (fun b hb => (ho1.out.os.lt hb).1)); rw [← HST.out] at ho3)
          go_roundw
          case rel => exact ⟨x + 1, A3, c3, by omega, by go_num, rfl, ⟨_, ho3⟩, hb3.out⟩
          case measure => simp [intOf]; omega
    · obtain rfl : x = n := by omega
      go_wp2
      go_ret
      exact ⟨A, c, rfl, ho, hb⟩
end Go.Proofs.YtnmcmologlgccaaGreat
