/- Plain law: isomorphic graphs, searched to the end, have one canonical form. No condition beyond those stated. -/
import Derived.Test.YtdkbcjdimhgmnaaGreatRHI
set_option linter.unusedVariables false
set_option linter.unusedSimpArgs false
namespace Go.Proofs.YtdkbcjdimhgmnaaGreat
open Go.RowKit
section
variable {n : Nat} {cs ds : List Int} {es fs : List Ed} {s : List Int}
theorem Iso.back (h : Iso n es fs s) : Iso n fs es (invP s) := by
  refine ⟨invP_perm h.perm, by rw [invP_len, h.len], fun x y hx hy => ?_⟩
  have e1 := invP_right h.perm (i := x) (by rw [h.len]; exact hx)
  have e2 := invP_right h.perm (i := y) (by rw [h.len]; exact hy)
  have b1 := (perm_lt (invP_perm h.perm) (v := x) (by rw [invP_len, h.len]; exact hx)).1
  have b2 := (perm_lt (invP_perm h.perm) (v := y) (by rw [invP_len, h.len]; exact hy)).1
  rw [invP_len, h.len] at b1 b2
  rw [← h.nb _ _ b1 b2, e1, e2]
  rfl
theorem colors_back (hp : Perm s) (hl : s.length = n) (hd : ds.length = n) (h : cs = thenP s ds) : ds = thenP (invP s) cs := by
  refine nth_ext (by rw [thenP_len, invP_len, hl, hd]) fun x hx => ?_
  rw [hd] at hx
  have e1 := invP_right hp (i := x) (by rw [hl]; exact hx)
  have b1 := (perm_lt (invP_perm hp) (v := x) (by rw [invP_len, hl]; exact hx)).1
  rw [invP_len] at b1
  rw [thenP_nth (by rw [invP_len, hl]; exact hx), h, thenP_nth b1, e1]
  rfl
theorem Iso.forms (h : Iso n es fs s) (hc : cs.length = n) (hd : ds.length = n) (he : EdgesOk n es) (hf : EdgesOk n fs) (hcol : cs = thenP s ds) {p : List Int} (hp : Perm p) (hl : p.length = n) :
    relC cs (thenP s p) = relC ds p ∧ relE es (thenP s p) = relE fs p := by
  have h1 : Perm (thenP s p) := thenP_perm h.perm hp (by rw [h.len, hl])
  have h2 : (thenP s p).length = n := by rw [thenP_len, h.len]
  have key : ∀ x x', x < n → x' < n → nth (thenP s p) x = nth p x' → (nth s x).toNat = x' := fun x x' hx hx' e => by
    have b := (perm_lt h.perm (v := x) (by rw [h.len]; exact hx)).1
    rw [h.len] at b
    rw [thenP_nth (by rw [h.len]; exact hx)] at e
    exact perm_inj hp (by omega) (by omega) e
  constructor
  · refine (relC_same hc hd h1 h2 hp hl).2 fun x x' hx hx' e => ?_
    have := key x x' hx hx' e
    subst this
    rw [hcol, thenP_nth (by rw [h.len]; exact hx)]
  · refine (relE_same he hf h1 h2 hp hl).2 fun x y x' y' hx hy hx' hy' ex ey => ?_
    have k1 := key x x' hx hx' ex
    have k2 := key y y' hy hy' ey
    subst k1 k2
    exact (h.nb x y hx hy).symm
theorem iso_le (h : Iso n es fs s) (hc : cs.length = n) (hd : ds.length = n) (he : EdgesOk n es) (hf : EdgesOk n fs) (hcol : cs = thenP s ds) {b c : Nat} (h1 : (runP cs es b).spent = false) (h2 : (runP ds fs c).spent = false) :
    0 ≤ cmpF (runP ds fs c).fc (runP ds fs c).fe (runP cs es b).fc (runP cs es b).fe := by
  have hm := row0_mem (runP_best h2)
  generalize row (runP ds fs c).best 0 = p at hm
  have hL := runP_leaf ds fs c p hm
  have hF := (runP_seen ds fs h2).forms p hm
  have hC := hL.cells (refP_cells _ _)
  rw [hd] at hL
  have hL2 := hL.iso h (by have := (refP_cells (nearP n fs) ds).len; rw [this, hd])
  rw [← h.ref hd, ← hcol, ← hc] at hL2
  have hA := ((runP_seen cs es h1).all _ hL2).2.1
  unfold formLe at hA
  have hlp : p.length = n := by have := hC.1.len; rw [this, hd]
  obtain ⟨e1, e2⟩ := h.forms hc hd he hf hcol hC.2 hlp
  rw [e1, e2, hF.1, hF.2] at hA
  exact hA
theorem iso_same (h : Iso n es fs s) (hc : cs.length = n) (hd : ds.length = n) (he : EdgesOk n es) (hf : EdgesOk n fs) (hcol : cs = thenP s ds) {b c : Nat} (h1 : (runP cs es b).spent = false) (h2 : (runP ds fs c).spent = false) :
    (runP cs es b).fc = (runP ds fs c).fc ∧ (runP cs es b).fe = (runP ds fs c).fe := by
  have l1 := iso_le h hc hd he hf hcol h1 h2
  have l2 := iso_le h.back hd hc hf he (colors_back h.perm h.len hd hcol) h2 h1
  have l3 := cmpF_swap (runP cs es b).fc (runP ds fs c).fc (runP cs es b).fe (runP ds fs c).fe
  have hz : cmpF (runP cs es b).fc (runP cs es b).fe (runP ds fs c).fc (runP ds fs c).fe = 0 := by omega
  obtain ⟨e1, e2⟩ := cmpF_zero hz
  exact ⟨e1, flatE_inj e2⟩
theorem iso_sameP (h : Iso n es fs s) (hc : cs.length = n) (hd : ds.length = n) (he : EdgesOk n es) (hf : EdgesOk n fs) (hcol : cs = thenP s ds) {b c : Nat} (h1 : (runP cs es b).spent = false) (h2 : (runP ds fs c).spent = false) :
    sameP (runP cs es b) (runP ds fs c) = true := by
  obtain ⟨e1, e2⟩ := iso_same h hc hd he hf hcol h1 h2
  simp [sameP, sameG, e1, e2]
end
section
variable {a b : List (List Int)} {n : Nat}
theorem nb_sq (u v : Nat) : nbB (sqEl a n (3 * n)) u v = true ↔ ∃ l x y : Nat, l < 3 * n ∧ x < n ∧ y < n ∧ sqhit a n l x y = true ∧ ((u = l ∧ v = 3 * n + n * x + y) ∨ (v = l ∧ u = 3 * n + n * x + y)) := by
  unfold nbB
  rw [List.any_eq_true]
  constructor
  · rintro ⟨e, he, hh⟩
    obtain ⟨l, x, y, rfl, h1, h2, h3, h4⟩ := (sqEl_mem e).1 he
    refine ⟨l, x, y, h1, h2, h3, h4, ?_⟩
    simp only [Bool.or_eq_true, Bool.and_eq_true, beq_iff_eq] at hh
    rcases hh with ⟨k1, k2⟩ | ⟨k1, k2⟩
    · exact .inl ⟨by omega, by omega⟩
    · exact .inr ⟨by omega, by omega⟩
  · rintro ⟨l, x, y, h1, h2, h3, h4, hh⟩
    refine ⟨((l : Int), ((3 * n + n * x + y : Nat) : Int)), (sqEl_mem _).2 ⟨l, x, y, rfl, h1, h2, h3, h4⟩, ?_⟩
    simp only [Bool.or_eq_true, Bool.and_eq_true, beq_iff_eq]
    rcases hh with ⟨rfl, rfl⟩ | ⟨rfl, rfl⟩
    · exact .inl ⟨rfl, rfl⟩
    · exact .inr ⟨rfl, rfl⟩
theorem cell_parts {v : Nat} (h1 : 3 * n ≤ v) (h2 : v < 3 * n + n * n) : ∃ x y, x < n ∧ y < n ∧ v = 3 * n + n * x + y := by
  have hn : 0 < n := by
    rcases Nat.eq_zero_or_pos n with h | h
    · subst h; omega
    · exact h
  refine ⟨(v - 3 * n) / n, (v - 3 * n) % n, ?_, Nat.mod_lt _ hn, ?_⟩
  · exact Nat.div_lt_of_lt_mul (by omega)
  · have := Nat.div_add_mod (v - 3 * n) n
    omega
theorem cell_under {x y : Nat} (hx : x < n) (hy : y < n) : 3 * n + n * x + y < 3 * n + n * n := by
  have h1 : n * (x + 1) ≤ n * n := Nat.mul_le_mul_left n hx
  rw [Nat.mul_succ] at h1
  omega
theorem sq_iso {L C D : Nat → Nat} {s : List Int} (hp : Perm s) (hl : s.length = 3 * n + n * n)
    (hL : ∀ l, l < 3 * n → L l < 3 * n ∧ nth s l = (L l : Nat))
    (hC : ∀ x y, x < n → y < n → C (n * x + y) < n ∧ D (n * x + y) < n ∧ nth s (3 * n + n * x + y) = ((3 * n + n * C (n * x + y) + D (n * x + y) : Nat) : Int))
    (hh : ∀ l x y, l < 3 * n → x < n → y < n → sqhit b n (L l) (C (n * x + y)) (D (n * x + y)) = sqhit a n l x y) : Iso (3 * n + n * n) (sqEl a n (3 * n)) (sqEl b n (3 * n)) s := by
  refine ⟨hp, hl, fun u v hu hv => ?_⟩
  rw [Bool.eq_iff_iff, nb_sq, nb_sq]
  have cellOf : ∀ x y, x < n → y < n → (nth s (3 * n + n * x + y)).toNat = 3 * n + n * C (n * x + y) + D (n * x + y) := fun x y hx hy => by
    rw [(hC x y hx hy).2.2]; rfl
  have lineOf : ∀ l, l < 3 * n → (nth s l).toNat = L l := fun l h => by rw [(hL l h).2]; rfl
  have kind : ∀ w, w < 3 * n + n * n → (w < 3 * n ∧ (nth s w).toNat < 3 * n) ∨ (∃ x y, x < n ∧ y < n ∧ w = 3 * n + n * x + y ∧ 3 * n ≤ (nth s w).toNat) := fun w hw => by
    by_cases h : w < 3 * n
    · exact .inl ⟨h, by rw [lineOf w h]; exact (hL w h).1⟩
    · obtain ⟨x, y, hx, hy, rfl⟩ := cell_parts (by omega) hw
      exact .inr ⟨x, y, hx, hy, rfl, by rw [cellOf x y hx hy]; omega⟩
  have one : ∀ u v, u < 3 * n + n * n → v < 3 * n + n * n → ∀ l' x' y', l' < 3 * n → x' < n → y' < n → sqhit b n l' x' y' = true → (nth s u).toNat = l' → (nth s v).toNat = 3 * n + n * x' + y' → ∃ l x y : Nat, l < 3 * n ∧ x < n ∧ y < n ∧ sqhit a n l x y = true ∧ (u = l ∧ v = 3 * n + n * x + y) := by
    intro u v hu hv l' x' y' h1 h2 h3 h4 e1 e2
    rcases kind u hu with ⟨k1, -⟩ | ⟨x, y, hx, hy, rfl, k⟩
    · rcases kind v hv with ⟨-, k2⟩ | ⟨x, y, hx, hy, rfl, -⟩
      · omega
      · refine ⟨u, x, y, k1, hx, hy, ?_, rfl, rfl⟩
        rw [cellOf x y hx hy] at e2
        obtain ⟨c1, c2, -⟩ := hC x y hx hy
        obtain ⟨d1, d2⟩ := cell_inj c2 h3 (x := C (n * x + y)) (x' := x') (by omega)
        rw [← hh u x y k1 hx hy, d1, d2, ← lineOf u k1, e1]
        exact h4
    · omega
  constructor
  · rintro ⟨l', x', y', h1, h2, h3, h4, ⟨e1, e2⟩ | ⟨e1, e2⟩⟩
    · obtain ⟨l, x, y, q1, q2, q3, q4, q5, q6⟩ := one u v hu hv l' x' y' h1 h2 h3 h4 e1 e2
      exact ⟨l, x, y, q1, q2, q3, q4, .inl ⟨q5, q6⟩⟩
    · obtain ⟨l, x, y, q1, q2, q3, q4, q5, q6⟩ := one v u hv hu l' x' y' h1 h2 h3 h4 e1 e2
      exact ⟨l, x, y, q1, q2, q3, q4, .inr ⟨q5, q6⟩⟩
  · rintro ⟨l, x, y, h1, h2, h3, h4, hcase⟩
    obtain ⟨c1, c2, -⟩ := hC x y h2 h3
    refine ⟨L l, C (n * x + y), D (n * x + y), (hL l h1).1, c1, c2, by rw [hh l x y h1 h2 h3]; exact h4, ?_⟩
    rcases hcase with ⟨rfl, rfl⟩ | ⟨rfl, rfl⟩
    · exact .inl ⟨lineOf _ h1, cellOf x y h2 h3⟩
    · exact .inr ⟨lineOf _ h1, cellOf x y h2 h3⟩
end
section
variable {a b : List (List Int)} {n : Nat} {r k z : List Int}
def itV (n : Nat) (r k z : List Int) (v : Nat) : Int := if v < n then nth r v else if v < 2 * n then n + nth k (v - n) else if v < 3 * n then 2 * n + nth z (v - 2 * n) else 3 * n + n * nth r ((v - 3 * n) / n) + nth k ((v - 3 * n) % n)
def itP (n : Nat) (r k z : List Int) : List Int := (List.range (3 * n + n * n)).map (itV n r k z)
theorem itP_len : (itP n r k z).length = 3 * n + n * n := by simp [itP]
theorem itP_nth {v : Nat} (h : v < 3 * n + n * n) : nth (itP n r k z) v = itV n r k z v := by
  rw [nth_get (by rw [itP_len]; exact h)]
  simp [itP]
theorem itV_cell {x y : Nat} (hx : x < n) (hy : y < n) : itV n r k z (3 * n + n * x + y) = 3 * n + n * nth r x + nth k y := by
  have e1 : 3 * n + n * x + y - 3 * n = n * x + y := by omega
  have e2 : (n * x + y) / n = x := by rw [Nat.mul_add_div (by omega), Nat.div_eq_of_lt hy, Nat.add_zero]
  have e3 : (n * x + y) % n = y := by rw [Nat.mul_add_mod, Nat.mod_eq_of_lt hy]
  unfold itV
  rw [if_neg (by omega), if_neg (by omega), if_neg (by omega), e1, e2, e3]
def itL (n : Nat) (r k z : List Int) (l : Nat) : Nat := if l < n then (nth r l).toNat else if l < 2 * n then n + (nth k (l - n)).toNat else 2 * n + (nth z (l - 2 * n)).toNat
theorem itV_line (hr : Perm r) (lr : r.length = n) (hk : Perm k) (lk : k.length = n) (hz : Perm z) (lz : z.length = n) {l : Nat} (h : l < 3 * n) : itL n r k z l < 3 * n ∧ itV n r k z l = (itL n r k z l : Nat) := by
  unfold itL itV
  by_cases h1 : l < n
  · have := perm_lt hr (v := l) (by omega)
    rw [if_pos h1, if_pos h1]
    exact ⟨by omega, this.2.symm⟩
  · rw [if_neg h1, if_neg h1]
    by_cases h2 : l < 2 * n
    · have := perm_lt hk (v := l - n) (by omega)
      rw [if_pos h2, if_pos h2]
      exact ⟨by omega, by omega⟩
    · have := perm_lt hz (v := l - 2 * n) (by omega)
      rw [if_neg h2, if_neg h2, if_pos h]
      exact ⟨by omega, by omega⟩
theorem itP_perm (hr : Perm r) (lr : r.length = n) (hk : Perm k) (lk : k.length = n) (hz : Perm z) (lz : z.length = n) : Perm (itP n r k z) := by
  have cellV : ∀ x y, x < n → y < n → itV n r k z (3 * n + n * x + y) = ((3 * n + n * (nth r x).toNat + (nth k y).toNat : Nat) : Int) := fun x y hx hy => by
    have b1 := perm_lt hr (v := x) (by omega)
    have b2 := perm_lt hk (v := y) (by omega)
    rw [itV_cell hx hy, ← b1.2, ← b2.2]
    simp
  refine perm_of itP_len (fun v hv => ?_) (fun u v hu hv e => ?_)
  · rw [itP_nth hv]
    by_cases h : v < 3 * n
    · obtain ⟨h1, h2⟩ := itV_line hr lr hk lk hz lz h
      rw [h2]
      exact ⟨by omega, by omega⟩
    · obtain ⟨x, y, hx, hy, rfl⟩ := cell_parts (by omega) hv
      have b1 := perm_lt hr (v := x) (by omega)
      have b2 := perm_lt hk (v := y) (by omega)
      have := cell_under (n := n) (x := (nth r x).toNat) (y := (nth k y).toNat) (by omega) (by omega)
      rw [cellV x y hx hy]
      exact ⟨by omega, by omega⟩
  · rw [itP_nth hu, itP_nth hv] at e
    by_cases h : u < 3 * n
    · by_cases k' : v < 3 * n
      · rw [(itV_line hr lr hk lk hz lz h).2, (itV_line hr lr hk lk hz lz k').2] at e
        have e' : itL n r k z u = itL n r k z v := by omega
        unfold itL at e'
        have inj : ∀ (p : List Int), Perm p → p.length = n → ∀ i j, i < n → j < n → (nth p i).toNat = (nth p j).toNat → i = j := fun p hp lp i j hi hj he => by
          have b1 := perm_lt hp (v := i) (by omega)
          have b2 := perm_lt hp (v := j) (by omega)
          exact perm_inj hp (by omega) (by omega) (by omega)
        have bd : ∀ (p : List Int), Perm p → p.length = n → ∀ i, i < n → (nth p i).toNat < n := fun p hp lp i hi => by have := (perm_lt hp (v := i) (by omega)).1; omega
        by_cases u1 : u < n
        · rw [if_pos u1] at e'
          have := bd r hr lr u u1
          by_cases v1 : v < n
          · rw [if_pos v1] at e'; exact inj r hr lr u v u1 v1 e'
          · rw [if_neg v1] at e'
            by_cases v2 : v < 2 * n
            · rw [if_pos v2] at e'; omega
            · rw [if_neg v2] at e'; omega
        · rw [if_neg u1] at e'
          by_cases u2 : u < 2 * n
          · rw [if_pos u2] at e'
            have := bd k hk lk (u - n) (by omega)
            by_cases v1 : v < n
            · rw [if_pos v1] at e'
              have := bd r hr lr v v1
              omega
            · rw [if_neg v1] at e'
              by_cases v2 : v < 2 * n
              · rw [if_pos v2] at e'
                have := inj k hk lk (u - n) (v - n) (by omega) (by omega) (by omega)
                omega
              · rw [if_neg v2] at e'; omega
          · rw [if_neg u2] at e'
            by_cases v1 : v < n
            · rw [if_pos v1] at e'
              have := bd r hr lr v v1
              omega
            · rw [if_neg v1] at e'
              by_cases v2 : v < 2 * n
              · rw [if_pos v2] at e'
                have := bd k hk lk (v - n) (by omega)
                omega
              · rw [if_neg v2] at e'
                have := inj z hz lz (u - 2 * n) (v - 2 * n) (by omega) (by omega) (by omega)
                omega
      · obtain ⟨x, y, hx, hy, rfl⟩ := cell_parts (by omega) hv
        have := itV_line hr lr hk lk hz lz h
        rw [this.2, cellV x y hx hy] at e
        omega
    · obtain ⟨x, y, hx, hy, rfl⟩ := cell_parts (by omega) hu
      by_cases k' : v < 3 * n
      · have := itV_line hr lr hk lk hz lz k'
        rw [this.2, cellV x y hx hy] at e
        omega
      · obtain ⟨x', y', hx', hy', rfl⟩ := cell_parts (by omega) hv
        rw [cellV x y hx hy, cellV x' y' hx' hy'] at e
        have b1 := perm_lt hk (v := y) (by omega)
        have b2 := perm_lt hk (v := y') (by omega)
        have b3 := perm_lt hr (v := x) (by omega)
        have b4 := perm_lt hr (v := x') (by omega)
        obtain ⟨d1, d2⟩ := cell_inj (n := n) (x := (nth r x).toNat) (x' := (nth r x').toNat) (y := (nth k y).toNat) (y' := (nth k y').toNat) (by omega) (by omega) (by omega)
        have := perm_inj hr (i := x) (j := x') (by omega) (by omega) (by omega)
        have := perm_inj hk (i := y) (j := y') (by omega) (by omega) (by omega)
        subst_vars
        rfl
end
section
variable {a b : List (List Int)} {n : Nat} {r k z : List Int}
def IsotopeOf (n : Nat) (a b : List (List Int)) (r k z : List Int) : Prop := ∀ x y, x < n → y < n → nth (row b (nth r x).toNat) (nth k y).toNat = nth z (nth (row a x) y).toNat
theorem sqC_nth {cl : Bool} {v : Nat} (h : v < 3 * n + n * n) : nth (sqC n cl) v = sqcol n cl v := by
  rw [nth_get (by rw [sqC_len]; exact h)]
  simp [sqC]
theorem isotope_iso (hs : Square a) (hn : a.length = n) (hr : Perm r) (lr : r.length = n) (hk : Perm k) (lk : k.length = n) (hz : Perm z) (lz : z.length = n) (h : IsotopeOf n a b r k z) :
    Iso (3 * n + n * n) (sqEl a n (3 * n)) (sqEl b n (3 * n)) (itP n r k z) := by
  have parts : ∀ x y, x < n → y < n → (n * x + y) / n = x ∧ (n * x + y) % n = y := fun x y hx hy =>
    ⟨by rw [Nat.mul_add_div (by omega), Nat.div_eq_of_lt hy, Nat.add_zero], by rw [Nat.mul_add_mod, Nat.mod_eq_of_lt hy]⟩
  refine sq_iso (L := itL n r k z) (C := fun m => (nth r (m / n)).toNat) (D := fun m => (nth k (m % n)).toNat) (itP_perm hr lr hk lk hz lz) itP_len (fun l hl => ?_) (fun x y hx hy => ?_) (fun l x y hl hx hy => ?_)
  · obtain ⟨h1, h2⟩ := itV_line hr lr hk lk hz lz hl
    exact ⟨h1, by rw [itP_nth (by omega)]; exact h2⟩
  · obtain ⟨e1, e2⟩ := parts x y hx hy
    have b1 := perm_lt hr (v := x) (by omega)
    have b2 := perm_lt hk (v := y) (by omega)
    simp only [e1, e2]
    refine ⟨by omega, by omega, ?_⟩
    rw [itP_nth (cell_under hx hy), itV_cell hx hy, ← b1.2, ← b2.2]
    simp
  · obtain ⟨e1, e2⟩ := parts x y hx hy
    simp only [e1, e2]
    have b1 := perm_lt hr (v := x) (by omega)
    have b2 := perm_lt hk (v := y) (by omega)
    have hb := sqg_bd hs hn hx hy
    have hv := h x y hx hy
    obtain ⟨c, hc⟩ : ∃ c : Nat, nth (row a x) y = (c : Int) := ⟨(nth (row a x) y).toNat, by omega⟩
    rw [hc] at hb hv
    have b3 := perm_lt hz (v := c) (by omega)
    rw [Int.toNat_natCast] at hv
    unfold sqhit
    rw [hv, hc, Bool.eq_iff_iff]
    simp only [Bool.or_eq_true, beq_iff_eq]
    unfold itL
    by_cases h1 : l < n
    · have c1 := perm_lt hr (v := l) (by omega)
      rw [if_pos h1]
      constructor
      · rintro ((e | e) | e)
        · exact .inl (.inl (perm_inj hr (by omega) (by omega) (by omega)))
        · omega
        · omega
      · rintro ((rfl | e) | e)
        · exact .inl (.inl rfl)
        · omega
        · omega
    · rw [if_neg h1]
      by_cases h2 : l < 2 * n
      · have c1 := perm_lt hk (v := l - n) (by omega)
        rw [if_pos h2]
        constructor
        · rintro ((e | e) | e)
          · omega
          · have := perm_inj hk (i := l - n) (j := y) (by omega) (by omega) (by omega)
            exact .inl (.inr (by omega))
          · omega
        · rintro ((e | e) | e)
          · omega
          · have : l - n = y := by omega
            rw [this]
            exact .inl (.inr rfl)
          · omega
      · have c1 := perm_lt hz (v := l - 2 * n) (by omega)
        rw [if_neg h2]
        constructor
        · rintro ((e | e) | e)
          · omega
          · omega
          · have := perm_inj hz (i := l - 2 * n) (j := c) (by omega) (by omega) (by omega)
            exact .inr (by omega)
        · rintro ((e | e) | e)
          · omega
          · omega
          · have : l - 2 * n = c := by omega
            rw [this]
            exact .inr (by omega)
theorem isotope_colors (hr : Perm r) (lr : r.length = n) (hk : Perm k) (lk : k.length = n) (hz : Perm z) (lz : z.length = n) (cl : Bool) : sqC n cl = thenP (itP n r k z) (sqC n cl) := by
  refine nth_ext (by rw [thenP_len, itP_len, sqC_len]) fun v hv => ?_
  rw [sqC_len] at hv
  have hp := perm_lt (itP_perm (n := n) hr lr hk lk hz lz) (v := v) (by rw [itP_len]; exact hv)
  rw [itP_len] at hp
  rw [thenP_nth (by rw [itP_len]; exact hv), sqC_nth hv, sqC_nth hp.1]
  unfold sqcol
  by_cases h : v < 3 * n
  · obtain ⟨h1, h2⟩ := itV_line hr lr hk lk hz lz h
    have e : (nth (itP n r k z) v).toNat = itL n r k z v := by rw [itP_nth hv, h2]; rfl
    rw [e, if_pos h, if_pos h1]
    have hd : itL n r k z v / n = v / n := by
      unfold itL
      by_cases q1 : v < n
      · have c1 := perm_lt hr (v := v) (by omega)
        rw [if_pos q1, Nat.div_eq_of_lt q1, Nat.div_eq_of_lt (by omega)]
      · rw [if_neg q1]
        by_cases q2 : v < 2 * n
        · have c1 := perm_lt hk (v := v - n) (by omega)
          rw [if_pos q2, Nat.add_comm, Nat.add_div_right _ (by omega), Nat.div_eq_of_lt (by omega)]
          have : v = (v - n) + n := by omega
          rw [this, Nat.add_div_right _ (by omega), Nat.div_eq_of_lt (by omega)]
        · have c1 := perm_lt hz (v := v - 2 * n) (by omega)
          have e1 : (2 * n + (nth z (v - 2 * n)).toNat) / n = 2 := by
            rw [show 2 * n + (nth z (v - 2 * n)).toNat = n * 2 + (nth z (v - 2 * n)).toNat by omega, Nat.mul_add_div (by omega), Nat.div_eq_of_lt (by omega)]
          have e2 : v / n = 2 := by
            obtain ⟨u, hu⟩ : ∃ u, v = n * 2 + u := ⟨v - 2 * n, by omega⟩
            rw [hu, Nat.mul_add_div (by omega), Nat.div_eq_of_lt (by omega)]
          rw [if_neg q2, e1, e2]
    rw [hd]
  · obtain ⟨x, y, hx, hy, rfl⟩ := cell_parts (by omega) hv
    have b1 := perm_lt hr (v := x) (by omega)
    have b2 := perm_lt hk (v := y) (by omega)
    rw [if_neg h, if_neg]
    rw [itP_nth hv, itV_cell hx hy, ← b1.2, ← b2.2]
    have : ((3 : Int) * n + n * ((nth r x).toNat : Int) + ((nth k y).toNat : Int)) = ((3 * n + n * (nth r x).toNat + (nth k y).toNat : Nat) : Int) := by simp
    rw [this, Int.toNat_natCast]
    omega
end
section
variable {b c : List (List Int)} {n : Nat} {p q : Nat → Nat}
def triN (b : List (List Int)) (x y i : Nat) : Nat := if i = 0 then x else if i = 1 then y else (nth (row b x) y).toNat
def ConjOf (n : Nat) (b c : List (List Int)) (p : Nat → Nat) : Prop := ∀ x y, x < n → y < n → nth (row c (triN b x y (p 0))) (triN b x y (p 1)) = (triN b x y (p 2) : Nat)
structure Inv3 (p q : Nat → Nat) : Prop where
  pq : ∀ i, i < 3 → p (q i) = i ∧ q (p i) = i ∧ p i < 3 ∧ q i < 3
theorem triN_lt (hs : Square b) (hn : b.length = n) {x y : Nat} (hx : x < n) (hy : y < n) (i : Nat) : triN b x y i < n := by
  have := sqg_bd hs hn hx hy
  unfold triN
  split
  · exact hx
  · split
    · exact hy
    · omega
theorem hit_tri (hs : Square b) (hn : b.length = n) {x y i v : Nat} (hx : x < n) (hy : y < n) (hi : i < 3) (hv : v < n) : sqhit b n (i * n + v) x y = decide (triN b x y i = v) := by
  have hb := sqg_bd hs hn hx hy
  unfold sqhit triN
  rw [Bool.eq_iff_iff]
  simp only [Bool.or_eq_true, beq_iff_eq, decide_eq_true_eq]
  rcases (show i = 0 ∨ i = 1 ∨ i = 2 by omega) with rfl | rfl | rfl
  · simp only [if_true]; omega
  · simp only [if_true, show ¬ (1 : Nat) = 0 by decide, if_false]; omega
  · simp only [show ¬ (2 : Nat) = 0 by decide, show ¬ (2 : Nat) = 1 by decide, if_false]; omega
theorem tri_conj (h : ConjOf n b c p) {x y j : Nat} (hx : x < n) (hy : y < n) (hj : j < 3) : triN c (triN b x y (p 0)) (triN b x y (p 1)) j = triN b x y (p j) := by
  have := h x y hx hy
  rcases (show j = 0 ∨ j = 1 ∨ j = 2 by omega) with rfl | rfl | rfl
  · rfl
  · rfl
  · show (nth (row c (triN b x y (p 0))) (triN b x y (p 1))).toNat = _
    rw [this]; rfl
theorem tri_two (hs : Square b) (hn : b.length = n) {x y x' y' i j : Nat} (hx : x < n) (hy : y < n) (hx' : x' < n) (hy' : y' < n) (hi : i < 3) (hj : j < 3) (hij : i ≠ j) (h1 : triN b x y i = triN b x' y' i) (h2 : triN b x y j = triN b x' y' j) : x = x' ∧ y = y' := by
  have hrow : ∀ x y y', x < n → y < n → y' < n → (nth (row b x) y).toNat = (nth (row b x) y').toNat → y = y' := fun x y y' hx hy hy' e => by
    have k := hs.2.2.1 x (by omega)
    have b1 := sqg_bd hs hn hx hy
    have b2 := sqg_bd hs hn hx hy'
    exact perm_inj k.2 (by rw [k.1]; omega) (by rw [k.1]; omega) (by omega)
  have hcol : ∀ x x' y, x < n → x' < n → y < n → (nth (row b x) y).toNat = (nth (row b x') y).toNat → x = x' := fun x x' y hx hx' hy e => by
    have k := hs.2.2.2 y (by omega)
    have b1 := sqg_bd hs hn hx hy
    have b2 := sqg_bd hs hn hx' hy
    have g : ∀ u, u < n → nth (b.map fun r => nth r y) u = nth (row b u) y := fun u hu => by
      rw [nth_get (by simpa using (by omega : u < b.length)), List.getElem_map, row_get (by omega)]
    exact perm_inj k (i := x) (j := x') (by simpa using (by omega : x < b.length)) (by simpa using (by omega : x' < b.length)) (by rw [g x hx, g x' hx']; omega)
  have c0 : triN b x y 0 = x := rfl
  have c1 : triN b x y 1 = y := rfl
  have c2 : triN b x y 2 = (nth (row b x) y).toNat := rfl
  have d0 : triN b x' y' 0 = x' := rfl
  have d1 : triN b x' y' 1 = y' := rfl
  have d2 : triN b x' y' 2 = (nth (row b x') y').toNat := rfl
  have fin : (x = x' ∧ y = y') ∨ (x = x' ∧ (nth (row b x) y).toNat = (nth (row b x') y').toNat) ∨ (y = y' ∧ (nth (row b x) y).toNat = (nth (row b x') y').toNat) := by
    rcases (show i = 0 ∨ i = 1 ∨ i = 2 by omega) with rfl | rfl | rfl <;> rcases (show j = 0 ∨ j = 1 ∨ j = 2 by omega) with rfl | rfl | rfl <;> rw [c0, d0] at * <;> rw [c1, d1] at * <;> rw [c2, d2] at * <;> omega
  rcases fin with h | ⟨rfl, e⟩ | ⟨rfl, e⟩
  · exact h
  · exact ⟨rfl, hrow _ _ _ hx hy hy' e⟩
  · exact ⟨hcol _ _ _ hx hx' hy e, rfl⟩
end
section
variable {b c : List (List Int)} {n : Nat} {p q : Nat → Nat}
def cjV (n : Nat) (b : List (List Int)) (p q : Nat → Nat) (v : Nat) : Nat := if v < 3 * n then q (v / n) * n + v % n else 3 * n + n * triN b ((v - 3 * n) / n) ((v - 3 * n) % n) (p 0) + triN b ((v - 3 * n) / n) ((v - 3 * n) % n) (p 1)
def cjP (n : Nat) (b : List (List Int)) (p q : Nat → Nat) : List Int := (List.range (3 * n + n * n)).map fun v => ((cjV n b p q v : Nat) : Int)
theorem cjP_len : (cjP n b p q).length = 3 * n + n * n := by simp [cjP]
theorem cjP_nth {v : Nat} (h : v < 3 * n + n * n) : nth (cjP n b p q) v = (cjV n b p q v : Nat) := by
  rw [nth_get (by rw [cjP_len]; exact h)]
  simp [cjP]
theorem cjV_cell {x y : Nat} (hx : x < n) (hy : y < n) : cjV n b p q (3 * n + n * x + y) = 3 * n + n * triN b x y (p 0) + triN b x y (p 1) := by
  have e1 : 3 * n + n * x + y - 3 * n = n * x + y := by omega
  have e2 : (n * x + y) / n = x := by rw [Nat.mul_add_div (by omega), Nat.div_eq_of_lt hy, Nat.add_zero]
  have e3 : (n * x + y) % n = y := by rw [Nat.mul_add_mod, Nat.mod_eq_of_lt hy]
  unfold cjV
  rw [if_neg (by omega), e1, e2, e3]
theorem line_parts {l : Nat} (h : l < 3 * n) : l / n < 3 ∧ l % n < n ∧ l = l / n * n + l % n := by
  have hn : 0 < n := by omega
  exact ⟨Nat.div_lt_of_lt_mul (by rw [Nat.mul_comm]; exact h), Nat.mod_lt _ hn, by rw [Nat.mul_comm]; exact (Nat.div_add_mod l n).symm⟩
theorem cjV_line (hq : Inv3 p q) {l : Nat} (h : l < 3 * n) : cjV n b p q l = q (l / n) * n + l % n ∧ cjV n b p q l < 3 * n := by
  obtain ⟨h1, h2, -⟩ := line_parts h
  have h3 := (hq.pq _ h1).2.2.2
  have e : cjV n b p q l = q (l / n) * n + l % n := by unfold cjV; rw [if_pos h]
  refine ⟨e, ?_⟩
  rw [e]
  have : q (l / n) * n ≤ 2 * n := Nat.mul_le_mul_right n (by omega)
  omega
theorem line_inj {i j u v : Nat} (hu : u < n) (hv : v < n) (h : i * n + u = j * n + v) : i = j ∧ u = v := by
  rw [Nat.mul_comm i, Nat.mul_comm j] at h
  exact cell_inj hu hv h
theorem conj_iso (hs : Square b) (hn : b.length = n) (hsc : Square c) (hc : c.length = n) (hq : Inv3 p q) (h : ConjOf n b c p) : Iso (3 * n + n * n) (sqEl b n (3 * n)) (sqEl c n (3 * n)) (cjP n b p q) := by
  have p0 := hq.pq 0 (by decide)
  have p1 := hq.pq 1 (by decide)
  have hne : p 0 ≠ p 1 := fun e => by
    have a := p0.2.1
    have b := p1.2.1
    rw [e] at a
    omega
  have hperm : Perm (cjP n b p q) := by
    refine perm_of cjP_len (fun v hv => ?_) (fun u v hu hv e => ?_)
    · rw [cjP_nth hv]
      by_cases k : v < 3 * n
      · have := (cjV_line (b := b) hq k).2
        exact ⟨by omega, by omega⟩
      · obtain ⟨x, y, hx, hy, rfl⟩ := cell_parts (by omega) hv
        have := cell_under (triN_lt hs hn hx hy (p 0)) (triN_lt hs hn hx hy (p 1))
        rw [cjV_cell hx hy]
        exact ⟨by omega, by omega⟩
    · rw [cjP_nth hu, cjP_nth hv] at e
      have e : cjV n b p q u = cjV n b p q v := by omega
      by_cases k1 : u < 3 * n
      · by_cases k2 : v < 3 * n
        · rw [(cjV_line hq k1).1, (cjV_line hq k2).1] at e
          obtain ⟨a1, a2, a3⟩ := line_parts k1
          obtain ⟨b1, b2, b3⟩ := line_parts k2
          obtain ⟨d1, d2⟩ := line_inj a2 b2 e
          have f1 := (hq.pq _ a1).1
          have f2 := (hq.pq _ b1).1
          rw [d1, f2] at f1
          rw [a3, b3, d2, f1]
        · have := (cjV_line (b := b) hq k1).2
          obtain ⟨x, y, hx, hy, rfl⟩ := cell_parts (by omega) hv
          rw [cjV_cell hx hy] at e
          omega
      · obtain ⟨x, y, hx, hy, rfl⟩ := cell_parts (by omega) hu
        by_cases k2 : v < 3 * n
        · have := (cjV_line (b := b) hq k2).2
          rw [cjV_cell hx hy] at e
          omega
        · obtain ⟨x', y', hx', hy', rfl⟩ := cell_parts (by omega) hv
          rw [cjV_cell hx hy, cjV_cell hx' hy'] at e
          obtain ⟨d1, d2⟩ := cell_inj (triN_lt hs hn hx hy (p 1)) (triN_lt hs hn hx' hy' (p 1)) (x := triN b x y (p 0)) (x' := triN b x' y' (p 0)) (by omega)
          obtain ⟨rfl, rfl⟩ := tri_two hs hn hx hy hx' hy' p0.2.2.1 p1.2.2.1 hne d1 d2
          rfl
  refine sq_iso (L := fun l => q (l / n) * n + l % n) (C := fun m => triN b (m / n) (m % n) (p 0)) (D := fun m => triN b (m / n) (m % n) (p 1)) hperm cjP_len (fun l hl => ?_) (fun x y hx hy => ?_) (fun l x y hl hx hy => ?_)
  · obtain ⟨e1, e2⟩ := cjV_line (b := b) hq hl
    refine ⟨by omega, ?_⟩
    rw [cjP_nth (by omega), e1]
  · have e2 : (n * x + y) / n = x := by rw [Nat.mul_add_div (by omega), Nat.div_eq_of_lt hy, Nat.add_zero]
    have e3 : (n * x + y) % n = y := by rw [Nat.mul_add_mod, Nat.mod_eq_of_lt hy]
    simp only [e2, e3]
    exact ⟨triN_lt hs hn hx hy _, triN_lt hs hn hx hy _, by rw [cjP_nth (cell_under hx hy), cjV_cell hx hy]⟩
  · have e2 : (n * x + y) / n = x := by rw [Nat.mul_add_div (by omega), Nat.div_eq_of_lt hy, Nat.add_zero]
    have e3 : (n * x + y) % n = y := by rw [Nat.mul_add_mod, Nat.mod_eq_of_lt hy]
    simp only [e2, e3]
    obtain ⟨a1, a2, a3⟩ := line_parts hl
    have hq1 := hq.pq _ a1
    rw [hit_tri hsc hc (triN_lt hs hn hx hy _) (triN_lt hs hn hx hy _) hq1.2.2.2 a2, tri_conj h hx hy hq1.2.2.2, hq1.1]
    conv => rhs; rw [a3]
    rw [hit_tri hs hn hx hy a1 a2]
theorem Iso.trans {m : Nat} {es fs gs : List Ed} {s t : List Int} (h : Iso m es fs s) (k : Iso m fs gs t) : Iso m es gs (thenP s t) := by
  refine ⟨thenP_perm h.perm k.perm (by rw [h.len, k.len]), by rw [thenP_len, h.len], fun x y hx hy => ?_⟩
  have b1 := (perm_lt h.perm (v := x) (by rw [h.len]; exact hx)).1
  have b2 := (perm_lt h.perm (v := y) (by rw [h.len]; exact hy)).1
  rw [h.len] at b1 b2
  rw [thenP_nth (by rw [h.len]; exact hx), thenP_nth (by rw [h.len]; exact hy), k.nb _ _ b1 b2, h.nb x y hx hy]
end
theorem iso_done {n : Nat} {cs ds : List Int} {es fs : List Ed} {s : List Int} {b : Int} (h : Iso n es fs s) (hc : cs.length = n) (hd : ds.length = n) (hcol : cs = thenP s ds) (h0 : code2P cs es ds fs b = 0) : isoP cs es ds fs b = true := by
  obtain ⟨g1, g2, k1, k2⟩ := code2_zero h0
  have e1 := graph_edges g1
  have e2 := graph_edges g2
  rw [hc] at e1
  rw [hd] at e2
  unfold isoP
  rw [if_pos h0]
  exact iso_sameP h hc hd e1 e2 hcol (codeP_ok k1).1 (codeP_ok k2).1
theorem thenP_colors {n : Nat} {cs s t : List Int} (h1 : cs = thenP s cs) (h2 : cs = thenP t cs) (hs : Perm s) (ls : s.length = n) (ht : t.length = n) : cs = thenP (thenP s t) cs := by
  have : thenP (thenP s t) cs = thenP s (thenP t cs) := by
    refine nth_ext (by simp [thenP_len]) fun v hv => ?_
    rw [thenP_len, thenP_len] at hv
    have b1 := (perm_lt hs (v := v) hv).1
    rw [thenP_nth (by rw [thenP_len]; exact hv), thenP_nth hv, thenP_nth hv, thenP_nth (by omega)]
  rw [this, ← h2, ← h1]
theorem conj_colors {n : Nat} {b : List (List Int)} {p q : Nat → Nat} (hq : Inv3 p q) (hp : Perm (cjP n b p q)) : sqC n true = thenP (cjP n b p q) (sqC n true) := by
  refine nth_ext (by rw [thenP_len, cjP_len, sqC_len]) fun v hv => ?_
  rw [sqC_len] at hv
  have hb := (perm_lt hp (v := v) (by rw [cjP_len]; exact hv)).1
  rw [cjP_len] at hb
  rw [thenP_nth (by rw [cjP_len]; exact hv), sqC_nth hv, sqC_nth hb]
  rw [cjP_nth hv, Int.toNat_natCast] at *
  unfold sqcol
  by_cases h : v < 3 * n
  · rw [if_pos h, if_pos (cjV_line (b := b) hq h).2]
    rfl
  · obtain ⟨x, y, hx, hy, rfl⟩ := cell_parts (by omega) hv
    rw [if_neg h, if_neg (by rw [cjV_cell hx hy]; omega)]
theorem sqK_iso {n : Nat} {a b : List (List Int)} {cl : Bool} {s : List Int} {u : Int} (h1 : Square a) (h2 : Square b) (ha : a.length = n) (hb : b.length = n) (hn : n ≤ 6) (hu : inB u 1 20000 = true) (hi : Iso (3 * n + n * n) (sqEl a n (3 * n)) (sqEl b n (3 * n)) s) (hcol : sqC n cl = thenP s (sqC n cl)) (h0 : sqK a b cl u = 0) : sqR a b cl u = true := by
  have HK : sqK a b cl u = code2P (sqC n cl) (sqEl a n (3 * n)) (sqC n cl) (sqEl b n (3 * n)) u := by
    rw [sqK, tB_yes h1, tB_yes h2, ha, hb, hu]
    simp [samC, gqK, gqC, gqE, hn]
  have HR : sqR a b cl u = isoP (sqC n cl) (sqEl a n (3 * n)) (sqC n cl) (sqEl b n (3 * n)) u := by
    rw [sqR, tB_yes h1, tB_yes h2, ha, hb, hu]
    simp [samB, gqK, gqC, gqE, hn]
  rw [HR]
  exact iso_done hi (sqC_len n cl) (sqC_len n cl) hcol (HK.symm.trans h0)
theorem sq_graphOk {n : Nat} {a : List (List Int)} (h : Square a) (hn : a.length = n) (h6 : n ≤ 6) (cl : Bool) : GraphOk (sqC n cl) (sqEl a n (3 * n)) := by
  have hnn : n * n ≤ 36 := Nat.le_trans (Nat.mul_le_mul h6 h6) (by decide)
  refine ⟨by rw [sqC_len]; omega, ?_, fun k hk => ?_, fun i hi => ?_, fun i hi => ?_⟩
  · rw [← sq_edges h hn]
    have h1 := setG_len (c := cmpE) (sqIx a n n)
    have h2 := sqIx_len a n n
    have h3 : 3 * n * n = 3 * (n * n) := Nat.mul_assoc 3 n n
    omega
  · rw [sqC_len] at hk
    rw [sqC_nth hk]
    unfold sqcol
    split
    · rename_i hv
      split
      · omega
      · have := (line_parts hv).1
        have h63 : k / n ≤ 63 := by omega
        exact ⟨Int.natCast_nonneg _, Int.ofNat_le.2 h63⟩
    · omega
  · rw [nthE_get hi]
    obtain ⟨l, x, y, he, h1, h2, h3, -⟩ := (sqEl_mem _).1 (List.getElem_mem hi)
    have := cell_under h2 h3
    rw [he, sqC_len]
    simp only []
    omega
  · have := List.pairwise_iff_getElem.1 (sqEl_strict (a := a) (n := n)) i (i + 1) (by omega) hi (by omega)
    rw [nthE_get (by omega), nthE_get hi]
    exact (cmpE_neg _ _).1 this
theorem sqK_two {n : Nat} {a b : List (List Int)} {cl : Bool} {u : Int} (h1 : Square a) (h2 : Square b) (ha : a.length = n) (hb : b.length = n) (hn : n ≤ 6) (hu : inB u 1 20000 = true) : sqK a b cl u = 0 ∨ sqK a b cl u = 5 := by
  have g1 := sq_graphOk h1 ha hn cl
  have g2 := sq_graphOk h2 hb hn cl
  have HK : sqK a b cl u = code2P (sqC n cl) (sqEl a n (3 * n)) (sqC n cl) (sqEl b n (3 * n)) u := by
    rw [sqK, tB_yes h1, tB_yes h2, ha, hb, hu]
    simp [samC, gqK, gqC, gqE, hn]
  have two : ∀ es, GraphOk (sqC n cl) es → codeP (sqC n cl) es u = 0 ∨ codeP (sqC n cl) es u = 5 := fun es h => by
    unfold codeP
    rw [tB_yes h, hu]
    cases (runP (sqC n cl) es u.toNat).spent <;> simp
  rw [HK]
  by_cases hc : codeP (sqC n cl) (sqEl a n (3 * n)) u = 0
  · rw [code2_eq g1 g2 hc]; exact two _ g2
  · rw [code2_ne g1 g2 hc]; exact two _ g1
end Go.Proofs.YtdkbcjdimhgmnaaGreat
