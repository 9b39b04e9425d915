/- The product of the symbols over all places, plain. No program in sight. -/
import Derived.Test.YtjhheemppoeecaaHbQ
namespace Go.Proofs.Ytjhheemppoeecaa

/-! sums over all places -/
def tot (a b : Int) (l : List Int) : Int := (l.map (hv a b)).sum
theorem tot_mul {a b c : Int} (ha : a ≠ 0) (hb : b ≠ 0) (hc : c ≠ 0) : ∀ (l : List Int), (∀ p ∈ l, p ∈ P18) → tot a (b * c) l % 2 = (tot a b l + tot a c l) % 2
  | [], _ => rfl
  | p :: l, h => by
    have h1 := hv_mul (h p (List.mem_cons_self ..)) ha hb hc
    have h2 := tot_mul ha hb hc l fun q hq => h q (List.mem_cons_of_mem _ hq)
    unfold tot at *
    simp only [List.map_cons, List.sum_cons]
    omega
theorem tot_comm (a b : Int) (l : List Int) : tot a b l = tot b a l := by
  unfold tot
  congr 1
  exact List.map_congr_left fun p _ => hv_comm a b p
def G18 : List Int := (-1) :: 2 :: OP
theorem gens_even : (G18.all fun g => G18.all fun h => tot g h P18 % 2 == 0) = true := by decide +kernel
theorem gens_ne : (G18.all fun g => g != 0) = true := by decide +kernel
theorem gen_ne {g : Int} (h : g ∈ G18) : g ≠ 0 := by
  have := List.all_eq_true.1 gens_ne g h
  simpa using this
def prodL (l : List Int) : Int := l.foldr (· * ·) 1
theorem prodL_ne : ∀ (l : List Int), (∀ g ∈ l, g ∈ G18) → prodL l ≠ 0
  | [], _ => by decide
  | g :: l, h => Int.mul_ne_zero (gen_ne (h g (List.mem_cons_self ..))) (prodL_ne l fun q hq => h q (List.mem_cons_of_mem _ hq))
theorem tot_one {a : Int} (ha : a ≠ 0) : tot a 1 P18 % 2 = 0 := by
  have := tot_mul ha (show (1 : Int) ≠ 0 by omega) (show (1 : Int) ≠ 0 by omega) P18 fun _ h => h
  rw [Int.mul_one] at this
  omega
theorem tot_prod {a : Int} (ha : a ≠ 0) (h : ∀ g ∈ G18, tot a g P18 % 2 = 0) : ∀ (l : List Int), (∀ g ∈ l, g ∈ G18) → tot a (prodL l) P18 % 2 = 0
  | [], _ => tot_one ha
  | g :: l, hl => by
    have h1 := h g (hl g (List.mem_cons_self ..))
    have h2 := tot_prod ha h l fun q hq => hl q (List.mem_cons_of_mem _ hq)
    have h3 := tot_mul ha (gen_ne (hl g (List.mem_cons_self ..))) (prodL_ne l fun q hq => hl q (List.mem_cons_of_mem _ hq)) P18 fun _ h => h
    show tot a (g * prodL l) P18 % 2 = 0
    omega
theorem tot_gens {l m : List Int} (hl : ∀ g ∈ l, g ∈ G18) (hm : ∀ g ∈ m, g ∈ G18) : tot (prodL l) (prodL m) P18 % 2 = 0 := by
  refine tot_prod (prodL_ne l hl) (fun g hg => ?_) m hm
  rw [tot_comm]
  refine tot_prod (gen_ne hg) (fun h hh => ?_) l hl
  have := List.all_eq_true.1 (List.all_eq_true.1 gens_even g hg) h hh
  simpa using this
def genL (a : Int) : List Int := (if a < 0 then [-1] else []) ++ facsOf (ab a)
theorem gens_of : (DL.all fun a => prodL (genL a) == a && (genL a).all fun g => G18.contains g) = true := by decide +kernel
theorem DL_gen {a : Int} (h : a ∈ DL) : prodL (genL a) = a ∧ ∀ g ∈ genL a, g ∈ G18 := by
  have h1 := List.all_eq_true.1 gens_of a h
  rw [Bool.and_eq_true, beq_iff_eq] at h1
  exact ⟨h1.1, fun g hg => List.contains_iff_mem.1 (List.all_eq_true.1 h1.2 g hg)⟩
theorem tot_even {a b : Int} (ha : a ∈ DL) (hb : b ∈ DL) : tot a b P18 % 2 = 0 := by
  obtain ⟨e1, h1⟩ := DL_gen ha
  obtain ⟨e2, h2⟩ := DL_gen hb
  have := tot_gens h1 h2
  rwa [e1, e2] at this
/-- a number and its negative -/
theorem neg_even : (DL.all fun a => P18.all fun p => hv a (-a) p % 2 == 0) = true := by decide +kernel
theorem hv_neg {a p : Int} (ha : a ∈ DL) (hp : p ∈ P18) : hv a (-a) p % 2 = 0 := by
  have := List.all_eq_true.1 (List.all_eq_true.1 neg_even a ha) p hp
  simpa using this

/-! the places that a law asks -/
def odd1 (acc : List Int) (q : Int) : List Int := if 2 < q ∧ ¬ q ∈ acc then acc ++ [q] else acc
def oddF (l : List Int) (fs : List Int) : List Int := fs.foldl odd1 l
theorem oddF_snoc (l fs : List Int) (q : Int) : oddF l (fs ++ [q]) = odd1 (oddF l fs) q := by simp [oddF, List.foldl_append]
theorem oddF_len : ∀ (fs l : List Int), (oddF l fs).length ≤ l.length + fs.length
  | [], l => by simp [oddF]
  | q :: fs, l => by
    show (oddF (odd1 l q) fs).length ≤ _
    have := oddF_len fs (odd1 l q)
    have h2 : (odd1 l q).length ≤ l.length + 1 := by unfold odd1; split <;> simp
    simp only [List.length_cons]
    omega
theorem oddF_mem : ∀ (fs l : List Int) (x : Int), x ∈ oddF l fs ↔ x ∈ l ∨ (x ∈ fs ∧ 2 < x)
  | [], l, x => by simp [oddF]
  | q :: fs, l, x => by
    show x ∈ oddF (odd1 l q) fs ↔ _
    rw [oddF_mem fs]
    unfold odd1
    by_cases h : 2 < q ∧ ¬ q ∈ l
    · rw [if_pos h, List.mem_append, List.mem_singleton, List.mem_cons]
      constructor
      · rintro ((h1 | rfl) | h1)
        · exact .inl h1
        · exact .inr ⟨.inl rfl, h.1⟩
        · exact .inr ⟨.inr h1.1, h1.2⟩
      · rintro (h1 | ⟨rfl | h1, h2⟩)
        · exact .inl (.inl h1)
        · exact .inl (.inr rfl)
        · exact .inr ⟨h1, h2⟩
    · rw [if_neg h, List.mem_cons]
      constructor
      · rintro (h1 | h1)
        · exact .inl h1
        · exact .inr ⟨.inr h1.1, h1.2⟩
      · rintro (h1 | ⟨rfl | h1, h2⟩)
        · exact .inl h1
        · have : x ∈ l := by
            by_cases hx : x ∈ l
            · exact hx
            · exact absurd ⟨h2, hx⟩ h
          exact .inl this
        · exact .inr ⟨h1, h2⟩
theorem oddF_nodup : ∀ (fs l : List Int), l.Nodup → (oddF l fs).Nodup
  | [], l, h => h
  | q :: fs, l, h => by
    show (oddF (odd1 l q) fs).Nodup
    refine oddF_nodup fs _ ?_
    unfold odd1
    split
    · rename_i hq
      rw [List.nodup_append]
      refine ⟨h, by simp, fun x hx y hy e => ?_⟩
      rw [List.mem_singleton] at hy
      subst hy; subst e
      exact hq.2 hx
    · exact h
def plL (a b : Int) : List Int := oddF (oddF [0, 2] (facsOf (ab a))) (facsOf (ab b))
theorem plL_mem (a b x : Int) : x ∈ plL a b ↔ x = 0 ∨ x = 2 ∨ ((x ∈ facsOf (ab a) ∨ x ∈ facsOf (ab b)) ∧ 2 < x) := by
  unfold plL
  rw [oddF_mem, oddF_mem]
  simp only [List.mem_cons, List.not_mem_nil, or_false]
  constructor
  · rintro (((h | h) | h) | h)
    · exact .inl h
    · exact .inr (.inl h)
    · exact .inr (.inr ⟨.inl h.1, h.2⟩)
    · exact .inr (.inr ⟨.inr h.1, h.2⟩)
  · rintro (h | h | ⟨h | h, h2⟩)
    · exact .inl (.inl (.inl h))
    · exact .inl (.inl (.inr h))
    · exact .inl (.inr ⟨h, h2⟩)
    · exact .inr ⟨h, h2⟩
theorem plL_nodup (a b : Int) : (plL a b).Nodup := oddF_nodup _ _ (oddF_nodup _ _ (by decide))
theorem plL_sub {a b : Int} (ha : a ∈ DL) (hb : b ∈ DL) {x : Int} (h : x ∈ plL a b) : x ∈ P18 := by
  unfold P18
  rcases (plL_mem a b x).1 h with rfl | rfl | ⟨h | h, h2⟩
  · exact List.mem_cons_self ..
  · exact List.mem_cons_of_mem _ (List.mem_cons_self ..)
  · rcases DL_facs ha h with rfl | h3
    · omega
    · exact List.mem_cons_of_mem _ (List.mem_cons_of_mem _ h3)
  · rcases DL_facs hb h with rfl | h3
    · omega
    · exact List.mem_cons_of_mem _ (List.mem_cons_of_mem _ h3)
theorem facs_all : (DL.all fun x => OP.all fun p => x.tmod p != 0 || (facsOf (ab x)).contains p) = true := by decide +kernel
theorem DL_no {x p : Int} (hx : x ∈ DL) (hp : p ∈ OP) (h : p ∉ facsOf (ab x)) : expo x p = 0 := by
  have h1 := List.all_eq_true.1 (List.all_eq_true.1 facs_all x hx) p hp
  rw [Bool.or_eq_true] at h1
  rcases h1 with h1 | h1
  · exact (expo_no (by simpa using h1)).1
  · exact absurd (List.contains_iff_mem.1 h1) h
theorem hv_out {a b p : Int} (ha : a ∈ DL) (hb : b ∈ DL) (hp : p ∈ P18) (h : p ∉ plL a b) : hv a b p = 0 := by
  unfold P18 at hp
  rcases List.mem_cons.1 hp with rfl | hp
  · exact absurd ((plL_mem a b 0).2 (.inl rfl)) h
  · rcases List.mem_cons.1 hp with rfl | hp
    · exact absurd ((plL_mem a b 2).2 (.inr (.inl rfl))) h
    · obtain ⟨-, p3, -, -⟩ := op_prime hp
      have h1 := DL_no ha hp fun hq => h ((plL_mem a b p).2 (.inr (.inr ⟨.inl hq, by omega⟩)))
      have h2 := DL_no hb hp fun hq => h ((plL_mem a b p).2 (.inr (.inr ⟨.inr hq, by omega⟩)))
      unfold hv
      rw [if_neg (by omega), if_pos (by omega), h1, h2]
      simp
theorem perm_sum {l m : List Int} (h : l.Perm m) : l.sum = m.sum := by
  induction h with
  | nil => rfl
  | cons x _ ih => rw [List.sum_cons, List.sum_cons, ih]
  | swap x y l => simp only [List.sum_cons]; omega
  | trans _ _ h1 h2 => exact h1.trans h2
theorem sum_zero : ∀ (l : List Int), (∀ x ∈ l, x = 0) → l.sum = 0
  | [], _ => rfl
  | x :: l, h => by
    rw [List.sum_cons, h x (List.mem_cons_self ..), sum_zero l fun y hy => h y (List.mem_cons_of_mem _ hy)]
    rfl
theorem tot_places {a b : Int} (ha : a ∈ DL) (hb : b ∈ DL) : tot a b (plL a b) = tot a b P18 := by
  have h1 : (P18.filter fun p => decide (p ∈ plL a b)).Perm (plL a b) := by
    refine (List.perm_ext_iff_of_nodup ?_ (plL_nodup a b)).2 fun x => ?_
    · exact List.Nodup.sublist List.filter_sublist (by decide)
    · rw [List.mem_filter, decide_eq_true_eq]
      exact ⟨fun h => h.2, fun h => ⟨plL_sub ha hb h, h⟩⟩
  have h2 := List.filter_append_perm (fun p => decide (p ∈ plL a b)) P18
  have h3 : tot a b P18 = tot a b (P18.filter fun p => decide (p ∈ plL a b)) + tot a b (P18.filter fun p => !decide (p ∈ plL a b)) := by
    unfold tot
    rw [← perm_sum (h2.map (hv a b)), List.map_append, List.sum_append]
  have h4 : tot a b (P18.filter fun p => !decide (p ∈ plL a b)) = 0 := by
    unfold tot
    refine sum_zero _ fun x hx => ?_
    obtain ⟨p, hp, rfl⟩ := List.mem_map.1 hx
    rw [List.mem_filter] at hp
    exact hv_out ha hb hp.1 (by simpa using hp.2)
  have h5 : tot a b (P18.filter fun p => decide (p ∈ plL a b)) = tot a b (plL a b) := perm_sum (h1.map (hv a b))
  omega
/-- the product over the first places -/
def prodS (a b : Int) (l : List Int) : Int := sgn (tot a b l)
theorem prodS_snoc (a b : Int) (l : List Int) (p : Int) : prodS a b (l ++ [p]) = prodS a b l * sgn (hv a b p) := by
  unfold prodS tot
  rw [List.map_append, List.sum_append, sgn_add]
  simp
theorem prod_all {a b : Int} (ha : a ∈ DL) (hb : b ∈ DL) : prodS a b (plL a b) = 1 := by
  unfold prodS
  rw [tot_places ha hb, sgn, if_pos (tot_even ha hb)]
theorem solves_places' {a b : Int} (ha : a ∈ DL) (hb : b ∈ DL) : solves a b = (plL a b).all (good a b) := by
  obtain ⟨a0, a1, a2⟩ := DL_small ha
  obtain ⟨b0, b1, b2⟩ := DL_small hb
  have ea : entB a = true := by simp [entB, a0, inB_mk (show (-1000000 : Int) ≤ a ∧ a ≤ 1000000 by omega)]
  have eb : entB b = true := by simp [entB, b0, inB_mk (show (-1000000 : Int) ≤ b ∧ b ≤ 1000000 by omega)]
  unfold solves
  rw [ea, eb, Bool.eq_iff_iff]
  simp only [Bool.true_and, Bool.and_eq_true, List.all_eq_true]
  constructor
  · rintro ⟨⟨h0, h2⟩, h⟩ x hx
    rcases (plL_mem a b x).1 hx with rfl | rfl | ⟨h3, -⟩
    · exact h0
    · exact h2
    · exact h x (List.mem_append.2 h3)
  · intro h
    have g0 := h 0 ((plL_mem a b 0).2 (.inl rfl))
    have g2 := h 2 ((plL_mem a b 2).2 (.inr (.inl rfl)))
    refine ⟨⟨g0, g2⟩, fun x hx => ?_⟩
    have hx' := List.mem_append.1 hx
    by_cases h2 : 2 < x
    · exact h x ((plL_mem a b x).2 (.inr (.inr ⟨hx', h2⟩)))
    · have : x = 2 := by
        rcases hx' with h3 | h3
        · have := (facsOf_mem h3).1.1; omega
        · have := (facsOf_mem h3).1.1; omega
      rw [this]; exact g2
end Go.Proofs.Ytjhheemppoeecaa
